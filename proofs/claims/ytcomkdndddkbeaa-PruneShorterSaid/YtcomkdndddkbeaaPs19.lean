/- Texts that PruneShorter_law leans on, part 19. Conditions: none. -/
import Derived.Test.YtcomkdndddkbeaaPs18
namespace Go.Proofs.Ytcomkdndddkbeaa
open Go Go.Fw Go.RowKit
set_option linter.unusedVariables false
set_option linter.unusedSimpArgs false
set_option maxRecDepth 100000
set_option maxHeartbeats 16000000
set_option synthInstance.maxHeartbeats 200000
set_option synthInstance.maxSize 100000
attribute [local irreducible] WPA WLA WDA WDQ WDE QQ seqQ blockQ loopQ fnQ OpP OpT Tr TrP SL SLd OwnS LitS Bk BkE Ob
attribute [local irreducible] TblH VocH GridH RowH RowX RowsE RowE ClM
def mk4 : List ByteArray := [⟨#[60, 117, 110, 107, 62]⟩, ⟨#[60, 115, 62]⟩, ⟨#[60, 47, 115, 62]⟩, ⟨#[97]⟩]
def A4 : List (List EV) := [[((0, 0), [0]), ((0, -3), [1]), ((0, 0), [2]), ((-5, 0), [3])], [((-2, 0), [1, 2]), ((-8, 0), [1, 3])]]
theorem a_right : RightP ⟨#[97]⟩ := by
  refine ⟨?_, ⟨by decide, by decide⟩, by decide⟩
  have : ∀ i, i < 1 → ¬ BlankP (bt ⟨#[97]⟩ (i : Nat)) ∧ bt ⟨#[97]⟩ (i : Nat) ≠ 10 := by decide
  exact this
theorem mk4_ok : ofE mk4 = 0 := by
  refine ofE_0 ⟨by decide, rfl⟩ (by decide) fun j h1 h2 => ?_
  have h2 : j < 4 := h2
  have h3 : j = 3 := by omega
  subst h3
  exact ⟨a_right, by show findT (mk4.take 3) ⟨#[97]⟩ < 0; decide⟩
theorem val4 : ValA 0 mk4 A4 := by
  refine ⟨by decide, by decide, mk4_ok, ?_, ?_, ?_, rfl⟩
  · have : ∀ k : Nat, k < 2 → ∀ e ∈ A4.getD k [], entE e.2 e.1.1 e.1.2 ((k : Int) + 1) ((4 : Nat) : Int) (decide ((k : Int) = ((2 : Nat) : Int) - 1)) = 0 := by decide
    exact this
  · have h0 : ((A4.getD 0 []).map (·.2)).Pairwise ltL := by
      show [[0], [1], [2], [3]].Pairwise ltL
      simp [ltL, cmpL]
    have h1 : ((A4.getD 1 []).map (·.2)).Pairwise ltL := by
      show [[1, 2], [1, 3]].Pairwise ltL
      simp [ltL, cmpL]
    intro k hk
    have hk : k < 2 := hk
    rcases (show k = 0 ∨ k = 1 by omega) with rfl | rfl
    · exact h0
    · exact h1
  · have : ∀ k : Nat, 0 < k → k < 2 → ∀ e ∈ A4.getD k [], e.2.take k ∈ (A4.getD (k - 1) []).map (·.2) := by
      intro k h0 hk
      obtain rfl : k = 1 := by omega
      decide
    exact this
section
variable {L : List HP} {w0 : World} {I : Foot}
theorem one_tr42 : Tr Try.prog 22 #[] (SL w0 I L) (fun x : SV × SV × List SV × Foot => .agg #[.int .i64 0, .slice x.1.a x.1.n x.1.cap, .slice x.2.1.a x.2.1.n x.2.1.cap])
    (fun x w => (SubI x.2.2.2 I ∧ MdI x.2.2.2 (rd Int x.2.2.2) (rd En x.2.2.2) x.1 x.2.1 mk4 x.2.2.1 ∧ x.2.2.1.map (fun h => enV (rd Int x.2.2.2) (rd En x.2.2.2 h)) = A4) ∧ SL w0 x.2.2.2 L w) := by
  refine Tr.intro Try.func22 rfl Try.ntmps22 rfl ?_
  repeat' (first | ((first | refine WLA.m rfl rfl ?_ ?_ | refine WLA.st rfl ?_ ?_ | refine WLA.x rfl rfl ?_ (fun x => ?_) | refine WLA.x0 rfl ?_ (fun x => ?_)); first | exact trivial | exact rfl | assumption | omega | (refine ⟨?_, ?_⟩ <;> omega) | (simp only [Room, List.length_set, List.length_append, List.length_cons, List.length_nil, List.length_replicate]; omega) | decide | skip) | (refine Stp.go ?_) | (refine WPA.ifT ?_) | (refine WPA.ifF ?_) | ((first | refine WPA.dec ?_); first | refine .inl ⟨by first | assumption | omega | with_reducible rfl | (refine fun h => h ?_; first | assumption | with_reducible rfl) | (simp only [List.length_append, List.length_cons, List.length_nil, List.length_set] <;> omega) | decide, ?_⟩ | refine .inr ⟨by first | assumption | omega | with_reducible rfl | (refine fun h => h ?_; first | assumption | with_reducible rfl) | (simp only [List.length_append, List.length_cons, List.length_nil, List.length_set] <;> omega) | decide, ?_⟩) | ((first | refine WPA.ifBt ?_ ?_ | refine WPA.ifBnf ?_ ?_); assumption) | ((first | refine WPA.ifBnt ?_ ?_ | refine WPA.ifBf ?_ ?_); assumption) | ((first | refine WPA.ifs ?_ ?_ | refine WPA.ifB ?_ ?_) <;> intro hc))
  rename_i b ws e0 e1 e2 e3 l0 f0 f1 l1
  revert x; intro g
  refine QQ.ent (EntC.out (L' := LitS 36 g [l0, l1] :: LitS 54 l1 ([(f0, -2, 0), (f1, -8, 0)] : List En) :: LitS 3 f1 ([1, 3] : List Int) :: LitS 3 f0 ([1, 2] : List Int) :: LitS 54 l0 ([(e0, 0, 0), (e1, 0, -3), (e2, 0, 0), (e3, -5, 0)] : List En) :: LitS 3 e3 ([3] : List Int) :: LitS 3 e2 ([2] : List Int) :: LitS 3 e1 ([1] : List Int) :: LitS 3 e0 ([0] : List Int) :: LitS 9 ws ([⟨#[60, 117, 110, 107, 62]⟩, ⟨#[60, 115, 62]⟩, ⟨#[60, 47, 115, 62]⟩, ⟨#[97]⟩] : List ByteArray) :: Bk b 25 [.int .i64 0, .slice ws.a ws.n ws.cap, .slice g.a g.n g.cap] :: L)) ?_
  refine QQ.freeze fun R1 h1 => ?_
  refine QQ.freeze fun R2 h2 => ?_
  refine QQ.freeze fun R3 h3 => ?_
  refine QQ.freeze fun R4 h4 => ?_
  refine QQ.freeze fun R5 h5 => ?_
  refine QQ.freeze fun R6 h6 => ?_
  refine QQ.freeze fun R7 h7 => ?_
  refine QQ.freeze fun R8 h8 => ?_
  refine QQ.freeze fun R9 h9 => ?_
  refine QQ.freeze fun R10 h10 => ?_
  have g1 := SlI.ofLit h1
  have g2 := SlI.ofLit h2
  have g3 := SlI.ofLit h3
  have g4 := SlI.ofLit h4
  have g5 := SlI.ofLit h5
  have g6 := SlI.ofLit h6
  have g7 := SlI.ofLit h7
  have g8 := SlI.ofLit h8
  have g9 := SlI.ofLit h9
  have g10 : SlI R10 ws ByteArray inferInstance mk4 := SlI.ofLit h10
  clear h1 h2 h3 h4 h5 h6 h7 h8 h9 h10
  have hsub : SubI (R10 ++ (R9 ++ (R8 ++ (R7 ++ (R6 ++ (R5 ++ (R4 ++ (R3 ++ (R2 ++ (R1 ++ I)))))))))) I := inferInstance
  have j1 : SlI (R10 ++ (R9 ++ (R8 ++ (R7 ++ (R6 ++ (R5 ++ (R4 ++ (R3 ++ (R2 ++ (R1 ++ I)))))))))) g SV inferInstance [l0, l1] := inferInstance
  have j2 : SlI (R10 ++ (R9 ++ (R8 ++ (R7 ++ (R6 ++ (R5 ++ (R4 ++ (R3 ++ (R2 ++ (R1 ++ I)))))))))) l1 En inferInstance [(f0, -2, 0), (f1, -8, 0)] := inferInstance
  have j3 : SlI (R10 ++ (R9 ++ (R8 ++ (R7 ++ (R6 ++ (R5 ++ (R4 ++ (R3 ++ (R2 ++ (R1 ++ I)))))))))) f1 Int inferInstance [1, 3] := inferInstance
  have j4 : SlI (R10 ++ (R9 ++ (R8 ++ (R7 ++ (R6 ++ (R5 ++ (R4 ++ (R3 ++ (R2 ++ (R1 ++ I)))))))))) f0 Int inferInstance [1, 2] := inferInstance
  have j5 : SlI (R10 ++ (R9 ++ (R8 ++ (R7 ++ (R6 ++ (R5 ++ (R4 ++ (R3 ++ (R2 ++ (R1 ++ I)))))))))) l0 En inferInstance [(e0, 0, 0), (e1, 0, -3), (e2, 0, 0), (e3, -5, 0)] := inferInstance
  have j6 : SlI (R10 ++ (R9 ++ (R8 ++ (R7 ++ (R6 ++ (R5 ++ (R4 ++ (R3 ++ (R2 ++ (R1 ++ I)))))))))) e3 Int inferInstance [3] := inferInstance
  have j7 : SlI (R10 ++ (R9 ++ (R8 ++ (R7 ++ (R6 ++ (R5 ++ (R4 ++ (R3 ++ (R2 ++ (R1 ++ I)))))))))) e2 Int inferInstance [2] := inferInstance
  have j8 : SlI (R10 ++ (R9 ++ (R8 ++ (R7 ++ (R6 ++ (R5 ++ (R4 ++ (R3 ++ (R2 ++ (R1 ++ I)))))))))) e1 Int inferInstance [1] := inferInstance
  have j9 : SlI (R10 ++ (R9 ++ (R8 ++ (R7 ++ (R6 ++ (R5 ++ (R4 ++ (R3 ++ (R2 ++ (R1 ++ I)))))))))) e0 Int inferInstance [0] := inferInstance
  have j10 : SlI (R10 ++ (R9 ++ (R8 ++ (R7 ++ (R6 ++ (R5 ++ (R4 ++ (R3 ++ (R2 ++ (R1 ++ I)))))))))) ws ByteArray inferInstance mk4 := inferInstance
  clear g1 g2 g3 g4 g5 g6 g7 g8 g9 g10
  generalize R10 ++ (R9 ++ (R8 ++ (R7 ++ (R6 ++ (R5 ++ (R4 ++ (R3 ++ (R2 ++ (R1 ++ I))))))))) = J at hsub j1 j2 j3 j4 j5 j6 j7 j8 j9 j10
  refine QQ.endc rfl (ws, g, [l0, l1], J) rfl fun w h => ⟨⟨hsub, ?_⟩, h.to⟩
  have r1 := j2.rd.det j2 h
  have r0 := j5.rd.det j5 h
  have k1 := j3.rd.det j3 h
  have k2 := j4.rd.det j4 h
  have k3 := j6.rd.det j6 h
  have k4 := j7.rd.det j7 h
  have k5 := j8.rd.det j8 h
  have k6 := j9.rd.det j9 h
  dsimp only
  refine ⟨⟨j10, j1, ?_, ?_, by decide, by decide, by simp, ?_, ?_⟩, ?_⟩
  · intro v hm
    simp only [List.mem_cons, List.not_mem_nil, or_false] at hm
    rcases hm with rfl | rfl
    · rw [r0]; exact j5
    · rw [r1]; exact j2
  · intro v hm
    simp only [List.mem_cons, List.not_mem_nil, or_false] at hm
    rcases hm with rfl | rfl
    · rw [r0]; intro p hp
      simp only [List.mem_cons, List.not_mem_nil, or_false] at hp
      rcases hp with rfl | rfl | rfl | rfl
      · dsimp only; rw [k6]; exact j9
      · dsimp only; rw [k5]; exact j8
      · dsimp only; rw [k4]; exact j7
      · dsimp only; rw [k3]; exact j6
    · rw [r1]; intro p hp
      simp only [List.mem_cons, List.not_mem_nil, or_false] at hp
      rcases hp with rfl | rfl
      · dsimp only; rw [k2]; exact j4
      · dsimp only; rw [k1]; exact j3
  · intro v hm
    simp only [List.mem_cons, List.not_mem_nil, or_false] at hm
    rcases hm with rfl | rfl
    · rw [r0]; simp
    · rw [r1]; simp
  · intro v hm
    simp only [List.mem_cons, List.not_mem_nil, or_false] at hm
    rcases hm with rfl | rfl
    · rw [r0]; intro p hp
      simp only [List.mem_cons, List.not_mem_nil, or_false] at hp
      rcases hp with rfl | rfl | rfl | rfl
      · dsimp only; rw [k6]; decide
      · dsimp only; rw [k5]; decide
      · dsimp only; rw [k4]; decide
      · dsimp only; rw [k3]; decide
    · rw [r1]; intro p hp
      simp only [List.mem_cons, List.not_mem_nil, or_false] at hp
      rcases hp with rfl | rfl
      · dsimp only; rw [k2]; decide
      · dsimp only; rw [k1]; decide
  · simp only [List.map_cons, List.map_nil, r0, r1, enV, k1, k2, k3, k4, k5, k6]; rfl
end
section
variable {kg : SV → List Int} {re : SV → List En} {gr : List SV}
theorem row4 (h : gr.map (fun h => enV kg (re h)) = A4) : gr.length = 2 ∧ (∀ k i : Nat, ∀ e : EV, k < 2 → (A4.getD k [])[i]? = some e → (at_ (re (at_ gr (k : Int))) (i : Int)).2 = e.1 ∧ kg (at_ (re (at_ gr (k : Int))) (i : Int)).1 = e.2) ∧ ∀ k : Nat, k < 2 → (re (at_ gr (k : Int))).length = (A4.getD k []).length := by
  have hl : gr.length = 2 := by have := congrArg List.length h; rw [List.length_map] at this; exact this
  have hr : ∀ k : Nat, k < 2 → A4.getD k [] = enV kg (re (at_ gr (k : Int))) := fun k hk => by rw [← h]; exact rows_get (by omega)
  refine ⟨hl, fun k i e hk he => ?_, fun k hk => by rw [hr k hk]; unfold enV; rw [List.length_map]⟩
  rw [hr k hk] at he
  have hi : i < (re (at_ gr (k : Int))).length := by have := (List.getElem?_eq_some_iff.1 he).1; unfold enV at this; rwa [List.length_map] at this
  rw [en_at hi] at he
  injection he with he
  exact ⟨by rw [← he], by rw [← he]⟩
theorem chk4 (h : gr.map (fun h => enV kg (re h)) = A4) : chkM kg re 0 mk4 gr = 0 := val_chkM (by rw [h]; exact val4)
theorem st4 (h : gr.map (fun h => enV kg (re h)) = A4) : chS re gr (stK kg re gr 0) = [[true, true, true, true], [true, false]] := by
  obtain ⟨hl, hv, hn⟩ := row4 h
  have hc := chk4 h
  have n0 : (re (at_ gr ((0 : Nat) : Int))).length = 4 := hn 0 (by omega)
  have n1 : (re (at_ gr ((1 : Nat) : Int))).length = 2 := hn 1 (by omega)
  have hb : bckN kg re gr [1] = -3 := by
    obtain ⟨f1, f2⟩ := chkM_fnd hc (i := 1) (by decide)
    have := (hv 0 1 _ (by omega) rfl).1
    unfold bckN
    rw [if_pos (show FndP kg re gr [1] from f1), show cdsG kg re gr [1] = (at_ (re (at_ gr 0)) ((1 : Nat) : Int)).2 from f2]
    rw [show at_ gr 0 = at_ gr ((0 : Nat) : Int) from rfl, this]
  have hp2 : prbN kg re gr 2 [] = 0 := by
    rw [prb_one hc, if_pos (by decide)]
    have := (hv 0 2 _ (by omega) rfl).1
    rw [show at_ (re (at_ gr 0)) 2 = at_ (re (at_ gr ((0 : Nat) : Int))) ((2 : Nat) : Int) from rfl, this]
  have hp3 : prbN kg re gr 3 [] = -5 := by
    rw [prb_one hc, if_pos (by decide)]
    have := (hv 0 3 _ (by omega) rfl).1
    rw [show at_ (re (at_ gr 0)) 3 = at_ (re (at_ gr ((0 : Nat) : Int))) ((3 : Nat) : Int) from rfl, this]
  have s0 : stK kg re gr 0 1 0 = true := by
    obtain ⟨a1, a2⟩ := hv 1 0 _ (by omega) rfl
    unfold stK
    rw [a1, a2]
    unfold stV
    rw [show List.take 1 [1, 2] = [(1 : Int)] from rfl, hb, show at_ ([1, 2] : List Int) ((1 : Nat) : Int) = 2 from rfl, show List.drop 1 [(1 : Int)] = [] from rfl, hp2]
    decide
  have s1 : stK kg re gr 0 1 1 = false := by
    obtain ⟨a1, a2⟩ := hv 1 1 _ (by omega) rfl
    unfold stK
    rw [a1, a2]
    unfold stV
    rw [show List.take 1 [1, 3] = [(1 : Int)] from rfl, hb, show at_ ([1, 3] : List Int) ((1 : Nat) : Int) = 3 from rfl, show List.drop 1 [(1 : Int)] = [] from rfl, hp3]
    decide
  unfold chS
  rw [hl]
  show [chR (re (at_ gr ((0 : Nat) : Int))).length (stK kg re gr 0 0) 0, chR (re (at_ gr ((1 : Nat) : Int))).length (stK kg re gr 0 1) 1] = _
  rw [n0, n1]
  show [[true, true, true, true], [decide (1 = 0) || stK kg re gr 0 1 0, decide (1 = 0) || stK kg re gr 0 1 1]] = _
  rw [s0, s1]; rfl
theorem nd4 {cn : SV → List Bool} {ks : List SV} (h : gr.map (fun h => enV kg (re h)) = A4) (hk : cn (at_ ks ((1 : Nat) : Int)) = [true, false]) : (chS re gr (ndK kg re gr cn ks))[1]? = some [true, false] := by
  obtain ⟨hl, hv, hn⟩ := row4 h
  have n1 : (re (at_ gr ((1 : Nat) : Int))).length = 2 := hn 1 (by omega)
  have hno : ∀ i : Nat, i < 2 → ¬ bgP kg re gr cn ks (nG kg re gr 1 i) := by
    rintro i hi ⟨k', i', h1, h2, _⟩
    have hl2 : (nG kg re gr 1 i).length = 2 := (chkM_words (chk4 h)).1 1 (by omega) _ (by rw [at_nat _ i (by omega)]; exact List.getElem_mem _)
    omega
  have q : ∀ (i : Nat) (b : Bool), i < 2 → at_ [true, false] (i : Int) = b → ndK kg re gr cn ks 1 i = b := by
    intro i b hi hb
    rw [Bool.eq_iff_iff, ndK_iff]
    unfold nK
    rw [hk, hb]
    exact ⟨fun h => h.resolve_right (hno i hi), .inl⟩
  rw [chS_get (by omega), n1]
  show some [decide (1 = 0) || ndK kg re gr cn ks 1 0, decide (1 = 0) || ndK kg re gr cn ks 1 1] = _
  rw [q 0 true (by omega) rfl, q 1 false (by omega) rfl]; rfl
end
theorem live_tr42 (w0 : World) (I : Foot) (L : List HP) : Tr Try.prog 7 #[] (SL w0 I L) (fun _ : Unit => .bool true) (fun _ => SL w0 I L) := by
  refine Tr.intro Try.func7 rfl Try.ntmps7 rfl ?_
  repeat' ((fail_if_success (guard_target =~ WPA _ _ _ (.region 2 _ _) _ _ _)); first | ((first | refine WLA.m rfl rfl ?_ ?_ | refine WLA.st rfl ?_ ?_ | refine WLA.x rfl rfl ?_ (fun x => ?_) | refine WLA.x0 rfl ?_ (fun x => ?_)); first | exact trivial | exact rfl | assumption | omega | (refine ⟨?_, ?_⟩ <;> omega) | (simp only [Room, List.length_set, List.length_append, List.length_cons, List.length_nil, List.length_replicate]; omega) | decide | skip) | (refine Stp.go ?_) | (guard_target =~ WLA _ _ _ _ _ (⟨_, .call ⟨.value (.func 22), _, _⟩, _, _, _, _⟩ :: _) _ _; first | (refine WLA.call rfl rfl (one_tr42) ?_; rintro ⟨wv, g, gr, J⟩; refine WLA.pure fun hx => ?_; dsimp only at hx ⊢; obtain ⟨hJ, hM, hA⟩ := hx) | (refine WLA.call0 rfl (one_tr42) ?_; rintro ⟨wv, g, gr, J⟩; refine WLA.pure fun hx => ?_; dsimp only at hx ⊢; obtain ⟨hJ, hM, hA⟩ := hx)) | (guard_target =~ WLA _ _ _ _ _ (⟨_, .call ⟨.value (.func 15), _, _⟩, _, _, _, _⟩ :: _) _ _; first | (refine WLA.call rfl rfl (Strong_ok hM (chk4 hA) (by decide)) ?_; rintro l) | (refine WLA.call0 rfl (Strong_ok hM (chk4 hA) (by decide)) ?_; rintro l)) | (refine WPA.ifT ?_) | (refine WPA.ifF ?_) | ((first | refine WPA.dec ?_); first | refine .inl ⟨by first | assumption | omega | with_reducible rfl | (refine fun h => h ?_; first | assumption | with_reducible rfl) | (simp only [List.length_append, List.length_cons, List.length_nil, List.length_set] <;> omega) | decide, ?_⟩ | refine .inr ⟨by first | assumption | omega | with_reducible rfl | (refine fun h => h ?_; first | assumption | with_reducible rfl) | (simp only [List.length_append, List.length_cons, List.length_nil, List.length_set] <;> omega) | decide, ?_⟩) | ((first | refine WPA.ifBt ?_ ?_ | refine WPA.ifBnf ?_ ?_); assumption) | ((first | refine WPA.ifBnt ?_ ?_ | refine WPA.ifBf ?_ ?_); assumption) | ((first | refine WPA.ifs ?_ ?_ | refine WPA.ifB ?_ ?_) <;> intro hc))
  rw [st4 hA]
  refine WPA.freeze fun R hR => ?_
  have hgd := hR.gd (J := R ++ J) ⟨fun _ h => List.mem_append_left _ h⟩
  have hJ2 : SubI (R ++ J) I := ⟨fun z hz => List.mem_append_right _ (hJ.out hz)⟩
  clear hR hM hA
  generalize R ++ J = J2 at hgd hJ2
  clear hJ
  obtain ⟨svs, c1, c2, c3⟩ := hgd
  have d0 : SlI J2 (at_ svs ((0 : Nat) : Int)) Bool inferInstance [true, true, true, true] := c3 0 (by decide)
  have d1 : SlI J2 (at_ svs ((1 : Nat) : Int)) Bool inferInstance [true, false] := c3 1 (by decide)
  have c2 : svs.length = 2 := c2
  have hmem : ∀ h ∈ svs, h = at_ svs ((0 : Nat) : Int) ∨ h = at_ svs ((1 : Nat) : Int) := by
    intro h hh
    obtain ⟨k, hk, rfl⟩ := List.getElem_of_mem hh
    rw [← at_nat svs k hk]
    rcases (show k = 0 ∨ k = 1 by omega) with rfl | rfl
    · exact .inl rfl
    · exact .inr rfl
  have hC3 : ∀ {J3 : Foot}, rd Bool J3 (at_ svs ((0 : Nat) : Int)) = [true, true, true, true] → rd Bool J3 (at_ svs ((1 : Nat) : Int)) = [true, false] → SlI J3 (at_ svs ((0 : Nat) : Int)) Bool inferInstance [true, true, true, true] → SlI J3 (at_ svs ((1 : Nat) : Int)) Bool inferInstance [true, false] → ∀ h ∈ svs, SlI J3 h Bool inferInstance (rd Bool J3 h) := by
    intro J3 q0 q1 e0 e1 h hh
    rcases hmem h hh with rfl | rfl
    · rw [q0]; exact e0
    · rw [q1]; exact e1
  have hF3 : ∀ {J3 : Foot} {gr2 : List SV}, rd Bool J3 (at_ svs ((0 : Nat) : Int)) = [true, true, true, true] → rd Bool J3 (at_ svs ((1 : Nat) : Int)) = [true, false] → gr2.map (fun h => enV (rd Int J3) (rd En J3 h)) = A4 → FitP (rd En J3) gr2 svs fun h => (rd Bool J3 h).length := by
    intro J3 gr2 q0 q1 hA
    obtain ⟨hl, _, hn⟩ := row4 hA
    refine ⟨by omega, fun k hk => ?_⟩
    rw [hn k (by omega)]
    rcases (show k = 0 ∨ k = 1 by omega) with rfl | rfl
    · show (rd Bool J3 (at_ svs ((0 : Nat) : Int))).length = _
      rw [q0]; rfl
    · show (rd Bool J3 (at_ svs ((1 : Nat) : Int))).length = _
      rw [q1]; rfl
  repeat' ((fail_if_success (guard_target =~ WPA _ _ _ (.region 3 _ _) _ _ _)); first | ((first | refine WLA.m rfl rfl ?_ ?_ | refine WLA.st rfl ?_ ?_ | refine WLA.x rfl rfl ?_ (fun x => ?_) | refine WLA.x0 rfl ?_ (fun x => ?_)); first | exact trivial | exact rfl | assumption | omega | (refine ⟨?_, ?_⟩ <;> omega) | (simp only [Room, List.length_set, List.length_append, List.length_cons, List.length_nil, List.length_replicate]; omega) | decide | skip) | (refine Stp.go ?_) | (guard_target =~ WLA _ _ _ _ _ (⟨_, .call ⟨.value (.func 22), _, _⟩, _, _, _, _⟩ :: _) _ _; first | (refine WLA.call rfl rfl (one_tr42) ?_; rintro ⟨wv2, g2, gr2, J3⟩; refine WLA.pure fun hx => ?_; dsimp only at hx ⊢; obtain ⟨hJ3, hM3, hA3⟩ := hx; have e0 := SlI.sub (I' := J3) d0; have e1 := SlI.sub (I' := J3) d1; have e2 := SlI.sub (I' := J3) c1; refine WLA.rd e0 fun q0 => WLA.rd e1 fun q1 => ?_) | (refine WLA.call0 rfl (one_tr42) ?_; rintro ⟨wv2, g2, gr2, J3⟩; refine WLA.pure fun hx => ?_; dsimp only at hx ⊢; obtain ⟨hJ3, hM3, hA3⟩ := hx; have e0 := SlI.sub (I' := J3) d0; have e1 := SlI.sub (I' := J3) d1; have e2 := SlI.sub (I' := J3) c1; refine WLA.rd e0 fun q0 => WLA.rd e1 fun q1 => ?_)) | (guard_target =~ WLA _ _ _ _ _ (⟨_, .call ⟨.value (.func 9), _, _⟩, _, _, _, _⟩ :: _) _ _; first | (refine WLA.call rfl rfl (Model_ok hM3 (chk4 hA3) e2 (hC3 q0 q1 e0 e1) (hF3 q0 q1 hA3)) ?_; rintro ⟨mw, mg, J4⟩; refine WLA.pure fun hy => ?_; dsimp only at hy ⊢; obtain ⟨hJ4, hMd⟩ := hy) | (refine WLA.call0 rfl (Model_ok hM3 (chk4 hA3) e2 (hC3 q0 q1 e0 e1) (hF3 q0 q1 hA3)) ?_; rintro ⟨mw, mg, J4⟩; refine WLA.pure fun hy => ?_; dsimp only at hy ⊢; obtain ⟨hJ4, hMd⟩ := hy)) | (refine WPA.ifT ?_) | (refine WPA.ifF ?_) | ((first | refine WPA.dec ?_); first | refine .inl ⟨by first | assumption | omega | with_reducible rfl | (refine fun h => h ?_; first | assumption | with_reducible rfl) | (simp only [List.length_append, List.length_cons, List.length_nil, List.length_set] <;> omega) | decide, ?_⟩ | refine .inr ⟨by first | assumption | omega | with_reducible rfl | (refine fun h => h ?_; first | assumption | with_reducible rfl) | (simp only [List.length_append, List.length_cons, List.length_nil, List.length_set] <;> omega) | decide, ?_⟩) | ((first | refine WPA.ifBt ?_ ?_ | refine WPA.ifBnf ?_ ?_); assumption) | ((first | refine WPA.ifBnt ?_ ?_ | refine WPA.ifBf ?_ ?_); assumption) | ((first | refine WPA.ifs ?_ ?_ | refine WPA.ifB ?_ ?_) <;> intro hc))
  rw [hA3] at hMd
  have hb1 := fltM_get (A := A4) rfl (nd4 (cn := rd Bool J3) (ks := svs) hA3 q1)
  have hBl : (fltM A4 (chS (rd En J3) gr2 (ndK (rd Int J3) (rd En J3) gr2 (rd Bool J3) svs))).length = 2 := by
    unfold fltM; rw [List.length_zipWith, chS_len, (row4 hA3).1]; rfl
  obtain ⟨_, gr3, m1, m2, m3⟩ := hMd
  rw [hBl] at m2 m3
  have m4 := m3 1 (by omega)
  rw [getD_some hb1] at m4
  refine WPA.knowI (fun w hw => m4.nst hw) fun hnst => ?_
  obtain ⟨⟨p1, _⟩, p3⟩ := hnst
  generalize rd En J4 (at_ gr3 ((1 : Nat) : Int)) = cs at p1 p3
  have hcl : (cs.length : Int) = 1 := by
    have := congrArg List.length p3
    unfold enV at this
    rw [List.length_map] at this
    rw [this]; rfl
  have p1 : SlI J4 (at_ gr3 1) En inferInstance cs := p1
  have hgl : (gr3.length : Int) = 2 := by omega
  have hsl : (svs.length : Int) = 2 := by omega
  have e3 := SlI.sub (I' := J4) e2
  have e4 : SlI J4 (at_ svs 1) Bool inferInstance [true, false] := SlI.sub (I' := J4) e1
  have v0 : at_ [true, false] 0 = true := rfl
  have v1 : at_ [true, false] 1 = false := rfl
  have hi1 : (0 : Int) ≤ 1 ∧ (1 : Int) < gr3.length := by omega
  have hi2 : (0 : Int) ≤ 1 ∧ (1 : Int) < svs.length := by omega
  have hi3 : (0 : Int) ≤ 0 ∧ (0 : Int) < ([true, false] : List Bool).length := by decide
  have hi4 : (0 : Int) ≤ 1 ∧ (1 : Int) < ([true, false] : List Bool).length := by decide
  repeat' (first | ((rw [v0])) | ((rw [v1])) | ((first | refine WLA.m rfl rfl ?_ ?_ | refine WLA.st rfl ?_ ?_ | refine WLA.x rfl rfl ?_ (fun x => ?_) | refine WLA.x0 rfl ?_ (fun x => ?_)); first | exact trivial | exact rfl | assumption | omega | (refine ⟨?_, ?_⟩ <;> omega) | (simp only [Room, List.length_set, List.length_append, List.length_cons, List.length_nil, List.length_replicate]; omega) | decide | skip) | (refine Stp.go ?_) | (refine WPA.ifT ?_) | (refine WPA.ifF ?_) | (refine WLA.no rfl rfl ?_) | ((first | refine WPA.dec ?_ | ((fail_if_success (guard_target =~ WLA _ _ _ _ _ _ (put1 _ _ (.bool true)) _)); (fail_if_success (guard_target =~ WLA _ _ _ _ _ _ (put1 _ _ (.bool false)) _)); refine WLA.dec rfl rfl ?_) | refine WLA.pk ?_); first | refine .inl ⟨by first | assumption | omega | with_reducible rfl | (refine fun h => h ?_; first | assumption | with_reducible rfl) | (simp only [List.length_append, List.length_cons, List.length_nil, List.length_set] <;> omega) | decide, ?_⟩ | refine .inr ⟨by first | assumption | omega | with_reducible rfl | (refine fun h => h ?_; first | assumption | with_reducible rfl) | (simp only [List.length_append, List.length_cons, List.length_nil, List.length_set] <;> omega) | decide, ?_⟩) | ((first | refine WPA.ifBt ?_ ?_ | refine WPA.ifBnf ?_ ?_); assumption) | ((first | refine WPA.ifBnt ?_ ?_ | refine WPA.ifBf ?_ ?_); assumption) | ((first | refine WPA.ifs ?_ ?_ | refine WPA.ifB ?_ ?_) <;> intro hc) | ((fail_if_success (guard_target =~ WLA _ _ _ _ _ _ (put1 _ _ (.bool true)) _)); (fail_if_success (guard_target =~ WLA _ _ _ _ _ _ (put1 _ _ (.bool false)) _)); (first | refine WLA.both rfl rfl ?_ ?_ | refine WLA.bothB rfl rfl ?_ ?_) <;> intro hg))
  exact QQ.end_ rfl () rfl fun w h => (h.sub fun z hz => hJ4.out (hJ3.out (hJ2.out hz))).to
end Go.Proofs.Ytcomkdndddkbeaa
namespace Go.Proofs.Ytcomkdndddkbeaa
open Go Go.Fw Go.RowKit
set_option linter.unusedVariables false
set_option linter.unusedSimpArgs false
set_option maxRecDepth 100000
set_option maxHeartbeats 16000000
set_option synthInstance.maxHeartbeats 200000
set_option synthInstance.maxSize 100000
attribute [local irreducible] WPA WLA WDA WDQ WDE QQ seqQ blockQ loopQ fnQ OpP OpT Tr TrP SL SLd OwnS LitS Bk BkE Ob
attribute [local irreducible] TblH VocH GridH RowH RowX RowsE RowE ClM
section
variable {kg : SV → List Int} {re : SV → List En} {cn : SV → List Bool} {L : List HP} {w0 : World} {I : Foot}
theorem MdR.sub {J : Foot} {w g : SV} {ws : List ByteArray} {gr : List SV} (h : MdR I kg re w g ws gr) (hs : SubI J I) : MdR J kg re w g ws gr :=
  ⟨h.words.sub, h.grams.sub, fun v hv => (h.rows v hv).sub, fun v hv p hp => (h.elems v hv p hp).sub, h.wsz⟩
theorem MdI.subH {J : Foot} {w g : SV} {ws : List ByteArray} {gr : List SV} (h : MdI I kg re w g ws gr) (hs : SubI J I) : MdI J kg re w g ws gr :=
  ⟨h.words.sub, h.grams.sub, fun v hv => (h.rows v hv).sub, fun v hv p hp => (h.elems v hv p hp).sub, h.wsz, h.wln, h.gln, h.rln, h.kln⟩
theorem rSame_zero : Tr Try.prog 11 #[.agg #[.int .i64 0, .slice none 0 0, .slice none 0 0], .agg #[.int .i64 0, .slice none 0 0, .slice none 0 0]] (SL w0 I L) (fun _ : Unit => .bool true) (fun _ => SL w0 I L) := by
  have h0 : MdL I SV.nil SV.nil [] [] := ⟨SlI.nil, [], SlI.nil, rfl, fun k hk => by simp at hk⟩
  have f0 : FewA [] [] := ⟨⟨by simp, by simp⟩, fun es h => by simp at h⟩
  have := rSame_trI (w0 := w0) (L := L) (fr := 0) (fr2 := 0) h0 h0 f0 f0
  rwa [show decide ((0 : Int) = 0 ∧ ([] : List ByteArray) = [] ∧ ([] : List (List EV)) = []) = true from decide_eq_true ⟨rfl, rfl, rfl⟩] at this
theorem MdQ.mdI {w g : SV} {ws : List ByteArray} {gr : List SV} {A : List (List EV)} (h : MdQ I w g ws gr A) (f : FewA ws A) (hz : ∀ s ∈ ws, s.size ≤ 140737488351232) : MdI I (rd Int I) (rd En I) w g ws gr := by
  have hl := h.len
  have ha : ∀ v ∈ gr, (rd En I v).length ≤ 1000000 ∧ ∀ p ∈ rd En I v, (rd Int I p.1).length ≤ 1000000 := fun v hv => by
    obtain ⟨i, hi, rfl⟩ := List.getElem_of_mem hv
    have := h.at f hi
    rw [at_nat gr i hi] at this
    exact this.2.2
  exact ⟨h.words, h.grams, fun v hv => (h.rows v hv).1, fun v hv => (h.rows v hv).2, hz, f.1.1, by have := f.1.2; omega, fun v hv => (ha v hv).1, fun v hv => (ha v hv).2⟩
theorem FewA.sh {ws : List ByteArray} {A : List (List EV)} {m : Nat} (f : FewA ws A) (hm : m < A.length) : FewA ws (shM A m) := by
  refine ⟨⟨f.1.1, by rw [shM_len hm]; have := f.1.2; omega⟩, fun es hes => ?_⟩
  obtain ⟨k, hk, rfl⟩ := List.getElem_of_mem hes
  have e : (shM A m)[k] = (shM A m).getD k [] := by rw [List.getD_eq_getElem?_getD, List.getElem?_eq_getElem hk]; rfl
  rw [shM_len hm] at hk
  rw [e]
  by_cases hkm : k = m
  · subst hkm
    rw [shM_at hm, List.getD_eq_getElem?_getD, List.getElem?_eq_getElem hm]
    obtain ⟨f1, f2⟩ := f.2 _ (List.getElem_mem hm)
    exact ⟨by simpa using f1, fun e he => by obtain ⟨q, hq, rfl⟩ := List.mem_map.1 he; exact f2 q hq⟩
  · rw [shM_lt hm (by omega), List.getD_eq_getElem?_getD, List.getElem?_eq_getElem (show k < A.length by omega)]
    exact f.2 _ (List.getElem_mem _)
theorem rShorter_trS {fr : Int} {m : Nat} {wv g : SV} {ws : List ByteArray} {gr : List SV} (hM : MdI I kg re wv g ws gr) (hm : m < gr.length) :
    Tr Try.prog 20 #[.agg #[.int .i64 fr, .slice wv.a wv.n wv.cap, .slice g.a g.n g.cap], .int .i64 ((m + 1 : Nat) : Int)] (SL w0 I L) (fun x : { x : SV × Foot // SubI x.2 I ∧ MdL x.2 wv x.1 ws (shM (gr.map fun h => enV kg (re h)) m) } => .agg #[.int .i64 fr, .slice wv.a wv.n wv.cap, .slice x.1.1.a x.1.1.n x.1.1.cap])
      (fun x => SL w0 x.1.2 L) := (rShorter_tr hM hm).conv (fun _ h => h) (fun x w h => ⟨⟨x, h.1⟩, rfl, h.2⟩)
theorem row0_eq {kg2 : SV → List Int} {re2 : SV → List En} {gr gr2 : List SV} {m : Nat} (hm : m < gr.length) (hg2 : 0 < gr2.length) (h : gr2.map (fun h => enV kg2 (re2 h)) = shM (gr.map fun h => enV kg (re h)) m) {i : Nat} (hi : i < (re (at_ gr 0)).length) :
    (at_ (re2 (at_ gr2 0)) (i : Int)).2.1 = (at_ (re (at_ gr 0)) (i : Int)).2.1 := by
  have e0 : enV kg2 (re2 (at_ gr2 ((0 : Nat) : Int))) = (shM (gr.map fun h => enV kg (re h)) m).getD 0 [] := by rw [← h]; exact (rows_get hg2).symm
  have e1 : (gr.map fun h => enV kg (re h)).getD 0 [] = enV kg (re (at_ gr ((0 : Nat) : Int))) := rows_get (by omega)
  have hA : (gr.map fun h => enV kg (re h)).length = gr.length := List.length_map _
  have hp : ((enV kg2 (re2 (at_ gr2 ((0 : Nat) : Int)))).map fun e => e.1.1) = (enV kg (re (at_ gr ((0 : Nat) : Int)))).map fun e => e.1.1 := by
    rw [e0]
    by_cases hm0 : m = 0
    · subst hm0
      rw [shM_at (by omega), e1, List.map_map]; rfl
    · rw [shM_lt (by omega) (by omega), e1]
  unfold enV at hp
  rw [List.map_map, List.map_map] at hp
  have hl : (re2 (at_ gr2 ((0 : Nat) : Int))).length = (re (at_ gr ((0 : Nat) : Int))).length := by have := congrArg List.length hp; simpa using this
  have hq := congrArg (fun l => l[i]?) hp
  have hi2 : i < (re2 (at_ gr2 ((0 : Nat) : Int))).length := by rw [hl]; exact hi
  have hi1 : i < (re (at_ gr ((0 : Nat) : Int))).length := hi
  simp only [List.getElem?_map, List.getElem?_eq_getElem hi2, List.getElem?_eq_getElem hi1, Option.map_some, Function.comp] at hq
  injection hq with hq
  rw [show at_ gr2 0 = at_ gr2 ((0 : Nat) : Int) from rfl, show at_ gr 0 = at_ gr ((0 : Nat) : Int) from rfl, at_nat _ i hi2, at_nat _ i hi1]
  exact hq
end
theorem PruneShorter_tr {kg : SV → List Int} {re : SV → List En} {w0 : World} {I : Foot} {fr o wd : Int} {w g : SV} {ws : List ByteArray} {gr : List SV} (hM : MdR I kg re w g ws gr) :
    Tr Try.prog 5 #[.agg #[.int .i64 fr, .slice w.a w.n w.cap, .slice g.a g.n g.cap], .int .i64 o, .int .i64 wd] (SL w0 I []) (fun _ : Unit => .bool true) (fun _ => SL w0 I []) := by
  refine Tr.intro Try.func5 rfl Try.ntmps5 rfl ?_
  repeat' ((fail_if_success (guard_target =~ WPA _ _ _ (.region 3 _ _) _ _ _)); first | ((first | refine WLA.m rfl rfl ?_ ?_ | refine WLA.st rfl ?_ ?_ | refine WLA.x rfl rfl ?_ (fun x => ?_) | refine WLA.x0 rfl ?_ (fun x => ?_)); first | exact trivial | exact rfl | assumption | omega | (refine ⟨?_, ?_⟩ <;> omega) | (simp only [Room, List.length_set, List.length_append, List.length_cons, List.length_nil, List.length_replicate]; omega) | decide | skip) | (refine Stp.go ?_) | (guard_target =~ WLA _ _ _ _ _ (⟨_, .call ⟨.value (.func 6), _, _⟩, _, _, _, _⟩ :: _) _ _; first | (refine WLA.call rfl rfl (Small_tr31 hM) ?_; rintro ⟨b, hb⟩; dsimp only; cases b) | (refine WLA.call0 rfl (Small_tr31 hM) ?_; rintro ⟨b, hb⟩; dsimp only; cases b)) | (guard_target =~ WLA _ _ _ _ _ (⟨_, .call ⟨.value (.func 7), _, _⟩, _, _, _, _⟩ :: _) _ _; first | (refine WLA.call rfl rfl (live_tr42 _ _ _) ?_; rintro ⟨⟩) | (refine WLA.call0 rfl (live_tr42 _ _ _) ?_; rintro ⟨⟩)) | (refine WPA.ifT ?_) | (refine WPA.ifF ?_) | ((first | refine WPA.dec ?_); first | refine .inl ⟨by first | assumption | omega | with_reducible rfl | (refine fun h => h ?_; first | assumption | with_reducible rfl) | (simp only [List.length_append, List.length_cons, List.length_nil, List.length_set] <;> omega) | decide, ?_⟩ | refine .inr ⟨by first | assumption | omega | with_reducible rfl | (refine fun h => h ?_; first | assumption | with_reducible rfl) | (simp only [List.length_append, List.length_cons, List.length_nil, List.length_set] <;> omega) | decide, ?_⟩) | ((first | refine WPA.ifBt ?_ ?_ | refine WPA.ifBnf ?_ ?_); assumption) | ((first | refine WPA.ifBnt ?_ ?_ | refine WPA.ifBf ?_ ?_); assumption) | ((first | refine WPA.ifs ?_ ?_ | refine WPA.ifB ?_ ?_) <;> intro hc))
  · exact QQ.end_ rfl () rfl fun w h => h.to
  have hM2 := hM.few (hb rfl)
  have fa := (hb rfl).fewA
  have hg := hM2.grams
  have hcc : chkM kg re fr ws gr = chkM kg re fr ws gr := rfl
  revert x; intro t3
  by_cases hck : chkM kg re fr ws gr ≠ 0
  · skip
    repeat' (first | ((first | refine WLA.m rfl rfl ?_ ?_ | refine WLA.st rfl ?_ ?_ | refine WLA.x rfl rfl ?_ (fun x => ?_) | refine WLA.x0 rfl ?_ (fun x => ?_)); first | exact trivial | exact rfl | assumption | omega | (refine ⟨?_, ?_⟩ <;> omega) | (simp only [Room, List.length_set, List.length_append, List.length_cons, List.length_nil, List.length_replicate]; omega) | decide | skip) | (refine Stp.go ?_) | (guard_target =~ WLA _ _ _ _ _ (⟨_, .call ⟨.value (.func 19), _, _⟩, _, _, _, _⟩ :: _) _ _; first | (refine WLA.call rfl rfl (Shorter_bad hM2 hck) ?_; rintro ⟨⟩) | (refine WLA.call0 rfl (Shorter_bad hM2 hck) ?_; rintro ⟨⟩)) | (guard_target =~ WLA _ _ _ _ _ (⟨_, .call ⟨.value (.func 10), _, _⟩, _, _, _, _⟩ :: _) _ _; first | (refine WLA.call rfl rfl (rCheck_tr hM2) ?_; rintro ⟨⟩) | (refine WLA.call0 rfl (rCheck_tr hM2) ?_; rintro ⟨⟩)) | (guard_target =~ WLA _ _ _ _ _ (⟨_, .call ⟨.value (.func 11), _, _⟩, _, _, _, _⟩ :: _) _ _; first | (refine WLA.call rfl rfl (rSame_zero) ?_; rintro ⟨⟩) | (refine WLA.call0 rfl (rSame_zero) ?_; rintro ⟨⟩)) | (guard_target =~ WLA _ _ _ _ _ (⟨_, .call ⟨.value (.func 7), _, _⟩, _, _, _, _⟩ :: _) _ _; first | (refine WLA.call rfl rfl (live_tr42 _ _ _) ?_; rintro ⟨⟩) | (refine WLA.call0 rfl (live_tr42 _ _ _) ?_; rintro ⟨⟩)) | (refine WPA.ifT ?_) | (refine WPA.ifF ?_) | (refine WLA.no rfl rfl ?_) | ((first | refine WPA.dec ?_ | ((fail_if_success (guard_target =~ WLA _ _ _ _ _ _ (put1 _ _ (.bool true)) _)); (fail_if_success (guard_target =~ WLA _ _ _ _ _ _ (put1 _ _ (.bool false)) _)); refine WLA.dec rfl rfl ?_) | refine WLA.pk ?_); first | refine .inl ⟨by first | assumption | omega | with_reducible rfl | (refine fun h => h ?_; first | assumption | with_reducible rfl) | (simp only [List.length_append, List.length_cons, List.length_nil, List.length_set] <;> omega) | decide, ?_⟩ | refine .inr ⟨by first | assumption | omega | with_reducible rfl | (refine fun h => h ?_; first | assumption | with_reducible rfl) | (simp only [List.length_append, List.length_cons, List.length_nil, List.length_set] <;> omega) | decide, ?_⟩) | ((first | refine WPA.ifBt ?_ ?_ | refine WPA.ifBnf ?_ ?_); assumption) | ((first | refine WPA.ifBnt ?_ ?_ | refine WPA.ifBf ?_ ?_); assumption) | ((first | refine WPA.ifs ?_ ?_ | refine WPA.ifB ?_ ?_) <;> intro hc) | ((fail_if_success (guard_target =~ WLA _ _ _ _ _ _ (put1 _ _ (.bool true)) _)); (fail_if_success (guard_target =~ WLA _ _ _ _ _ _ (put1 _ _ (.bool false)) _)); (first | refine WLA.both rfl rfl ?_ ?_ | refine WLA.bothB rfl rfl ?_ ?_) <;> intro hg))
    all_goals exact QQ.end_ rfl () rfl fun w h => h.to
  have hck0 := Classical.byContradiction hck
  have hCk : ∀ {L : List HP}, Tr Try.prog 10 #[.agg #[.int .i64 fr, .slice w.a w.n w.cap, .slice g.a g.n g.cap]] (SL w0 I L) (fun _ : Unit => .int .i64 0) (fun _ => SL w0 I L) := by
    intro L
    have := rCheck_tr (L := L) (w0 := w0) (fr := fr) hM2
    rwa [hck0] at this
  by_cases ho : o < 1 ∨ gr.length < o
  · by_cases h1 : o < 1
    · skip
      repeat' (first | ((first | refine WLA.m rfl rfl ?_ ?_ | refine WLA.st rfl ?_ ?_ | refine WLA.x rfl rfl ?_ (fun x => ?_) | refine WLA.x0 rfl ?_ (fun x => ?_)); first | exact trivial | exact rfl | assumption | omega | (refine ⟨?_, ?_⟩ <;> omega) | (simp only [Room, List.length_set, List.length_append, List.length_cons, List.length_nil, List.length_replicate]; omega) | decide | skip) | (refine Stp.go ?_) | (guard_target =~ WLA _ _ _ _ _ (⟨_, .call ⟨.value (.func 19), _, _⟩, _, _, _, _⟩ :: _) _ _; first | (refine WLA.call rfl rfl (Shorter_arg hM2 hck0 ho) ?_; rintro ⟨⟩) | (refine WLA.call0 rfl (Shorter_arg hM2 hck0 ho) ?_; rintro ⟨⟩)) | (guard_target =~ WLA _ _ _ _ _ (⟨_, .call ⟨.value (.func 10), _, _⟩, _, _, _, _⟩ :: _) _ _; first | (refine WLA.call rfl rfl (hCk) ?_; rintro ⟨⟩) | (refine WLA.call0 rfl (hCk) ?_; rintro ⟨⟩)) | (guard_target =~ WLA _ _ _ _ _ (⟨_, .call ⟨.value (.func 11), _, _⟩, _, _, _, _⟩ :: _) _ _; first | (refine WLA.call rfl rfl (rSame_zero) ?_; rintro ⟨⟩) | (refine WLA.call0 rfl (rSame_zero) ?_; rintro ⟨⟩)) | (guard_target =~ WLA _ _ _ _ _ (⟨_, .call ⟨.value (.func 7), _, _⟩, _, _, _, _⟩ :: _) _ _; first | (refine WLA.call rfl rfl (live_tr42 _ _ _) ?_; rintro ⟨⟩) | (refine WLA.call0 rfl (live_tr42 _ _ _) ?_; rintro ⟨⟩)) | (refine WPA.ifT ?_) | (refine WPA.ifF ?_) | (refine WLA.no rfl rfl ?_) | ((first | refine WPA.dec ?_ | ((fail_if_success (guard_target =~ WLA _ _ _ _ _ _ (put1 _ _ (.bool true)) _)); (fail_if_success (guard_target =~ WLA _ _ _ _ _ _ (put1 _ _ (.bool false)) _)); refine WLA.dec rfl rfl ?_) | refine WLA.pk ?_); first | refine .inl ⟨by first | assumption | omega | with_reducible rfl | (refine fun h => h ?_; first | assumption | with_reducible rfl) | (simp only [List.length_append, List.length_cons, List.length_nil, List.length_set] <;> omega) | decide, ?_⟩ | refine .inr ⟨by first | assumption | omega | with_reducible rfl | (refine fun h => h ?_; first | assumption | with_reducible rfl) | (simp only [List.length_append, List.length_cons, List.length_nil, List.length_set] <;> omega) | decide, ?_⟩) | ((first | refine WPA.ifBt ?_ ?_ | refine WPA.ifBnf ?_ ?_); assumption) | ((first | refine WPA.ifBnt ?_ ?_ | refine WPA.ifBf ?_ ?_); assumption) | ((first | refine WPA.ifs ?_ ?_ | refine WPA.ifB ?_ ?_) <;> intro hc) | ((fail_if_success (guard_target =~ WLA _ _ _ _ _ _ (put1 _ _ (.bool true)) _)); (fail_if_success (guard_target =~ WLA _ _ _ _ _ _ (put1 _ _ (.bool false)) _)); (first | refine WLA.both rfl rfl ?_ ?_ | refine WLA.bothB rfl rfl ?_ ?_) <;> intro hg))
      all_goals exact QQ.end_ rfl () rfl fun w h => h.to
    · have h2 : (gr.length : Int) < o := ho.resolve_left h1
      repeat' (first | ((first | refine WLA.m rfl rfl ?_ ?_ | refine WLA.st rfl ?_ ?_ | refine WLA.x rfl rfl ?_ (fun x => ?_) | refine WLA.x0 rfl ?_ (fun x => ?_)); first | exact trivial | exact rfl | assumption | omega | (refine ⟨?_, ?_⟩ <;> omega) | (simp only [Room, List.length_set, List.length_append, List.length_cons, List.length_nil, List.length_replicate]; omega) | decide | skip) | (refine Stp.go ?_) | (guard_target =~ WLA _ _ _ _ _ (⟨_, .call ⟨.value (.func 19), _, _⟩, _, _, _, _⟩ :: _) _ _; first | (refine WLA.call rfl rfl (Shorter_arg hM2 hck0 ho) ?_; rintro ⟨⟩) | (refine WLA.call0 rfl (Shorter_arg hM2 hck0 ho) ?_; rintro ⟨⟩)) | (guard_target =~ WLA _ _ _ _ _ (⟨_, .call ⟨.value (.func 10), _, _⟩, _, _, _, _⟩ :: _) _ _; first | (refine WLA.call rfl rfl (hCk) ?_; rintro ⟨⟩) | (refine WLA.call0 rfl (hCk) ?_; rintro ⟨⟩)) | (guard_target =~ WLA _ _ _ _ _ (⟨_, .call ⟨.value (.func 11), _, _⟩, _, _, _, _⟩ :: _) _ _; first | (refine WLA.call rfl rfl (rSame_zero) ?_; rintro ⟨⟩) | (refine WLA.call0 rfl (rSame_zero) ?_; rintro ⟨⟩)) | (guard_target =~ WLA _ _ _ _ _ (⟨_, .call ⟨.value (.func 7), _, _⟩, _, _, _, _⟩ :: _) _ _; first | (refine WLA.call rfl rfl (live_tr42 _ _ _) ?_; rintro ⟨⟩) | (refine WLA.call0 rfl (live_tr42 _ _ _) ?_; rintro ⟨⟩)) | (refine WPA.ifT ?_) | (refine WPA.ifF ?_) | (refine WLA.no rfl rfl ?_) | ((first | refine WPA.dec ?_ | ((fail_if_success (guard_target =~ WLA _ _ _ _ _ _ (put1 _ _ (.bool true)) _)); (fail_if_success (guard_target =~ WLA _ _ _ _ _ _ (put1 _ _ (.bool false)) _)); refine WLA.dec rfl rfl ?_) | refine WLA.pk ?_); first | refine .inl ⟨by first | assumption | omega | with_reducible rfl | (refine fun h => h ?_; first | assumption | with_reducible rfl) | (simp only [List.length_append, List.length_cons, List.length_nil, List.length_set] <;> omega) | decide, ?_⟩ | refine .inr ⟨by first | assumption | omega | with_reducible rfl | (refine fun h => h ?_; first | assumption | with_reducible rfl) | (simp only [List.length_append, List.length_cons, List.length_nil, List.length_set] <;> omega) | decide, ?_⟩) | ((first | refine WPA.ifBt ?_ ?_ | refine WPA.ifBnf ?_ ?_); assumption) | ((first | refine WPA.ifBnt ?_ ?_ | refine WPA.ifBf ?_ ?_); assumption) | ((first | refine WPA.ifs ?_ ?_ | refine WPA.ifB ?_ ?_) <;> intro hc) | ((fail_if_success (guard_target =~ WLA _ _ _ _ _ _ (put1 _ _ (.bool true)) _)); (fail_if_success (guard_target =~ WLA _ _ _ _ _ _ (put1 _ _ (.bool false)) _)); (first | refine WLA.both rfl rfl ?_ ?_ | refine WLA.bothB rfl rfl ?_ ?_) <;> intro hg))
      all_goals exact QQ.end_ rfl () rfl fun w h => h.to
  obtain ⟨m, rfl⟩ : ∃ m : Nat, o = ((m + 1 : Nat) : Int) := ⟨(o - 1).toNat, by omega⟩
  have h1 : ¬ ((m + 1 : Nat) : Int) < 1 := by omega
  have h2 : ¬ (gr.length : Int) < ((m + 1 : Nat) : Int) := by omega
  have hm : m < gr.length := by omega
  have hAm : m < (gr.map fun h => enV kg (re h)).length := by rw [List.length_map]; exact hm
  have fB := fa.sh hAm
  have hvl := shM_val hck0 hm
  obtain ⟨z1, z2, z3⟩ := chkM_zero hck0
  obtain ⟨y1, y2, y3⟩ := chkM_words hck0
  repeat' ((fail_if_success (guard_target =~ WPA _ _ _ (.region 4 _ _) _ _ _)); first | ((first | refine WLA.m rfl rfl ?_ ?_ | refine WLA.st rfl ?_ ?_ | refine WLA.x rfl rfl ?_ (fun x => ?_) | refine WLA.x0 rfl ?_ (fun x => ?_)); first | exact trivial | exact rfl | assumption | omega | (refine ⟨?_, ?_⟩ <;> omega) | (simp only [Room, List.length_set, List.length_append, List.length_cons, List.length_nil, List.length_replicate]; omega) | decide | skip) | (refine Stp.go ?_) | (guard_target =~ WLA _ _ _ _ _ (⟨_, .call ⟨.value (.func 19), _, _⟩, _, _, _, _⟩ :: _) _ _; first | (refine WLA.call rfl rfl (Shorter_ok hM2 hck0 hm) ?_; rintro ⟨xw, xg, J⟩; refine WLA.pure fun hx => ?_; dsimp only at hx ⊢; obtain ⟨hJ, hx⟩ := hx) | (refine WLA.call0 rfl (Shorter_ok hM2 hck0 hm) ?_; rintro ⟨xw, xg, J⟩; refine WLA.pure fun hx => ?_; dsimp only at hx ⊢; obtain ⟨hJ, hx⟩ := hx)) | (refine WPA.ifT ?_) | (refine WPA.ifF ?_) | ((first | refine WPA.dec ?_); first | refine .inl ⟨by first | assumption | omega | with_reducible rfl | (refine fun h => h ?_; first | assumption | with_reducible rfl) | (simp only [List.length_append, List.length_cons, List.length_nil, List.length_set] <;> omega) | decide, ?_⟩ | refine .inr ⟨by first | assumption | omega | with_reducible rfl | (refine fun h => h ?_; first | assumption | with_reducible rfl) | (simp only [List.length_append, List.length_cons, List.length_nil, List.length_set] <;> omega) | decide, ?_⟩) | ((first | refine WPA.ifBt ?_ ?_ | refine WPA.ifBnf ?_ ?_); assumption) | ((first | refine WPA.ifBnt ?_ ?_ | refine WPA.ifBf ?_ ?_); assumption) | ((first | refine WPA.ifs ?_ ?_ | refine WPA.ifB ?_ ?_) <;> intro hc))
  revert x; intro t7
  refine WPA.knowI (fun w hw => hx.nst hw) fun hnst => ?_
  obtain ⟨gr2, hq⟩ := hnst
  have hM3 := hq.mdI fB hM.wsz
  have hc3 : chkM (rd Int J) (rd En J) fr ws gr2 = 0 := val_chkM (by rw [hq.cont]; exact hvl)
  obtain ⟨u1, u2, u3⟩ := chkM_zero hc3
  have hpe : prbN (rd Int J) (rd En J) gr2 wd [] = prbN kg re gr wd [] := by
    rw [prb_one hck0, prb_one hc3]
    by_cases hw : 0 ≤ wd ∧ wd < ws.length
    · rw [if_pos hw, if_pos hw]
      have := row0_eq hm (by omega) hq.cont (i := wd.toNat) (by omega)
      rwa [show ((wd.toNat : Nat) : Int) = wd by omega] at this
    · rw [if_neg hw, if_neg hw]
  have hMJ := hM2.subH hJ
  have hCJ : ∀ {L : List HP}, Tr Try.prog 10 #[.agg #[.int .i64 fr, .slice w.a w.n w.cap, .slice g.a g.n g.cap]] (SL w0 J L) (fun _ : Unit => .int .i64 0) (fun _ => SL w0 J L) := by
    intro L
    have := rCheck_tr (L := L) (w0 := w0) (fr := fr) hMJ
    rwa [hck0] at this
  have hC3 : ∀ {J2 : Foot} {L : List HP}, SubI J2 J → Tr Try.prog 10 #[.agg #[.int .i64 fr, .slice xw.a xw.n xw.cap, .slice xg.a xg.n xg.cap]] (SL w0 J2 L) (fun _ : Unit => .int .i64 0) (fun _ => SL w0 J2 L) := by
    intro J2 L hs
    have := rCheck_tr (L := L) (w0 := w0) (fr := fr) (hM3.subH hs)
    rwa [hc3] at this
  have hP1 : ∀ {J2 : Foot} {L : List HP}, SubI J2 J → Tr Try.prog 21 #[.agg #[.int .i64 fr, .slice xw.a xw.n xw.cap, .slice xg.a xg.n xg.cap], .slice none 0 0, .int .i64 wd] (SL w0 J2 L) (fun _ : Unit => .int .i64 (prbN kg re gr wd [])) (fun _ => SL w0 J2 L) := by
    intro J2 L hs
    have := rProb_tr (w0 := w0) (L := L) (fr := fr) (w := wd) u2 u3 u1 1 (hM3.subH hs) (s := SV.nil) (hs := []) (hr := SlI.nil) (by simp) (by simp)
    rwa [show truL gr2.length [] = [] from if_neg (by rw [List.length_nil]; omega), hpe] at this
  have hP2 : ∀ {J2 : Foot} {L : List HP}, SubI J2 J → Tr Try.prog 21 #[.agg #[.int .i64 fr, .slice w.a w.n w.cap, .slice g.a g.n g.cap], .slice none 0 0, .int .i64 wd] (SL w0 J2 L) (fun _ : Unit => .int .i64 (prbN kg re gr wd [])) (fun _ => SL w0 J2 L) := by
    intro J2 L hs
    have := rProb_tr (w0 := w0) (L := L) (fr := fr) (w := wd) z2 z3 z1 1 (hMJ.subH hs) (s := SV.nil) (hs := []) (hr := SlI.nil) (by simp) (by simp)
    rwa [show truL gr.length [] = [] from if_neg (by rw [List.length_nil]; omega)] at this
  have hpp : prbN kg re gr wd [] = prbN kg re gr wd [] := rfl
  generalize prbN kg re gr wd [] = pv at hP1 hP2 hpp
  have hg := hg.sub (I' := J)
  have hSh := fun {L : List HP} => rShorter_trS (w0 := w0) (L := L) (fr := fr) hMJ hm
  generalize shM (gr.map fun h => enV kg (re h)) m = B at hx fB hSh
  have hsm : fr = fr ∧ ws = ws ∧ B = B := ⟨rfl, rfl, rfl⟩
  repeat' ((fail_if_success (guard_target =~ WPA _ _ _ (.region 9 _ _) _ _ _)); first | ((first | refine WLA.m rfl rfl ?_ ?_ | refine WDQ.m rfl rfl ?_ ?_ | refine WDP.m rfl rfl ?_ ?_ | refine WLA.st rfl ?_ ?_ | refine WLA.x rfl rfl ?_ (fun x => ?_) | refine WLA.x0 rfl ?_ (fun x => ?_) | refine WDW.x rfl rfl ?_ (fun x => ?_) | refine WDW.st rfl ?_ ?_); first | exact trivial | exact rfl | assumption | omega | (refine ⟨?_, ?_⟩ <;> omega) | (simp only [Room, List.length_set, List.length_append, List.length_cons, List.length_nil, List.length_replicate]; omega) | decide | skip) | (refine Stp.go ?_) | (guard_target =~ WLA _ _ _ _ _ (⟨_, .call ⟨.value (.func 10), _, _⟩, _, _, _, _⟩ :: _) _ _; first | (refine WLA.call rfl rfl (hCJ) ?_; rintro ⟨⟩) | (refine WLA.call0 rfl (hCJ) ?_; rintro ⟨⟩)) | (refine WPA.ifT ?_) | (refine WPA.ifF ?_) | (refine WLA.no rfl rfl ?_) | (refine WDQ.no rfl rfl ?_) | (refine WDP.no rfl rfl ?_) | ((first | refine WPA.dec ?_ | ((fail_if_success (guard_target =~ WLA _ _ _ _ _ _ (put1 _ _ (.bool true)) _)); (fail_if_success (guard_target =~ WLA _ _ _ _ _ _ (put1 _ _ (.bool false)) _)); refine WLA.dec rfl rfl ?_) | refine WLA.pk ?_ | refine WDQ.dec rfl rfl ?_ | refine WDP.dec rfl rfl ?_); first | refine .inl ⟨by first | assumption | omega | with_reducible rfl | (refine fun h => h ?_; first | assumption | with_reducible rfl) | (simp only [List.length_append, List.length_cons, List.length_nil, List.length_set] <;> omega) | decide, ?_⟩ | refine .inr ⟨by first | assumption | omega | with_reducible rfl | (refine fun h => h ?_; first | assumption | with_reducible rfl) | (simp only [List.length_append, List.length_cons, List.length_nil, List.length_set] <;> omega) | decide, ?_⟩) | ((first | refine WPA.ifBt ?_ ?_ | refine WPA.ifBnf ?_ ?_); assumption) | ((first | refine WPA.ifBnt ?_ ?_ | refine WPA.ifBf ?_ ?_); assumption) | ((first | refine WPA.ifs ?_ ?_ | refine WPA.ifB ?_ ?_) <;> intro hc) | ((fail_if_success (guard_target =~ WLA _ _ _ _ _ _ (put1 _ _ (.bool true)) _)); (fail_if_success (guard_target =~ WLA _ _ _ _ _ _ (put1 _ _ (.bool false)) _)); (first | refine WLA.both rfl rfl ?_ ?_ | refine WLA.bothB rfl rfl ?_ ?_) <;> intro hg) | (guard_target =~ WPA _ _ _ (.region 9 _ true) _ _ _; refine WPA.drawT 20 (.p 0 (.p 1 (.p 2 (.p 3 (.q 4 (.p 5 (.w 6 (.w 7 (.p 8 (.p 9 (.q 10 (.w 11 (.p 12 (.p 13 (.p 14 (.q 15 (.p 16 (.p 18 (.p 19 (.w 17 .fin)))))))))))))))))))) mixed ?_ ?_; kernel_rfl) | (refine WDA.finish (tl := [⟨_, _, _, _, _, _⟩, ⟨_, _, _, _, _, _⟩, ⟨_, _, _, _, _, _⟩, ⟨_, _, _, _, _, _⟩, ⟨_, _, _, _, _, _⟩, ⟨_, _, _, _, _, _⟩, ⟨_, _, _, _, _, _⟩]) rfl ?_) | (refine WDQ.see rfl ?_) | (refine WDP.see rfl ?_) | (refine WDW.see rfl ?_) | (guard_target =~ WDE _ _ _ _ _ _ _ ⟨_, .call ⟨.value (.func 10), _, _⟩, _, _, _, _⟩ _ _ _; refine WDE.call rfl rfl (hCJ) ?_ ?_; (intro x w h; first | exact h | exact Ent.drop1.sl h | exact SL.unI h | exact SL.to h); rintro ⟨⟩) | (guard_target =~ WDW _ _ _ _ _ _ _ ⟨_, .call ⟨.value (.func 10), _, _⟩, _, _, _, _⟩ _ _ _; refine WDW.call rfl rfl (hCJ) ?_; rintro ⟨⟩) | ((first | refine WDQ.both rfl rfl ?_ ?_ | refine WDP.both rfl rfl ?_ ?_) <;> intro hg))
  have h00 : decide ((0 : Int) = 0) = true := rfl
  repeat' (first | ((rw [h00])) | (guard_target =~ WDE _ _ _ _ _ _ _ ⟨_, .call ⟨.value (.func 20), _, _⟩, _, _, _, _⟩ _ _ _; refine WDE.call (hT := fun x => ⟨fun w hw => (Ent.nil.sl hw).sub x.2.1.out⟩) rfl rfl hSh ?_ ?_; (intro x w h; exact h.sub x.2.1.out); rintro ⟨⟨r, J2⟩, hJ2, hr⟩; dsimp only at hJ2 hr ⊢) | ((first | refine WLA.m rfl rfl ?_ ?_ | refine WDQ.m rfl rfl ?_ ?_ | refine WLA.st rfl ?_ ?_ | refine WLA.x rfl rfl ?_ (fun x => ?_) | refine WLA.x0 rfl ?_ (fun x => ?_)); first | exact trivial | exact rfl | assumption | omega | (refine ⟨?_, ?_⟩ <;> omega) | (simp only [Room, List.length_set, List.length_append, List.length_cons, List.length_nil, List.length_replicate]; omega) | decide | skip) | (refine Stp.go ?_) | (guard_target =~ WLA _ _ _ _ _ (⟨_, .call ⟨.value (.func 11), _, _⟩, _, _, _, _⟩ :: _) _ _; first | (refine WLA.call rfl rfl (rSame_trI (hx.sub hJ2) hr fB fB) ?_; rintro ⟨⟩) | (refine WLA.call0 rfl (rSame_trI (hx.sub hJ2) hr fB fB) ?_; rintro ⟨⟩)) | (guard_target =~ WLA _ _ _ _ _ (⟨_, .call ⟨.value (.func 10), _, _⟩, _, _, _, _⟩ :: _) _ _; first | (refine WLA.call rfl rfl (hC3 hJ2) ?_; rintro ⟨⟩) | (refine WLA.call0 rfl (hC3 hJ2) ?_; rintro ⟨⟩)) | (guard_target =~ WLA _ _ _ _ _ (⟨_, .call ⟨.value (.func 21), _, _⟩, _, _, _, _⟩ :: _) _ _; first | (refine WLA.call rfl rfl (hP1 hJ2) ?_; rintro ⟨⟩) | (refine WLA.call0 rfl (hP1 hJ2) ?_; rintro ⟨⟩)) | (guard_target =~ WLA _ _ _ _ _ (⟨_, .call ⟨.value (.func 21), _, _⟩, _, _, _, _⟩ :: _) _ _; first | (refine WLA.call rfl rfl (hP2 hJ2) ?_; rintro ⟨⟩) | (refine WLA.call0 rfl (hP2 hJ2) ?_; rintro ⟨⟩)) | (guard_target =~ WLA _ _ _ _ _ (⟨_, .call ⟨.value (.func 7), _, _⟩, _, _, _, _⟩ :: _) _ _; first | (refine WLA.call rfl rfl (live_tr42 _ _ _) ?_; rintro ⟨⟩) | (refine WLA.call0 rfl (live_tr42 _ _ _) ?_; rintro ⟨⟩)) | (refine WPA.ifT ?_) | (refine WPA.ifF ?_) | (refine WLA.no rfl rfl ?_) | (refine WDQ.no rfl rfl ?_) | ((first | refine WPA.dec ?_ | ((fail_if_success (guard_target =~ WLA _ _ _ _ _ _ (put1 _ _ (.bool true)) _)); (fail_if_success (guard_target =~ WLA _ _ _ _ _ _ (put1 _ _ (.bool false)) _)); refine WLA.dec rfl rfl ?_) | refine WLA.pk ?_ | refine WDQ.dec rfl rfl ?_); first | refine .inl ⟨by first | assumption | omega | with_reducible rfl | (refine fun h => h ?_; first | assumption | with_reducible rfl) | (simp only [List.length_append, List.length_cons, List.length_nil, List.length_set] <;> omega) | decide, ?_⟩ | refine .inr ⟨by first | assumption | omega | with_reducible rfl | (refine fun h => h ?_; first | assumption | with_reducible rfl) | (simp only [List.length_append, List.length_cons, List.length_nil, List.length_set] <;> omega) | decide, ?_⟩) | ((first | refine WPA.ifBt ?_ ?_ | refine WPA.ifBnf ?_ ?_); assumption) | ((first | refine WPA.ifBnt ?_ ?_ | refine WPA.ifBf ?_ ?_); assumption) | ((first | refine WPA.ifs ?_ ?_ | refine WPA.ifB ?_ ?_) <;> intro hc) | ((fail_if_success (guard_target =~ WLA _ _ _ _ _ _ (put1 _ _ (.bool true)) _)); (fail_if_success (guard_target =~ WLA _ _ _ _ _ _ (put1 _ _ (.bool false)) _)); (first | refine WLA.both rfl rfl ?_ ?_ | refine WLA.bothB rfl rfl ?_ ?_) <;> intro hg) | (guard_target =~ WPA _ _ _ (.region 9 _ true) _ _ _; refine WPA.drawT 20 (.q 0 (.q 1 (.q 2 (.q 3 (.q 4 (.q 5 (.e 6 (.e 7 (.q 8 (.q 9 (.q 10 (.e 11 (.q 12 (.q 13 (.q 14 (.q 15 (.q 16 (.q 18 (.q 19 (.e 17 .fin)))))))))))))))))))) mixed ?_ ?_; kernel_rfl) | (refine WDA.finish (tl := [⟨_, _, _, _, _, _⟩, ⟨_, _, _, _, _, _⟩, ⟨_, _, _, _, _, _⟩, ⟨_, _, _, _, _, _⟩, ⟨_, _, _, _, _, _⟩, ⟨_, _, _, _, _, _⟩, ⟨_, _, _, _, _, _⟩]) rfl ?_) | (refine WDQ.see rfl ?_) | (refine WDE.see rfl ?_) | (refine WDE.alloc rfl rfl (fun w h => h) (fun x => ?_)) | (refine WDE.stE rfl ?_) | (refine WDE.x rfl rfl ?_ ?_ (fun x => ?_); rotate_left 1; (intro x w h; first | exact h | exact Ent.drop1.sl h | exact SL.unI h | exact SL.to h); rotate_left 1; first | exact trivial | exact rfl | assumption | omega | (refine ⟨?_, ?_⟩ <;> omega) | (simp only [Room, List.length_set, List.length_append, List.length_cons, List.length_nil, List.length_replicate]; omega) | decide | skip) | (guard_target =~ WDE _ _ _ _ _ _ _ ⟨_, .call ⟨.value (.func 11), _, _⟩, _, _, _, _⟩ _ _ _; refine WDE.call rfl rfl (rSame_trI (hx.sub hJ2) hr fB fB) ?_ ?_; (intro x w h; first | exact h | exact Ent.drop1.sl h | exact SL.unI h | exact SL.to h); rintro ⟨⟩) | (guard_target =~ WDW _ _ _ _ _ _ _ ⟨_, .call ⟨.value (.func 11), _, _⟩, _, _, _, _⟩ _ _ _; refine WDW.call rfl rfl (rSame_trI (hx.sub hJ2) hr fB fB) ?_; rintro ⟨⟩) | (guard_target =~ WDE _ _ _ _ _ _ _ ⟨_, .call ⟨.value (.func 10), _, _⟩, _, _, _, _⟩ _ _ _; refine WDE.call rfl rfl (hC3 hJ2) ?_ ?_; (intro x w h; first | exact h | exact Ent.drop1.sl h | exact SL.unI h | exact SL.to h); rintro ⟨⟩) | (guard_target =~ WDW _ _ _ _ _ _ _ ⟨_, .call ⟨.value (.func 10), _, _⟩, _, _, _, _⟩ _ _ _; refine WDW.call rfl rfl (hC3 hJ2) ?_; rintro ⟨⟩) | (guard_target =~ WDE _ _ _ _ _ _ _ ⟨_, .call ⟨.value (.func 21), _, _⟩, _, _, _, _⟩ _ _ _; refine WDE.call rfl rfl (hP1 hJ2) ?_ ?_; (intro x w h; first | exact h | exact Ent.drop1.sl h | exact SL.unI h | exact SL.to h); rintro ⟨⟩) | (guard_target =~ WDW _ _ _ _ _ _ _ ⟨_, .call ⟨.value (.func 21), _, _⟩, _, _, _, _⟩ _ _ _; refine WDW.call rfl rfl (hP1 hJ2) ?_; rintro ⟨⟩) | (guard_target =~ WDE _ _ _ _ _ _ _ ⟨_, .call ⟨.value (.func 21), _, _⟩, _, _, _, _⟩ _ _ _; refine WDE.call rfl rfl (hP2 hJ2) ?_ ?_; (intro x w h; first | exact h | exact Ent.drop1.sl h | exact SL.unI h | exact SL.to h); rintro ⟨⟩) | (guard_target =~ WDW _ _ _ _ _ _ _ ⟨_, .call ⟨.value (.func 21), _, _⟩, _, _, _, _⟩ _ _ _; refine WDW.call rfl rfl (hP2 hJ2) ?_; rintro ⟨⟩) | (guard_target =~ WDE _ _ _ _ _ _ _ ⟨_, .call ⟨.value (.func 7), _, _⟩, _, _, _, _⟩ _ _ _; refine WDE.call rfl rfl (live_tr42 _ _ _) ?_ ?_; (intro x w h; first | exact h | exact Ent.drop1.sl h | exact SL.unI h | exact SL.to h); rintro ⟨⟩) | (guard_target =~ WDW _ _ _ _ _ _ _ ⟨_, .call ⟨.value (.func 7), _, _⟩, _, _, _, _⟩ _ _ _; refine WDW.call rfl rfl (live_tr42 _ _ _) ?_; rintro ⟨⟩) | ((first | refine WDQ.both rfl rfl ?_ ?_) <;> intro hg))
  all_goals exact QQ.end_ rfl () rfl fun w h => (h.sub fun z hz => hJ2.out (hJ.out hz)).to
theorem PruneShorter_law (W : World) (m : Int × SV × SV) (hm : gInt W m.1 ∧ gSl gStr 16 W m.2.1 ∧ gSl (gSl (gPair (gSl gInt 8) (gPair gInt gInt)) 40) 24 W m.2.2) (o : Int) (h2 : gInt W o) (wd : Int) (h3 : gInt W wd) : Calls Try.prog 5 #[.agg #[.int .i64 m.1, .slice m.2.1.a m.2.1.n m.2.1.cap, .slice m.2.2.a m.2.2.n m.2.2.cap], .int .i64 o, .int .i64 wd] W fun e w' => e = .returned (.bool true) ∧ Below W.heap.size W w' := by
  obtain ⟨ws, gr, hM⟩ := mdR_all hm.2.1 hm.2.2
  exact Calls.below (PruneShorter_tr hM)
end Go.Proofs.Ytcomkdndddkbeaa
