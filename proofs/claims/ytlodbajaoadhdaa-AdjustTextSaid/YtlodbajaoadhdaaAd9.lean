/- Adjusted counts: the chapter's example; AdjustEnds, AdjustCounts. Conditions: none. -/
import Derived.Test.YtlodbajaoadhdaaAd8
namespace Go.Proofs.Ytlodbajaoadhdaa
open Go Go.Fw Go.RowKit
set_option linter.unusedVariables false
set_option linter.unusedSimpArgs false
set_option maxRecDepth 100000
set_option maxHeartbeats 16000000
set_option synthInstance.maxHeartbeats 200000
set_option synthInstance.maxSize 100000
attribute [local irreducible] WPA WLA WDA WDQ WDE QQ seqQ blockQ loopQ fnQ OpP OpT Tr TrP SL SLd OwnS LitS Bk BkE Ob
attribute [local irreducible] RowH
instance {κ : Type} (f : κ → List Int) (l : List (κ × Int)) : Decidable (Ris f l) := inferInstanceAs (Decidable (List.Pairwise _ _))
instance (n : Nat) (l : List Ct) : Decidable (OkP n l) := inferInstanceAs (Decidable (_ ∧ _))
theorem Counts_trA {s : SV} {A : List (List Ct)} {L : List HP} {w0 : World} {I : Foot} (h : LstsI I s A) (h0 : 0 < A.length ∧ A.length ≤ 8) (hO : ∀ n, n < A.length → OkP n (A.getD n [])) (hb : ∀ l ∈ A, l.length ≤ 100000) :
    Tr Try.prog 63 #[.slice s.a s.n s.cap] (SL w0 I L) (fun x : SV × Foot => .tuple #[.slice x.1.a x.1.n x.1.cap, .int .i64 0]) (fun x w => (SubI x.2 I ∧ LstsI x.2 x.1 (adjsP A)) ∧ SL w0 x.2 L w) := by
  refine Tr.mk fun w hw => ?_
  obtain ⟨vs, v1, v2, v3⟩ := h.nst hw
  have hl : A.length = vs.length := by rw [← v3, List.length_map]
  rw [← adj_pure v3]
  refine (Counts_tr (s := s) v2 (fun v hv => ?_) (by omega) (wrong_zero v3 h0 hO) fun n hn p hp => ?_).ap hw
  · have := hb _ (by rw [← v3]; exact List.mem_map_of_mem hv)
    rwa [List.length_map] at this
  · have hO := hO n (by omega)
    rw [← at_A v3 hn] at hO
    exact ((okP_iff.1 hO).1 p hp).1
abbrev ex23 : List (List Int) := [[1, 3, 2], [1, 4, 3, 2]]
theorem ex23_ok : ∀ n, n < (ordA ex23 2).length → OkP n ((ordA ex23 2).getD n []) := by decide +kernel
theorem ex23_adj : (adjsP (ordA ex23 2)).getD 0 [] = [([1], 2), ([2], 1), ([3], 2), ([4], 1)] := by decide +kernel
theorem live_tr23 (w0 : World) (I : Foot) (L : List HP) : Tr Try.prog 61 #[] (SL w0 I L) (fun _ : Unit => .bool true) (fun _ => SL w0 I L) := by
  refine Tr.intro Try.func61 rfl Try.ntmps61 rfl ?_
  repeat' (first | ((first | refine WLA.m rfl rfl ?_ ?_ | refine WLA.st rfl ?_ ?_ | refine WLA.x rfl rfl ?_ (fun x => ?_) | refine WLA.x0 rfl ?_ (fun x => ?_)); first | exact trivial | exact rfl | assumption | omega | (refine ⟨?_, ?_⟩ <;> omega) | (simp only [Room, List.length_set, List.length_append, List.length_cons, List.length_nil, List.length_replicate]; omega) | decide | skip) | (refine Stp.go ?_) | (refine WPA.ifT ?_) | (refine WPA.ifF ?_) | ((first | refine WPA.dec ?_); first | refine .inl ⟨by first | assumption | omega | with_reducible rfl | (refine fun h => h ?_; first | assumption | with_reducible rfl) | (simp only [List.length_append, List.length_cons, List.length_nil, List.length_set] <;> omega) | decide, ?_⟩ | refine .inr ⟨by first | assumption | omega | with_reducible rfl | (refine fun h => h ?_; first | assumption | with_reducible rfl) | (simp only [List.length_append, List.length_cons, List.length_nil, List.length_set] <;> omega) | decide, ?_⟩) | ((first | refine WPA.ifBt ?_ ?_ | refine WPA.ifBnf ?_ ?_); assumption) | ((first | refine WPA.ifBnt ?_ ?_ | refine WPA.ifBf ?_ ?_); assumption) | ((first | refine WPA.ifs ?_ ?_ | refine WPA.ifB ?_ ?_) <;> intro hc))
  rename_i a1 a2
  refine WLA.freeze fun R3 h3 => WLA.freeze fun R2 h2 => WLA.freeze fun R1 h1 => ?_
  have s1 := SlI.ofLit h1
  have s2 := SlI.ofLit h2
  have s3 := SlI.ofLit h3
  have j1 : SlI (R1 ++ (R2 ++ (R3 ++ I))) a1 Int inferInstance [1, 3, 2] := SlI.left
  have j2 : SlI (R1 ++ (R2 ++ (R3 ++ I))) a2 Int inferInstance [1, 4, 3, 2] := inferInstance
  have j3 : SlI (R1 ++ (R2 ++ (R3 ++ I))) x SV inferInstance [a1, a2] := inferInstance
  have hsub : SubI (R1 ++ (R2 ++ (R3 ++ I))) I := inferInstance
  clear s1 s2 s3 h1 h2 h3
  generalize R1 ++ (R2 ++ (R3 ++ I)) = K at j1 j2 j3 hsub
  have hgs : GsI K [a1, a2] ex23 := ⟨rfl, fun i hi => by
    match i, hi with
    | 0, _ => exact j1
    | 1, _ => exact j2⟩
  repeat' ((fail_if_success (guard_target =~ WPA _ _ _ (.region 2 _ _) _ _ _)); first | ((first | refine WLA.m rfl rfl ?_ ?_ | refine WLA.st rfl ?_ ?_ | refine WLA.x rfl rfl ?_ (fun x => ?_) | refine WLA.x0 rfl ?_ (fun x => ?_)); first | exact trivial | exact rfl | assumption | omega | (refine ⟨?_, ?_⟩ <;> omega) | (simp only [Room, List.length_set, List.length_append, List.length_cons, List.length_nil, List.length_replicate]; omega) | decide | skip) | (refine Stp.go ?_) | (guard_target =~ WLA _ _ _ _ _ (⟨_, .call ⟨.value (.func 70), _, _⟩, _, _, _, _⟩ :: _) _ _; first | (refine WLA.call rfl rfl (Orders_tr (most := 2) rfl hgs (Nat.le_of_ble_eq_true rfl) (by decide) (by decide +kernel) (by decide)) ?_; rintro ⟨o, J⟩; refine WLA.pure fun hx => ?_; dsimp only at hx ⊢) | (refine WLA.call0 rfl (Orders_tr (most := 2) rfl hgs (Nat.le_of_ble_eq_true rfl) (by decide) (by decide +kernel) (by decide)) ?_; rintro ⟨o, J⟩; refine WLA.pure fun hx => ?_; dsimp only at hx ⊢)) | (guard_target =~ WLA _ _ _ _ _ (⟨_, .call ⟨.value (.func 63), _, _⟩, _, _, _, _⟩ :: _) _ _; first | (refine WLA.call rfl rfl (Counts_trA hx.2 (by decide) ex23_ok (by decide +kernel)) ?_; rintro ⟨y, J2⟩; refine WLA.pure fun hy => ?_; dsimp only at hy ⊢) | (refine WLA.call0 rfl (Counts_trA hx.2 (by decide) ex23_ok (by decide +kernel)) ?_; rintro ⟨y, J2⟩; refine WLA.pure fun hy => ?_; dsimp only at hy ⊢)) | (refine WPA.ifT ?_) | (refine WPA.ifF ?_) | ((first | refine WPA.dec ?_); first | refine .inl ⟨by first | assumption | omega | with_reducible rfl | (refine fun h => h ?_; first | assumption | with_reducible rfl) | (simp only [List.length_append, List.length_cons, List.length_nil, List.length_set] <;> omega) | decide, ?_⟩ | refine .inr ⟨by first | assumption | omega | with_reducible rfl | (refine fun h => h ?_; first | assumption | with_reducible rfl) | (simp only [List.length_append, List.length_cons, List.length_nil, List.length_set] <;> omega) | decide, ?_⟩) | ((first | refine WPA.ifBt ?_ ?_ | refine WPA.ifBnf ?_ ?_); assumption) | ((first | refine WPA.ifBnt ?_ ?_ | refine WPA.ifBf ?_ ?_); assumption) | ((first | refine WPA.ifs ?_ ?_ | refine WPA.ifB ?_ ?_) <;> intro hc))
  obtain ⟨⟨b1, b2⟩, ⟨c1, us, c2, c3, c4⟩⟩ := And.intro hx hy
  have c5 := c4 0 (by decide +kernel)
  have hul : us.length = 2 := c3.trans (by decide +kernel)
  rw [ex23_adj] at c5
  obtain ⟨cs, d1, d2, d3⟩ := c5
  have d1' : SlI J2 (at_ us 0) Cn inferInstance cs := d1
  have hul2 : (us.length : Int) = 2 := by omega
  repeat' (first | ((first | refine WLA.m rfl rfl ?_ ?_ | refine WLA.st rfl ?_ ?_ | refine WLA.x rfl rfl ?_ (fun x => ?_) | refine WLA.x0 rfl ?_ (fun x => ?_)); first | exact trivial | exact rfl | assumption | omega | (refine ⟨?_, ?_⟩ <;> omega) | (simp only [Room, List.length_set, List.length_append, List.length_cons, List.length_nil, List.length_replicate]; omega) | decide | skip) | (refine Stp.go ?_) | (guard_target =~ WLA _ _ _ _ _ (⟨_, .call ⟨.value (.func 47), _, _⟩, _, _, _, _⟩ :: _) _ _; refine WLA.cq rfl rfl (Same_trC d2 (fun i hi ↦ RdS.imm (h := d3 i hi)) (by decide) (by decide)) ?_) | (refine WPA.ifT ?_) | (refine WPA.ifF ?_) | (refine WLA.no rfl rfl ?_) | ((first | refine WPA.dec ?_ | ((fail_if_success (guard_target =~ WLA _ _ _ _ _ _ (put1 _ _ (.bool true)) _)); (fail_if_success (guard_target =~ WLA _ _ _ _ _ _ (put1 _ _ (.bool false)) _)); refine WLA.dec rfl rfl ?_) | refine WLA.pk ?_); first | refine .inl ⟨by first | assumption | omega | with_reducible rfl | (refine fun h => h ?_; first | assumption | with_reducible rfl) | (simp only [List.length_append, List.length_cons, List.length_nil, List.length_set] <;> omega) | decide, ?_⟩ | refine .inr ⟨by first | assumption | omega | with_reducible rfl | (refine fun h => h ?_; first | assumption | with_reducible rfl) | (simp only [List.length_append, List.length_cons, List.length_nil, List.length_set] <;> omega) | decide, ?_⟩) | ((first | refine WPA.ifBt ?_ ?_ | refine WPA.ifBnf ?_ ?_); assumption) | ((first | refine WPA.ifBnt ?_ ?_ | refine WPA.ifBf ?_ ?_); assumption) | ((first | refine WPA.ifs ?_ ?_ | refine WPA.ifB ?_ ?_) <;> intro hc) | ((fail_if_success (guard_target =~ WLA _ _ _ _ _ _ (put1 _ _ (.bool true)) _)); (fail_if_success (guard_target =~ WLA _ _ _ _ _ _ (put1 _ _ (.bool false)) _)); (first | refine WLA.both rfl rfl ?_ ?_ | refine WLA.bothB rfl rfl ?_ ?_) <;> intro hg))
  exact QQ.end_ rfl () (congrArg Value.bool (by decide)) fun w h => (h.sub fun z hz => c1.out (b1.out (hsub.out hz))).to
end Go.Proofs.Ytlodbajaoadhdaa
