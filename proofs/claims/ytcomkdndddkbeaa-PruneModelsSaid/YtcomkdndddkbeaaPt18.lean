/- Texts that PruneModels_law leans on, part 18. Conditions: none. -/
import Derived.Test.YtcomkdndddkbeaaPt17
namespace Go.Proofs.Ytcomkdndddkbeaa
open Go Go.Fw Go.RowKit
set_option linter.unusedVariables false
set_option linter.unusedSimpArgs false
set_option maxRecDepth 100000
set_option maxHeartbeats 16000000
set_option synthInstance.maxHeartbeats 200000
set_option synthInstance.maxSize 100000
attribute [local irreducible] WPA WLA WDA WDQ WDE QQ seqQ blockQ loopQ fnQ OpP OpT Tr TrP SL SLd OwnS LitS Bk BkE Ob
section
variable {ro : Option Nat} {P : Program} {n : Nat} {Q : Hnd} {ρ : Env} {L : List HP} {w0 : World} {I : Foot} {c : Code}
theorem WPA.grid {x : SV} {bss : List (List Bool)} (k : ∀ svs : List SV, svs.length = bss.length → WPA ro P n c Q ρ (SL w0 I (OwnS 35 x svs :: RowH 4 svs bss :: L))) : WPA ro P n c Q ρ (SL w0 I (GridH x bss :: L)) :=
  WPA.exH fun vs => WPA.pureH fun h => WPA.star (k vs h)
end
attribute [local irreducible] TblH VocH GridH RowH RowX
section
variable {kg : SV → List Int} {re : SV → List En}
theorem chkM_E {fr : Int} {ws : List ByteArray} {gr : List SV} (h : chkM kg re fr ws gr = 0) : ∀ k : Nat, k < gr.length → ∀ i : Nat, i < (re (at_ gr (k : Int))).length → chkE kg ws.length (decide ((k : Int) = (gr.length : Int) - 1)) k (re (at_ gr (k : Int))) (re (at_ gr ((k : Int) - 1))) i = 0 := by
  unfold chkM at h
  split at h
  · cases h
  split at h
  · contradiction
  intro k hk
  have hz := firstN_zero h k hk
  unfold chkL chkLs at hz
  split at hz
  · contradiction
  · rename_i hf; exact firstN_zero (Classical.byContradiction hf)
theorem chkM_cl {fr : Int} {ws : List ByteArray} {gr : List SV} (h : chkM kg re fr ws gr = 0) : ∀ k i : Nat, 0 < k → k < gr.length → i < nN re gr k → ∃ j, j < nN re gr (k - 1) ∧ nG kg re gr (k - 1) j = (nG kg re gr k i).take k := by
  intro k i h0 hk hi
  have hl : (kg (at_ (re (at_ gr (k : Int))) (i : Int)).1).length = k + 1 := (chkM_words h).1 k hk _ (by unfold nN at hi; rw [at_nat _ i hi]; exact List.getElem_mem _)
  have hm := (chkE_gram (chkM_E h k hk i hi)).2.2 h0
  rw [cut_take (by omega)] at hm
  obtain ⟨p, hp, he⟩ := List.mem_map.1 hm
  rw [show (k : Int) - 1 = ((k - 1 : Nat) : Int) by omega] at hp
  obtain ⟨j, hj, rfl⟩ := List.getElem_of_mem hp
  exact ⟨j, hj, by unfold nG; rw [at_nat _ j hj]; exact he⟩
theorem ris_lt {es : List En} (h : RisE kg es) {a b : Nat} (hab : a < b) (hb : b < es.length) : ltL (kg (at_ es (a : Int)).1) (kg (at_ es (b : Int)).1) := by
  have := List.pairwise_iff_getElem.1 h a b (by simp; omega) (by simpa using hb) hab
  rwa [List.getElem_map, List.getElem_map, ← at_nat es a (by omega), ← at_nat es b hb] at this
theorem ris_inj {es : List En} (h : RisE kg es) {a b : Nat} (ha : a < es.length) (hb : b < es.length) (he : kg (at_ es (a : Int)).1 = kg (at_ es (b : Int)).1) : a = b := by
  rcases Nat.lt_trichotomy a b with hh | hh | hh
  · have := ris_lt h hh hb; rw [he] at this; exact absurd this (ltL_irr _)
  · exact hh
  · have := ris_lt h hh ha; rw [he] at this; exact absurd this (ltL_irr _)
end
def LvP (n : Nat) (N : Nat → Nat) (G : Nat → Nat → List Int) (Kp : Nat → Nat → Bool) (k : Nat) (bss : List (List Bool)) : Prop :=
  bss.length = n ∧ ∀ j, j < n → (bss.getD j []).length = N j ∧ ∀ a : Nat, a < N j → (at_ (bss.getD j []) (a : Int) = true ↔ j = 0 ∨ Kp j a = true ∨ (k ≤ j ∧ bgA n N G Kp (G j a)))
section
variable {kg : SV → List Int} {re : SV → List En} {cn : SV → List Bool} {L : List HP} {w0 : World} {I : Foot}
theorem Needed1_tr {gr ks : List SV} {c : SV} {b1 : Nat} {k i : Nat} {e : En} [hb1 : InI I b1 26 [.slice c.a c.n c.cap]] (hc : SlI I c SV inferInstance ks) (hC : ∀ h ∈ ks, SlI I h Bool inferInstance (cn h)) (hF : FitP re gr ks fun h => (cn h).length) (hk : k < gr.length) (hi : i < (re (at_ gr (k : Int))).length) :
    Tr Try.prog 26 #[.int .i64 k, .int .i64 i, .agg #[.slice e.1.a e.1.n e.1.cap, .int .i64 e.2.1, .int .i64 e.2.2], .pointer (some ⟨b1, 0, none⟩)] (SL w0 I L) (fun _ : Unit => .bool (nK cn ks k i)) (fun _ => SL w0 I L) := by
  refine Tr.intro Try.func26 rfl Try.ntmps26 rfl ?_
  obtain ⟨f1, f2⟩ := hF
  have hkc : (k : Int) < ks.length := by omega
  have m1 : at_ ks (k : Int) ∈ ks := by rw [at_nat ks k (by omega)]; exact List.getElem_mem _
  have c1 := hC _ m1
  have hic : (i : Int) < (cn (at_ ks (k : Int))).length := by have := f2 k hk; dsimp only at this; omega
  repeat' (first | ((first | refine WLA.m rfl rfl ?_ ?_ | refine WLA.st rfl ?_ ?_ | refine WLA.x rfl rfl ?_ (fun x => ?_) | refine WLA.x0 rfl ?_ (fun x => ?_)); first | exact trivial | exact rfl | assumption | omega | (refine ⟨?_, ?_⟩ <;> omega) | (simp only [Room, List.length_set, List.length_append, List.length_cons, List.length_nil, List.length_replicate]; omega) | decide | skip) | (refine Stp.go ?_) | (refine WPA.ifT ?_) | (refine WPA.ifF ?_) | ((first | refine WPA.dec ?_); first | refine .inl ⟨by first | assumption | omega | with_reducible rfl | (refine fun h => h ?_; first | assumption | with_reducible rfl) | (simp only [List.length_append, List.length_cons, List.length_nil, List.length_set] <;> omega) | decide, ?_⟩ | refine .inr ⟨by first | assumption | omega | with_reducible rfl | (refine fun h => h ?_; first | assumption | with_reducible rfl) | (simp only [List.length_append, List.length_cons, List.length_nil, List.length_set] <;> omega) | decide, ?_⟩) | ((first | refine WPA.ifBt ?_ ?_ | refine WPA.ifBnf ?_ ?_); assumption) | ((first | refine WPA.ifBnt ?_ ?_ | refine WPA.ifBf ?_ ?_); assumption) | ((first | refine WPA.ifs ?_ ?_ | refine WPA.ifB ?_ ?_) <;> intro hc))
  all_goals exact QQ.end_ rfl () rfl fun w h => h.to
theorem Needed_bad {fr : Int} {wv g c : SV} {ws : List ByteArray} {gr : List SV} (hM : MdI I kg re wv g ws gr) (hck : chkM kg re fr ws gr ≠ 0) :
    Tr Try.prog 8 #[.agg #[.int .i64 fr, .slice wv.a wv.n wv.cap, .slice g.a g.n g.cap], .slice c.a c.n c.cap] (SL w0 I L) (fun _ : Unit => .tuple #[.slice SV.nil.a SV.nil.n SV.nil.cap, .int .i64 (chkM kg re fr ws gr)]) (fun _ => SL w0 I L) := by
  refine Tr.intro Try.func8 rfl Try.ntmps8 rfl ?_
  repeat' (first | ((first | refine WLA.m rfl rfl ?_ ?_ | refine WLA.st rfl ?_ ?_ | refine WLA.x rfl rfl ?_ (fun x => ?_) | refine WLA.x0 rfl ?_ (fun x => ?_)); first | exact trivial | exact rfl | assumption | omega | (refine ⟨?_, ?_⟩ <;> omega) | (simp only [Room, List.length_set, List.length_append, List.length_cons, List.length_nil, List.length_replicate]; omega) | decide | skip) | (refine Stp.go ?_) | (guard_target =~ WLA _ _ _ _ _ (⟨_, .call ⟨.value (.func 23), _, _⟩, _, _, _, _⟩ :: _) _ _; first | (refine WLA.call rfl rfl (Check_tr hM) ?_; rintro ⟨⟩) | (refine WLA.call0 rfl (Check_tr hM) ?_; rintro ⟨⟩)) | (refine WPA.ifT ?_) | (refine WPA.ifF ?_) | ((first | refine WPA.dec ?_); first | refine .inl ⟨by first | assumption | omega | with_reducible rfl | (refine fun h => h ?_; first | assumption | with_reducible rfl) | (simp only [List.length_append, List.length_cons, List.length_nil, List.length_set] <;> omega) | decide, ?_⟩ | refine .inr ⟨by first | assumption | omega | with_reducible rfl | (refine fun h => h ?_; first | assumption | with_reducible rfl) | (simp only [List.length_append, List.length_cons, List.length_nil, List.length_set] <;> omega) | decide, ?_⟩) | ((first | refine WPA.ifBt ?_ ?_ | refine WPA.ifBnf ?_ ?_); assumption) | ((first | refine WPA.ifBnt ?_ ?_ | refine WPA.ifBf ?_ ?_); assumption) | ((first | refine WPA.ifs ?_ ?_ | refine WPA.ifB ?_ ?_) <;> intro hc))
  exact QQ.end_ rfl () rfl fun w h => h.to
theorem Needed_nofit {fr : Int} {wv g c : SV} {ws : List ByteArray} {gr ks : List SV} (hM : MdI I kg re wv g ws gr) (hck : chkM kg re fr ws gr = 0) (hc : SlI I c SV inferInstance ks) (hC : ∀ h ∈ ks, SlI I h Bool inferInstance (cn h)) (hF : ¬ FitP re gr ks fun h => (cn h).length) :
    Tr Try.prog 8 #[.agg #[.int .i64 fr, .slice wv.a wv.n wv.cap, .slice g.a g.n g.cap], .slice c.a c.n c.cap] (SL w0 I L) (fun _ : Unit => .tuple #[.slice SV.nil.a SV.nil.n SV.nil.cap, .int .i64 1]) (fun _ => SL w0 I L) := by
  refine Tr.intro Try.func8 rfl Try.ntmps8 rfl ?_
  have hck' : ¬ chkM kg re fr ws gr ≠ 0 := fun h => h hck
  have hbf : (false : Bool) = false := rfl
  have hfb : (false : Bool) = true ↔ FitP re gr ks fun h => (cn h).length := ⟨fun h => (Bool.noConfusion h), fun h => absurd h hF⟩
  repeat' (first | ((first | refine WLA.m rfl rfl ?_ ?_ | refine WLA.st rfl ?_ ?_ | refine WLA.x rfl rfl ?_ (fun x => ?_) | refine WLA.x0 rfl ?_ (fun x => ?_)); first | exact trivial | exact rfl | assumption | omega | (refine ⟨?_, ?_⟩ <;> omega) | (simp only [Room, List.length_set, List.length_append, List.length_cons, List.length_nil, List.length_replicate]; omega) | decide | skip) | (refine Stp.go ?_) | (guard_target =~ WLA _ _ _ _ _ (⟨_, .call ⟨.value (.func 23), _, _⟩, _, _, _, _⟩ :: _) _ _; first | (refine WLA.call rfl rfl (Check_tr hM) ?_; rintro ⟨⟩) | (refine WLA.call0 rfl (Check_tr hM) ?_; rintro ⟨⟩)) | (guard_target =~ WLA _ _ _ _ _ (⟨_, .call ⟨.value (.func 24), _, _⟩, _, _, _, _⟩ :: _) _ _; first | (refine WLA.call rfl rfl (fitsB_tr (b := false) hM.grams hM.rows hc hC hM.gln hfb) ?_; rintro ⟨⟩) | (refine WLA.call0 rfl (fitsB_tr (b := false) hM.grams hM.rows hc hC hM.gln hfb) ?_; rintro ⟨⟩)) | (refine WPA.ifT ?_) | (refine WPA.ifF ?_) | ((first | refine WPA.dec ?_); first | refine .inl ⟨by first | assumption | omega | with_reducible rfl | (refine fun h => h ?_; first | assumption | with_reducible rfl) | (simp only [List.length_append, List.length_cons, List.length_nil, List.length_set] <;> omega) | decide, ?_⟩ | refine .inr ⟨by first | assumption | omega | with_reducible rfl | (refine fun h => h ?_; first | assumption | with_reducible rfl) | (simp only [List.length_append, List.length_cons, List.length_nil, List.length_set] <;> omega) | decide, ?_⟩) | ((first | refine WPA.ifBt ?_ ?_ | refine WPA.ifBnf ?_ ?_); assumption) | ((first | refine WPA.ifBnt ?_ ?_ | refine WPA.ifBf ?_ ?_); assumption) | ((first | refine WPA.ifs ?_ ?_ | refine WPA.ifB ?_ ?_) <;> intro hc))
  exact QQ.end_ rfl () rfl fun w h => h.to
theorem Needed_ok {fr : Int} {wv g c : SV} {ws : List ByteArray} {gr ks : List SV} (hM : MdI I kg re wv g ws gr) (hck : chkM kg re fr ws gr = 0) (hc : SlI I c SV inferInstance ks) (hC : ∀ h ∈ ks, SlI I h Bool inferInstance (cn h)) (hF : FitP re gr ks fun h => (cn h).length) :
    Tr Try.prog 8 #[.agg #[.int .i64 fr, .slice wv.a wv.n wv.cap, .slice g.a g.n g.cap], .slice c.a c.n c.cap] (SL w0 I L) (fun x : SV => .tuple #[.slice x.a x.n x.cap, .int .i64 0]) (fun x => SL w0 I (GridH x (chS re gr (ndK kg re gr cn ks)) :: L)) := by
  refine Tr.intro Try.func8 rfl Try.ntmps8 rfl ?_
  have hck' : ¬ chkM kg re fr ws gr ≠ 0 := fun h => h hck
  have hbt : (true : Bool) = true := rfl
  obtain ⟨z1, z2, z3⟩ := chkM_zero hck
  have hlen : ∀ k i, k < gr.length → i < nN re gr k → (nG kg re gr k i).length = k + 1 := fun k i hk hi => (chkM_words hck).1 k hk _ (by unfold nN at hi; rw [at_nat _ i hi]; exact List.getElem_mem _)
  have hcl := chkM_cl hck
  repeat' ((fail_if_success (guard_target =~ WPA _ _ _ (.region 6 _ _) _ _ _)); first | ((first | refine WLA.m rfl rfl ?_ ?_ | refine WLA.st rfl ?_ ?_ | refine WLA.x rfl rfl ?_ (fun x => ?_) | refine WLA.x0 rfl ?_ (fun x => ?_)); first | exact trivial | exact rfl | assumption | omega | (refine ⟨?_, ?_⟩ <;> omega) | (simp only [Room, List.length_set, List.length_append, List.length_cons, List.length_nil, List.length_replicate]; omega) | decide | skip) | (refine Stp.go ?_) | (guard_target =~ WLA _ _ _ _ _ (⟨_, .call ⟨.value (.func 23), _, _⟩, _, _, _, _⟩ :: _) _ _; first | (refine WLA.call rfl rfl (Check_tr hM) ?_; rintro ⟨⟩) | (refine WLA.call0 rfl (Check_tr hM) ?_; rintro ⟨⟩)) | (guard_target =~ WLA _ _ _ _ _ (⟨_, .call ⟨.value (.func 24), _, _⟩, _, _, _, _⟩ :: _) _ _; first | (refine WLA.call rfl rfl (fitsB_tr (b := true) hM.grams hM.rows hc hC hM.gln ⟨fun _ ↦ hF, fun _ ↦ rfl⟩) ?_; rintro ⟨⟩) | (refine WLA.call0 rfl (fitsB_tr (b := true) hM.grams hM.rows hc hC hM.gln ⟨fun _ ↦ hF, fun _ ↦ rfl⟩) ?_; rintro ⟨⟩)) | (refine WPA.ifT ?_) | (refine WPA.ifF ?_) | ((first | refine WPA.dec ?_); first | refine .inl ⟨by first | assumption | omega | with_reducible rfl | (refine fun h => h ?_; first | assumption | with_reducible rfl) | (simp only [List.length_append, List.length_cons, List.length_nil, List.length_set] <;> omega) | decide, ?_⟩ | refine .inr ⟨by first | assumption | omega | with_reducible rfl | (refine fun h => h ?_; first | assumption | with_reducible rfl) | (simp only [List.length_append, List.length_cons, List.length_nil, List.length_set] <;> omega) | decide, ?_⟩) | ((first | refine WPA.ifBt ?_ ?_ | refine WPA.ifBnf ?_ ?_); assumption) | ((first | refine WPA.ifBnt ?_ ?_ | refine WPA.ifBf ?_ ?_); assumption) | ((first | refine WPA.ifs ?_ ?_ | refine WPA.ifB ?_ ?_) <;> intro hc))
  rename_i t2
  revert x; intro t3
  refine WPA.freezeBk (b := t2) ?_
  refine WPA.freezeBk (b := t3) ?_
  have hM2 : MdI (BkI t3 26 [.slice c.a c.n c.cap] ++ (BkI t2 25 [.int .i64 fr, .slice wv.a wv.n wv.cap, .slice g.a g.n g.cap] ++ I)) kg re wv g ws gr := ⟨hM.words.sub, hM.grams.sub, fun x hx => (hM.rows x hx).sub, fun x hx => (hM.elems x hx).sub, hM.wsz, hM.wln, hM.gln, hM.rln, hM.kln⟩
  have hJ : SubI (BkI t3 26 [.slice c.a c.n c.cap] ++ (BkI t2 25 [.int .i64 fr, .slice wv.a wv.n wv.cap, .slice g.a g.n g.cap] ++ I)) I := inferInstance
  have hI2 : InI (BkI t3 26 [.slice c.a c.n c.cap] ++ (BkI t2 25 [.int .i64 fr, .slice wv.a wv.n wv.cap, .slice g.a g.n g.cap] ++ I)) t2 25 [.int .i64 fr, .slice wv.a wv.n wv.cap, .slice g.a g.n g.cap] := inferInstance
  have hI3 : InI (BkI t3 26 [.slice c.a c.n c.cap] ++ (BkI t2 25 [.int .i64 fr, .slice wv.a wv.n wv.cap, .slice g.a g.n g.cap] ++ I)) t3 26 [.slice c.a c.n c.cap] := inferInstance
  have hc2 : SlI (BkI t3 26 [.slice c.a c.n c.cap] ++ (BkI t2 25 [.int .i64 fr, .slice wv.a wv.n wv.cap, .slice g.a g.n g.cap] ++ I)) c SV inferInstance ks := hc.sub
  have hC2 : ∀ h ∈ ks, SlI (BkI t3 26 [.slice c.a c.n c.cap] ++ (BkI t2 25 [.int .i64 fr, .slice wv.a wv.n wv.cap, .slice g.a g.n g.cap] ++ I)) h Bool inferInstance (cn h) := fun h hh => (hC h hh).sub
  generalize BkI t3 26 [.slice c.a c.n c.cap] ++ (BkI t2 25 [.int .i64 fr, .slice wv.a wv.n wv.cap, .slice g.a g.n g.cap] ++ I) = J at hM2 hJ hI2 hI3 hc2 hC2
  have hg := hM2.grams
  have hgn := hM2.gln
  repeat' ((fail_if_success (guard_target =~ WPA _ _ _ (.region 7 _ _) _ _ _)); first | ((first | refine WLA.m rfl rfl ?_ ?_ | refine WLA.st rfl ?_ ?_ | refine WLA.x rfl rfl ?_ (fun x => ?_) | refine WLA.x0 rfl ?_ (fun x => ?_)); first | exact trivial | exact rfl | assumption | omega | (refine ⟨?_, ?_⟩ <;> omega) | (simp only [Room, List.length_set, List.length_append, List.length_cons, List.length_nil, List.length_replicate]; omega) | decide | skip) | (refine Stp.go ?_) | (guard_target =~ WLA _ _ _ _ _ (⟨_, .call ⟨.value (.func 25), _, _⟩, _, _, _, _⟩ :: _) _ _; first | (refine WLA.call rfl rfl (choice_tr (fid := 26) (caps := [.pointer (some ⟨t3, 0, none⟩)]) (K := nK cn ks) hg hM2.rows hM.gln hM.rln (fun k i L _ hk hi ↦ Needed1_tr hc2 hC2 hF hk hi)) ?_; rintro o) | (refine WLA.call0 rfl (choice_tr (fid := 26) (caps := [.pointer (some ⟨t3, 0, none⟩)]) (K := nK cn ks) hg hM2.rows hM.gln hM.rln (fun k i L _ hk hi ↦ Needed1_tr hc2 hC2 hF hk hi)) ?_; rintro o)) | (refine WPA.ifT ?_) | (refine WPA.ifF ?_) | ((first | refine WPA.dec ?_); first | refine .inl ⟨by first | assumption | omega | with_reducible rfl | (refine fun h => h ?_; first | assumption | with_reducible rfl) | (simp only [List.length_append, List.length_cons, List.length_nil, List.length_set] <;> omega) | decide, ?_⟩ | refine .inr ⟨by first | assumption | omega | with_reducible rfl | (refine fun h => h ?_; first | assumption | with_reducible rfl) | (simp only [List.length_append, List.length_cons, List.length_nil, List.length_set] <;> omega) | decide, ?_⟩) | ((first | refine WPA.ifBt ?_ ?_ | refine WPA.ifBnf ?_ ?_); assumption) | ((first | refine WPA.ifBnt ?_ ?_ | refine WPA.ifBf ?_ ?_); assumption) | ((first | refine WPA.ifs ?_ ?_ | refine WPA.ifB ?_ ?_) <;> intro hc))
  refine WPA.grid fun svs hsv => ?_
  rw [chS_len] at hsv
  have hsz : -9223372036854775808 ≤ (gr.length : Int) - 1 ∧ (gr.length : Int) - 1 ≤ 9223372036854775807 := by omega
  repeat' (first | ((first | refine WLA.m rfl rfl ?_ ?_ | refine WLA.st rfl ?_ ?_ | refine WLA.x rfl rfl ?_ (fun x => ?_) | refine WLA.x0 rfl ?_ (fun x => ?_)); first | exact trivial | exact rfl | assumption | omega | (refine ⟨?_, ?_⟩ <;> omega) | (simp only [Room, List.length_set, List.length_append, List.length_cons, List.length_nil, List.length_replicate]; omega) | decide | skip) | (refine Stp.go ?_) | (refine WPA.ifT ?_) | (refine WPA.ifF ?_) | ((first | refine WPA.dec ?_); first | refine .inl ⟨by first | assumption | omega | with_reducible rfl | (refine fun h => h ?_; first | assumption | with_reducible rfl) | (simp only [List.length_append, List.length_cons, List.length_nil, List.length_set] <;> omega) | decide, ?_⟩ | refine .inr ⟨by first | assumption | omega | with_reducible rfl | (refine fun h => h ?_; first | assumption | with_reducible rfl) | (simp only [List.length_append, List.length_cons, List.length_nil, List.length_set] <;> omega) | decide, ?_⟩) | ((first | refine WPA.ifBt ?_ ?_ | refine WPA.ifBnf ?_ ?_); assumption) | ((first | refine WPA.ifBnt ?_ ?_ | refine WPA.ifBf ?_ ?_); assumption) | ((first | refine WPA.ifs ?_ ?_ | refine WPA.ifB ?_ ?_) <;> intro hc))
  refine WPA.loopS (σ := Nat × List (List Bool)) (fun y => [(2, .pointer (some ⟨t2, 0, none⟩)), (7, .slice o.a o.n o.cap), (8, .int .i64 y.1)]) (fun y => y.1 < gr.length ∧ LvP gr.length (nN re gr) (nG kg re gr) (nK cn ks) y.1 y.2)
    (fun y => SL w0 J (RowH 4 svs y.2 :: OwnS 35 o svs :: L)) (fun y => y.1) (gr.length - 1, chS re gr (nK cn ks)) ⟨rfl, rfl, ?_, trivial⟩ ⟨by dsimp only; omega, ?_⟩ (fun w h => h.to) ?_
  · show Value.int .i64 ((gr.length : Int) - 1) = Value.int .i64 ((gr.length - 1 : Nat) : Int)
    congr 1; omega
  · refine ⟨chS_len, fun j hj => ?_⟩
    rw [getD_some (chS_get hj)]
    refine ⟨by simp [chR, nN], fun a ha => ?_⟩
    rw [at_nat _ a (by simp [chR]; exact ha)]
    have := chR_get (n := (re (at_ gr (j : Int))).length) (K := nK cn ks j) (k := j) ha
    rw [List.getElem?_eq_getElem (by simp [chR]; exact ha)] at this
    injection this with this
    rw [this]
    simp only [Bool.or_eq_true, decide_eq_true_eq]
    constructor
    · rintro (h | h)
      · exact .inl h
      · exact .inr (.inl h)
    · rintro (h | h | ⟨h1, k', i', h2, h3, h4⟩)
      · exact .inl h
      · exact .inr h
      · rw [hlen j a hj ha] at h2; omega
  rintro ⟨k, bss⟩ ρ ⟨hk, hLv⟩
  dsimp only at hk hLv ⊢
  obtain ⟨hbl, hrow⟩ := hLv
  cases k with
  | zero =>
    have h00 : ¬ ((0 : Nat) : Int) > 0 := by omega
    have hfin : bss = chS re gr (ndK kg re gr cn ks) := by
      refine List.ext_getElem (by rw [hbl, chS_len]) fun j h1 h2 => ?_
      obtain ⟨r1, r2⟩ := hrow j (by omega)
      have e1 := chS_get (re := re) (K := ndK kg re gr cn ks) (show j < gr.length by omega)
      rw [List.getElem?_eq_getElem h2] at e1
      injection e1 with e1
      rw [e1]
      have e2 : bss.getD j [] = bss[j] := by rw [List.getD_eq_getElem?_getD, List.getElem?_eq_getElem h1]; rfl
      rw [e2] at r1 r2
      refine List.ext_getElem (by rw [r1]; simp [chR, nN]) fun a a1 a2 => ?_
      have e3 := chR_get (K := ndK kg re gr cn ks j) (k := j) (show a < (re (at_ gr (j : Int))).length by rw [r1] at a1; exact a1)
      rw [List.getElem?_eq_getElem a2] at e3
      injection e3 with e3
      rw [e3, ← at_nat _ a a1, Bool.eq_iff_iff, r2 a (by rw [r1] at a1; exact a1), Bool.or_eq_true, decide_eq_true_eq, ndK_iff]
      exact ⟨fun h => h.elim .inl fun h => .inr (h.elim .inl fun h => .inr h.2), fun h => h.elim .inl fun h => .inr (h.elim .inl fun h => .inr ⟨Nat.zero_le _, h⟩)⟩
    rw [hfin]
    repeat' (first | ((first | refine WLA.m rfl rfl ?_ ?_ | refine WLA.st rfl ?_ ?_ | refine WLA.x rfl rfl ?_ (fun x => ?_) | refine WLA.x0 rfl ?_ (fun x => ?_)); first | exact trivial | exact rfl | assumption | omega | (refine ⟨?_, ?_⟩ <;> omega) | (simp only [Room, List.length_set, List.length_append, List.length_cons, List.length_nil, List.length_replicate]; omega) | decide | skip) | (refine Stp.go ?_) | (refine WPA.ifT ?_) | (refine WPA.ifF ?_) | ((first | refine WPA.dec ?_); first | refine .inl ⟨by first | assumption | omega | with_reducible rfl | (refine fun h => h ?_; first | assumption | with_reducible rfl) | (simp only [List.length_append, List.length_cons, List.length_nil, List.length_set] <;> omega) | decide, ?_⟩ | refine .inr ⟨by first | assumption | omega | with_reducible rfl | (refine fun h => h ?_; first | assumption | with_reducible rfl) | (simp only [List.length_append, List.length_cons, List.length_nil, List.length_set] <;> omega) | decide, ?_⟩) | ((first | refine WPA.ifBt ?_ ?_ | refine WPA.ifBnf ?_ ?_); assumption) | ((first | refine WPA.ifBnt ?_ ?_ | refine WPA.ifBf ?_ ?_); assumption) | ((first | refine WPA.ifs ?_ ?_ | refine WPA.ifB ?_ ?_) <;> intro hc))
    exact QQ.end_ rfl o rfl fun w h => (((GridH.fold (by rw [chS_len]; exact hsv)).sl (h.to : SL w0 J (OwnS 35 o svs :: RowH 4 svs (chS re gr (ndK kg re gr cn ks)) :: L) w)).sub hJ.out)
  | succ m =>
    have h00 : ((m + 1 : Nat) : Int) > 0 := by omega
    have em : (((m + 1 : Nat) : Int) - 1) = (m : Int) := by omega
    have hsm : -9223372036854775808 ≤ ((m + 1 : Nat) : Int) - 1 ∧ ((m + 1 : Nat) : Int) - 1 ≤ 9223372036854775807 := by omega
    have hm1 : m + 1 < svs.length := by omega
    have hml : (0 : Int) ≤ m ∧ (m : Int) < gr.length := by omega
    have hml2 : (0 : Int) ≤ ((m + 1 : Nat) : Int) ∧ ((m + 1 : Nat) : Int) < gr.length := by omega
    have hms : (0 : Int) ≤ m ∧ (m : Int) < svs.length := by omega
    have hms2 : (0 : Int) ≤ ((m + 1 : Nat) : Int) ∧ ((m + 1 : Nat) : Int) < svs.length := by omega
    have hme : at_ gr (m : Int) ∈ gr := by rw [at_nat gr m (by omega)]; exact List.getElem_mem _
    have hme2 : at_ gr ((m + 1 : Nat) : Int) ∈ gr := by rw [at_nat gr (m + 1) hk]; exact List.getElem_mem _
    obtain ⟨r1, r2⟩ := hrow m (by omega)
    obtain ⟨q1, q2⟩ := hrow (m + 1) hk
    have e1 : bss.getD m [] = bss[m]'(by omega) := by rw [List.getD_eq_getElem?_getD, List.getElem?_eq_getElem (by omega)]; rfl
    have e2 : bss.getD (m + 1) [] = bss[m + 1]'(by omega) := by rw [List.getD_eq_getElem?_getD, List.getElem?_eq_getElem (by omega)]; rfl
    have hstep := fun (a : Nat) (ha : a < nN re gr m) => bg_step (Kp := nK cn ks) hlen hcl hk ha
    have hR0 := hM2.rows _ hme
    have hE0 := hM2.elems _ hme
    have hl0 := hM.rln _ hme
    have hk0 := hM.kln _ hme
    have hS0 := z2 _ hme
    have hR1 := hM2.rows _ hme2
    have hE1 := hM2.elems _ hme2
    have hl1 := hM.rln _ hme2
    have hk1 := hM.kln _ hme2
    have hS1 := z2 _ hme2
    have hlen1 := fun i hi => hlen (m + 1) i hk hi
    have hlen0 := fun i hi => hlen m i (by omega) hi
    have hcl1 := fun i hi => hcl (m + 1) i (by omega) hk hi
    have hN0 : nN re gr m = (re (at_ gr (m : Int))).length := rfl
    have hN1 : nN re gr (m + 1) = (re (at_ gr ((m + 1 : Nat) : Int))).length := rfl
    have hG0 : ∀ i, nG kg re gr m i = kg (at_ (re (at_ gr (m : Int))) (i : Int)).1 := fun _ => rfl
    have hG1 : ∀ i, nG kg re gr (m + 1) i = kg (at_ (re (at_ gr ((m + 1 : Nat) : Int))) (i : Int)).1 := fun _ => rfl
    rw [show m + 1 - 1 = m by omega] at hcl1
    simp only [hN0, hN1, hG0, hG1] at hlen0 hlen1 hcl1 hstep r1 r2 q1 q2
    rw [e1] at r1 r2
    rw [e2] at q1 q2
    generalize hes0 : re (at_ gr (m : Int)) = es0 at hR0 hE0 hl0 hk0 hS0 hlen0 hlen1 hcl1 hstep r1 r2 q1 q2
    generalize hes1 : re (at_ gr ((m + 1 : Nat) : Int)) = es at hR1 hE1 hl1 hk1 hS1 hlen0 hlen1 hcl1 hstep r1 r2 q1 q2
    refine WPA.ent (RowH.focus2 m hm1 (by omega)) ?_
    have hx : at_ svs (m : Int) = svs[m] := at_nat svs m (by omega)
    have hy : at_ svs ((m + 1 : Nat) : Int) = svs[m + 1] := at_nat svs (m + 1) hm1
    generalize hlo : bss[m]'(by omega) = lo0 at r1 r2
    generalize hhi : bss[m + 1]'(by omega) = hi at q1 q2
    have hback := fun (lo hi : List Bool) (L : List HP) => RowH.back2 (L := L) (e := 4) (t := lo) (u := hi) m hm1 (show svs.length = bss.length by omega)
    generalize svs[m] = x at hx hback
    generalize svs[m + 1] = y at hy hback
    repeat' (first | ((first | refine WLA.m rfl rfl ?_ ?_ | refine WLA.st rfl ?_ ?_ | refine WLA.x rfl rfl ?_ (fun x => ?_) | refine WLA.x0 rfl ?_ (fun x => ?_)); first | exact trivial | exact rfl | assumption | omega | (refine ⟨?_, ?_⟩ <;> omega) | (simp only [Room, List.length_set, List.length_append, List.length_cons, List.length_nil, List.length_replicate]; omega) | decide | skip) | (refine Stp.go ?_) | (refine WPA.ifT ?_) | (refine WPA.ifF ?_) | ((first | refine WPA.dec ?_); first | refine .inl ⟨by first | assumption | omega | with_reducible rfl | (refine fun h => h ?_; first | assumption | with_reducible rfl) | (simp only [List.length_append, List.length_cons, List.length_nil, List.length_set] <;> omega) | decide, ?_⟩ | refine .inr ⟨by first | assumption | omega | with_reducible rfl | (refine fun h => h ?_; first | assumption | with_reducible rfl) | (simp only [List.length_append, List.length_cons, List.length_nil, List.length_set] <;> omega) | decide, ?_⟩) | ((first | refine WPA.ifBt ?_ ?_ | refine WPA.ifBnf ?_ ?_); assumption) | ((first | refine WPA.ifBnt ?_ ?_ | refine WPA.ifBf ?_ ?_); assumption) | ((first | refine WPA.ifs ?_ ?_ | refine WPA.ifB ?_ ?_) <;> intro hc))
    refine WPA.loopS (σ := Nat × Nat × List Bool) (fun z => [(2, .pointer (some ⟨t2, 0, none⟩)), (7, .slice o.a o.n o.cap), (8, .int .i64 ((m + 1 : Nat) : Int)), (9, .int .i64 z.2.1), (36, .slice (at_ gr ((m + 1 : Nat) : Int)).a (at_ gr ((m + 1 : Nat) : Int)).n (at_ gr ((m + 1 : Nat) : Int)).cap), (37, .int .i64 es.length), (38, .int .i64 z.1)])
      (fun z => (z.1 ≤ es.length ∧ z.2.1 ≤ es0.length ∧ z.2.2.length = es0.length) ∧ (∀ j p : Nat, z.1 ≤ j → j < es.length → p < es0.length → kg (at_ es0 (p : Int)).1 = (kg (at_ es (j : Int)).1).take (m + 1) → z.2.1 ≤ p) ∧ ∀ a : Nat, a < es0.length → (at_ z.2.2 (a : Int) = true ↔ (m = 0 ∨ nK cn ks m a = true) ∨ ∃ i' : Nat, i' < z.1 ∧ at_ hi (i' : Int) = true ∧ (kg (at_ es (i' : Int)).1).take (m + 1) = kg (at_ es0 (a : Int)).1))
      (fun z => SL w0 J (OwnS 4 x z.2.2 :: OwnS 4 y hi :: RowX 4 m svs bss :: OwnS 35 o svs :: L)) (fun z => es.length - z.1) (0, 0, lo0) ⟨rfl, rfl, rfl, rfl, rfl, rfl, rfl, trivial⟩ ⟨⟨Nat.zero_le _, Nat.zero_le _, r1⟩, fun _ p _ _ _ _ => Nat.zero_le p, fun a ha => ?_⟩ (fun w h => h.to) ?_
    · dsimp only
      rw [r2 a ha]
      constructor
      · rintro (h | h | h)
        · exact .inl (.inl h)
        · exact .inl (.inr h)
        · omega
      · rintro ((h | h) | ⟨i', h, _⟩)
        · exact .inl h
        · exact .inr (.inl h)
        · exact absurd h (Nat.not_lt_zero _)
    rintro ⟨i, at1, lo⟩ ρ ⟨⟨hi1, hat, hll⟩, hmin, hlo1⟩
    dsimp only at hi1 hat hll hmin hlo1 ⊢
    by_cases hil : i < es.length
    · have hil' : (i : Int) < es.length := by omega
      have hih : (i : Int) < hi.length := by omega
      obtain ⟨p, hp1, hp2⟩ := hcl1 i hil
      have hatp := hmin i p (Nat.le_refl _) hil hp1 hp2
      have hmi : at_ es (i : Int) ∈ es := by rw [at_nat _ i hil]; exact List.getElem_mem _
      have hGi := hE1 _ hmi
      have hxl := hlen1 i hil
      have hxk : (0 : Int) ≤ ((m + 1 : Nat) : Int) ∧ ((m + 1 : Nat) : Int) ≤ (kg (at_ es (i : Int)).1).length := by omega
      have hct : cutL (kg (at_ es (i : Int)).1) 0 ((m + 1 : Nat) : Int) = (kg (at_ es (i : Int)).1).take (m + 1) := cut_take (by omega)
      have hcn : (cutL (kg (at_ es (i : Int)).1) 0 ((m + 1 : Nat) : Int)).length ≤ 1000000000 := by rw [hct, List.length_take]; have := hk1 _ hmi; omega
      repeat' ((fail_if_success (guard_target =~ WPA _ _ _ (.region 14 _ _) _ _ _)); first | ((first | refine WLA.m rfl rfl ?_ ?_ | refine WLA.st rfl ?_ ?_ | refine WLA.x rfl rfl ?_ (fun x => ?_) | refine WLA.x0 rfl ?_ (fun x => ?_)); first | exact trivial | exact rfl | assumption | omega | (refine ⟨?_, ?_⟩ <;> omega) | (simp only [Room, List.length_set, List.length_append, List.length_cons, List.length_nil, List.length_replicate]; omega) | decide | skip) | (refine Stp.go ?_) | (refine WPA.ifT ?_) | (refine WPA.ifF ?_) | ((first | refine WPA.dec ?_); first | refine .inl ⟨by first | assumption | omega | with_reducible rfl | (refine fun h => h ?_; first | assumption | with_reducible rfl) | (simp only [List.length_append, List.length_cons, List.length_nil, List.length_set] <;> omega) | decide, ?_⟩ | refine .inr ⟨by first | assumption | omega | with_reducible rfl | (refine fun h => h ?_; first | assumption | with_reducible rfl) | (simp only [List.length_append, List.length_cons, List.length_nil, List.length_set] <;> omega) | decide, ?_⟩) | ((first | refine WPA.ifBt ?_ ?_ | refine WPA.ifBnf ?_ ?_); assumption) | ((first | refine WPA.ifBnt ?_ ?_ | refine WPA.ifBf ?_ ?_); assumption) | ((first | refine WPA.ifs ?_ ?_ | refine WPA.ifB ?_ ?_) <;> intro hc))
      revert x; intro z
      refine WPA.loopS (σ := Nat) (fun at2 => [(2, .pointer (some ⟨t2, 0, none⟩)), (7, .slice o.a o.n o.cap), (8, .int .i64 ((m + 1 : Nat) : Int)), (9, .int .i64 at2), (10, .int .i64 i), (11, .pointer (some ⟨z, 0, none⟩)), (36, .slice (at_ gr ((m + 1 : Nat) : Int)).a (at_ gr ((m + 1 : Nat) : Int)).n (at_ gr ((m + 1 : Nat) : Int)).cap), (37, .int .i64 es.length), (38, .int .i64 i)]) (fun at2 => at2 ≤ p)
        (fun _ => SL w0 J (Bk z 54 [.slice (at_ es (i : Int)).1.a (at_ es (i : Int)).1.n (at_ es (i : Int)).1.cap, .int .i64 (at_ es (i : Int)).2.1, .int .i64 (at_ es (i : Int)).2.2] :: OwnS 4 x lo :: OwnS 4 y hi :: RowX 4 m svs bss :: OwnS 35 o svs :: L)) (fun at2 => p - at2) at1 ⟨rfl, rfl, rfl, rfl, rfl, rfl, rfl, rfl, rfl, trivial⟩ hatp (fun w h => h.to) ?_
      rintro at2 ρ hat2
      have h2l : (0 : Int) ≤ at2 ∧ (at2 : Int) < es0.length := by omega
      have hm2i : at_ es0 (at2 : Int) ∈ es0 := by rw [at_nat _ at2 (by omega)]; exact List.getElem_mem _
      have hG2 := hE0 _ hm2i
      have hc0 : (kg (at_ es0 (at2 : Int)).1).length ≤ 1000000000 := by have := hk0 _ hm2i; omega
      by_cases hap : at2 < p
      · have hcm : cmpL (kg (at_ es0 (at2 : Int)).1) (cutL (kg (at_ es (i : Int)).1) 0 ((m + 1 : Nat) : Int)) < 0 := by
          rw [hct, ← hp2]; exact ris_lt hS0 hap hp1
        repeat' (first | ((rw [em])) | ((rw [hes0])) | ((first | refine WLA.m rfl rfl ?_ ?_ | refine WDQ.m rfl rfl ?_ ?_ | refine WLA.st rfl ?_ ?_ | refine WLA.x rfl rfl ?_ (fun x => ?_) | refine WLA.x0 rfl ?_ (fun x => ?_)); first | exact trivial | exact rfl | assumption | omega | (refine ⟨?_, ?_⟩ <;> omega) | (simp only [Room, List.length_set, List.length_append, List.length_cons, List.length_nil, List.length_replicate]; omega) | decide | skip) | (refine Stp.go ?_) | (guard_target =~ WLA _ _ _ _ _ (⟨_, .call ⟨.value (.func 27), _, _⟩, _, _, _, _⟩ :: _) _ _; refine WLA.cq rfl rfl (gCompare_tr hc0 hcn) ?_) | (refine WPA.ifT ?_) | (refine WPA.ifF ?_) | ((first | refine WPA.dec ?_); first | refine .inl ⟨by first | assumption | omega | with_reducible rfl | (refine fun h => h ?_; first | assumption | with_reducible rfl) | (simp only [List.length_append, List.length_cons, List.length_nil, List.length_set] <;> omega) | decide, ?_⟩ | refine .inr ⟨by first | assumption | omega | with_reducible rfl | (refine fun h => h ?_; first | assumption | with_reducible rfl) | (simp only [List.length_append, List.length_cons, List.length_nil, List.length_set] <;> omega) | decide, ?_⟩) | ((first | refine WPA.ifBt ?_ ?_ | refine WPA.ifBnf ?_ ?_); assumption) | ((first | refine WPA.ifBnt ?_ ?_ | refine WPA.ifBf ?_ ?_); assumption) | ((first | refine WPA.ifs ?_ ?_ | refine WPA.ifB ?_ ?_) <;> intro hc) | (guard_target =~ WPA _ _ _ (.region 14 _ true) _ _ _; refine WPA.drawT 14 (.q 0 (.q 1 (.q 2 (.q 3 (.q 4 (.q 5 (.q 6 (.q 7 (.q 8 (.q 9 (.q 10 (.q 11 (.q 12 (.q 13 .fin)))))))))))))) mixed ?_ ?_; kernel_rfl) | (refine WDA.finish (tl := [⟨_, _, _, _, _, _⟩, ⟨_, _, _, _, _, _⟩]) rfl ?_) | (refine WDQ.see rfl ?_) | (guard_target =~ WDQ _ _ _ _ _ _ _ ⟨_, .call ⟨.value (.func 27), _, _⟩, _, _, _, _⟩ _ _ _; refine WDQ.cq rfl rfl (gCompare_tr hc0 hcn) ?_))
        all_goals exact QQ.loopS (at2 + 1) ⟨rfl, rfl, rfl, rfl, rfl, rfl, rfl, rfl, rfl, trivial⟩ hap (by omega) (fun w h => h.to)
      · have hpe : at2 = p := by omega
        subst hpe
        have hcm : ¬ cmpL (kg (at_ es0 (at2 : Int)).1) (cutL (kg (at_ es (i : Int)).1) 0 ((m + 1 : Nat) : Int)) < 0 := by
          rw [hct, ← hp2, cmpL_refl]; omega
        have h2o : (0 : Int) ≤ at2 ∧ (at2 : Int) < lo.length := by omega
        have hnext : ∀ b : Bool, (b = true ↔ at_ lo (at2 : Int) = true ∨ at_ hi (i : Int) = true) →
            (i + 1 ≤ es.length ∧ at2 ≤ es0.length ∧ (lo.set (at2 : Int).toNat b).length = es0.length) ∧ (∀ j p : Nat, i + 1 ≤ j → j < es.length → p < es0.length → kg (at_ es0 (p : Int)).1 = (kg (at_ es (j : Int)).1).take (m + 1) → at2 ≤ p) ∧ ∀ a : Nat, a < es0.length → (at_ (lo.set (at2 : Int).toNat b) (a : Int) = true ↔ (m = 0 ∨ nK cn ks m a = true) ∨ ∃ i' : Nat, i' < i + 1 ∧ at_ hi (i' : Int) = true ∧ (kg (at_ es (i' : Int)).1).take (m + 1) = kg (at_ es0 (a : Int)).1) := by
          intro b hb
          refine ⟨⟨by omega, by omega, by rw [List.length_set]; exact hll⟩, fun j p h1 h2 h3 h4 => ?_, fun a ha => ?_⟩
          · apply Classical.byContradiction
            intro hc
            have hlt := ris_lt hS0 (show p < at2 by omega) hp1
            rw [h4, hp2] at hlt
            have hle := cmpL_take (m + 1) (by rw [hlen1 i hil, hlen1 j h2]) (ris_lt hS1 (show i < j by omega) h2)
            unfold ltL at hlt
            rw [cmpL_swap] at hle
            omega
          · rw [show (at2 : Int).toNat = at2 from rfl]
            by_cases haa : a = at2
            · subst haa
              rw [at_set (by omega), hb, hlo1 a ha]
              constructor
              · rintro ((h | ⟨i', h1, h2, h3⟩) | h)
                · exact .inl h
                · exact .inr ⟨i', by omega, h2, h3⟩
                · exact .inr ⟨i, by omega, h, hp2.symm⟩
              · rintro (h | ⟨i', h1, h2, h3⟩)
                · exact .inl (.inl h)
                · by_cases hii : i' = i
                  · subst hii; exact .inr h2
                  · exact .inl (.inr ⟨i', by omega, h2, h3⟩)
            · rw [at_nat _ a (by rw [List.length_set]; omega), List.getElem_set_ne (by omega), ← at_nat lo a (by omega), hlo1 a ha]
              constructor
              · rintro (h | ⟨i', h1, h2, h3⟩)
                · exact .inl h
                · exact .inr ⟨i', by omega, h2, h3⟩
              · rintro (h | ⟨i', h1, h2, h3⟩)
                · exact .inl h
                · by_cases hii : i' = i
                  · subst hii
                    exact absurd (ris_inj hS0 ha hp1 (by rw [← h3, hp2])) haa
                  · exact .inr ⟨i', by omega, h2, h3⟩
        by_cases hlb : at_ lo (at2 : Int) = true
        · skip
          repeat' (first | ((rw [em])) | ((rw [hes0])) | ((rw [hx])) | ((rw [hlb])) | ((first | refine WLA.m rfl rfl ?_ ?_ | refine WDQ.m rfl rfl ?_ ?_ | refine WLA.st rfl ?_ ?_ | refine WLA.x rfl rfl ?_ (fun x => ?_) | refine WLA.x0 rfl ?_ (fun x => ?_)); first | exact trivial | exact rfl | assumption | omega | (refine ⟨?_, ?_⟩ <;> omega) | (simp only [Room, List.length_set, List.length_append, List.length_cons, List.length_nil, List.length_replicate]; omega) | decide | skip) | (refine Stp.go ?_) | (guard_target =~ WLA _ _ _ _ _ (⟨_, .call ⟨.value (.func 27), _, _⟩, _, _, _, _⟩ :: _) _ _; refine WLA.cq rfl rfl (gCompare_tr hc0 hcn) ?_) | (refine WPA.ifT ?_) | (refine WPA.ifF ?_) | (refine WLA.no rfl rfl ?_) | (refine WDQ.no rfl rfl ?_) | ((first | refine WPA.dec ?_ | ((fail_if_success (guard_target =~ WLA _ _ _ _ _ _ (put1 _ _ (.bool true)) _)); (fail_if_success (guard_target =~ WLA _ _ _ _ _ _ (put1 _ _ (.bool false)) _)); refine WLA.dec rfl rfl ?_) | refine WLA.pk ?_ | refine WDQ.dec rfl rfl ?_); first | refine .inl ⟨by first | assumption | omega | with_reducible rfl | (refine fun h => h ?_; first | assumption | with_reducible rfl) | (simp only [List.length_append, List.length_cons, List.length_nil, List.length_set] <;> omega) | decide, ?_⟩ | refine .inr ⟨by first | assumption | omega | with_reducible rfl | (refine fun h => h ?_; first | assumption | with_reducible rfl) | (simp only [List.length_append, List.length_cons, List.length_nil, List.length_set] <;> omega) | decide, ?_⟩) | ((first | refine WPA.ifBt ?_ ?_ | refine WPA.ifBnf ?_ ?_); assumption) | ((first | refine WPA.ifBnt ?_ ?_ | refine WPA.ifBf ?_ ?_); assumption) | ((first | refine WPA.ifs ?_ ?_ | refine WPA.ifB ?_ ?_) <;> intro hc) | ((fail_if_success (guard_target =~ WLA _ _ _ _ _ _ (put1 _ _ (.bool true)) _)); (fail_if_success (guard_target =~ WLA _ _ _ _ _ _ (put1 _ _ (.bool false)) _)); (first | refine WLA.both rfl rfl ?_ ?_ | refine WLA.bothB rfl rfl ?_ ?_) <;> intro hg) | (guard_target =~ WPA _ _ _ (.region 14 _ true) _ _ _; refine WPA.drawT 14 (.q 0 (.q 1 (.q 2 (.q 3 (.q 4 (.q 5 (.q 6 (.q 7 (.q 8 (.q 9 (.q 10 (.q 11 (.q 12 (.q 13 .fin)))))))))))))) mixed ?_ ?_; kernel_rfl) | (guard_target =~ WPA _ _ _ (.region 16 _ true) _ _ _; refine WPA.drawT 23 (.q 0 (.q 1 (.q 2 (.q 3 (.q 4 (.q 5 (.q 6 (.q 7 (.q 8 (.q 9 (.q 10 (.q 11 (.q 12 (.q 13 (.q 14 (.q 15 (.q 16 (.q 17 (.q 18 (.q 19 (.q 20 (.q 21 (.q 22 .fin))))))))))))))))))))))) mixed ?_ ?_; kernel_rfl) | (refine WDA.finish (tl := [⟨_, _, _, _, _, _⟩, ⟨_, _, _, _, _, _⟩]) rfl ?_) | (refine WDQ.see rfl ?_) | (guard_target =~ WDQ _ _ _ _ _ _ _ ⟨_, .call ⟨.value (.func 27), _, _⟩, _, _, _, _⟩ _ _ _; refine WDQ.cq rfl rfl (gCompare_tr hc0 hcn) ?_) | ((first | refine WDQ.both rfl rfl ?_ ?_) <;> intro hg))
          all_goals exact QQ.loopS (i + 1, at2, lo.set (at2 : Int).toNat true) ⟨rfl, rfl, rfl, rfl, rfl, rfl, rfl, trivial⟩ (hnext true ⟨fun _ => .inl hlb, fun _ => rfl⟩) (by dsimp only; omega) (fun w h => h.to)
        · have hlb' : at_ lo (at2 : Int) = false := by simpa using hlb
          repeat' (first | ((rw [em])) | ((rw [hes0])) | ((rw [hx])) | ((rw [hy])) | ((rw [hlb'])) | ((first | refine WLA.m rfl rfl ?_ ?_ | refine WDQ.m rfl rfl ?_ ?_ | refine WLA.st rfl ?_ ?_ | refine WLA.x rfl rfl ?_ (fun x => ?_) | refine WLA.x0 rfl ?_ (fun x => ?_)); first | exact trivial | exact rfl | assumption | omega | (refine ⟨?_, ?_⟩ <;> omega) | (simp only [Room, List.length_set, List.length_append, List.length_cons, List.length_nil, List.length_replicate]; omega) | decide | skip) | (refine Stp.go ?_) | (guard_target =~ WLA _ _ _ _ _ (⟨_, .call ⟨.value (.func 27), _, _⟩, _, _, _, _⟩ :: _) _ _; refine WLA.cq rfl rfl (gCompare_tr hc0 hcn) ?_) | (refine WPA.ifT ?_) | (refine WPA.ifF ?_) | (refine WLA.no rfl rfl ?_) | (refine WDQ.no rfl rfl ?_) | ((first | refine WPA.dec ?_ | ((fail_if_success (guard_target =~ WLA _ _ _ _ _ _ (put1 _ _ (.bool true)) _)); (fail_if_success (guard_target =~ WLA _ _ _ _ _ _ (put1 _ _ (.bool false)) _)); refine WLA.dec rfl rfl ?_) | refine WLA.pk ?_ | refine WDQ.dec rfl rfl ?_); first | refine .inl ⟨by first | assumption | omega | with_reducible rfl | (refine fun h => h ?_; first | assumption | with_reducible rfl) | (simp only [List.length_append, List.length_cons, List.length_nil, List.length_set] <;> omega) | decide, ?_⟩ | refine .inr ⟨by first | assumption | omega | with_reducible rfl | (refine fun h => h ?_; first | assumption | with_reducible rfl) | (simp only [List.length_append, List.length_cons, List.length_nil, List.length_set] <;> omega) | decide, ?_⟩) | ((first | refine WPA.ifBt ?_ ?_ | refine WPA.ifBnf ?_ ?_); assumption) | ((first | refine WPA.ifBnt ?_ ?_ | refine WPA.ifBf ?_ ?_); assumption) | ((first | refine WPA.ifs ?_ ?_ | refine WPA.ifB ?_ ?_) <;> intro hc) | ((fail_if_success (guard_target =~ WLA _ _ _ _ _ _ (put1 _ _ (.bool true)) _)); (fail_if_success (guard_target =~ WLA _ _ _ _ _ _ (put1 _ _ (.bool false)) _)); (first | refine WLA.both rfl rfl ?_ ?_ | refine WLA.bothB rfl rfl ?_ ?_) <;> intro hg) | (guard_target =~ WPA _ _ _ (.region 14 _ true) _ _ _; refine WPA.drawT 14 (.q 0 (.q 1 (.q 2 (.q 3 (.q 4 (.q 5 (.q 6 (.q 7 (.q 8 (.q 9 (.q 10 (.q 11 (.q 12 (.q 13 .fin)))))))))))))) mixed ?_ ?_; kernel_rfl) | (guard_target =~ WPA _ _ _ (.region 16 _ true) _ _ _; refine WPA.drawT 23 (.q 0 (.q 1 (.q 2 (.q 3 (.q 4 (.q 5 (.q 6 (.q 7 (.q 8 (.q 9 (.q 10 (.q 11 (.q 12 (.q 13 (.q 14 (.q 15 (.q 16 (.q 17 (.q 18 (.q 19 (.q 20 (.q 21 (.q 22 .fin))))))))))))))))))))))) mixed ?_ ?_; kernel_rfl) | (refine WDA.finish (tl := [⟨_, _, _, _, _, _⟩, ⟨_, _, _, _, _, _⟩]) rfl ?_) | (refine WDQ.see rfl ?_) | (guard_target =~ WDQ _ _ _ _ _ _ _ ⟨_, .call ⟨.value (.func 27), _, _⟩, _, _, _, _⟩ _ _ _; refine WDQ.cq rfl rfl (gCompare_tr hc0 hcn) ?_) | ((first | refine WDQ.both rfl rfl ?_ ?_) <;> intro hg))
          all_goals exact QQ.loopS (i + 1, at2, lo.set (at2 : Int).toNat (at_ hi (i : Int))) ⟨rfl, rfl, rfl, rfl, rfl, rfl, rfl, trivial⟩ (hnext _ ⟨fun h => .inr h, fun h => h.resolve_left hlb⟩) (by dsimp only; omega) (fun w h => h.to)
    · have hil' : ¬ (i : Int) < es.length := by omega
      have hie : i = es.length := by omega
      subst hie
      repeat' (first | ((rw [em])) | ((first | refine WLA.m rfl rfl ?_ ?_ | refine WLA.st rfl ?_ ?_ | refine WLA.x rfl rfl ?_ (fun x => ?_) | refine WLA.x0 rfl ?_ (fun x => ?_)); first | exact trivial | exact rfl | assumption | omega | (refine ⟨?_, ?_⟩ <;> omega) | (simp only [Room, List.length_set, List.length_append, List.length_cons, List.length_nil, List.length_replicate]; omega) | decide | skip) | (refine Stp.go ?_) | (refine WPA.ifT ?_) | (refine WPA.ifF ?_) | ((first | refine WPA.dec ?_); first | refine .inl ⟨by first | assumption | omega | with_reducible rfl | (refine fun h => h ?_; first | assumption | with_reducible rfl) | (simp only [List.length_append, List.length_cons, List.length_nil, List.length_set] <;> omega) | decide, ?_⟩ | refine .inr ⟨by first | assumption | omega | with_reducible rfl | (refine fun h => h ?_; first | assumption | with_reducible rfl) | (simp only [List.length_append, List.length_cons, List.length_nil, List.length_set] <;> omega) | decide, ?_⟩) | ((first | refine WPA.ifBt ?_ ?_ | refine WPA.ifBnf ?_ ?_); assumption) | ((first | refine WPA.ifBnt ?_ ?_ | refine WPA.ifBf ?_ ?_); assumption) | ((first | refine WPA.ifs ?_ ?_ | refine WPA.ifB ?_ ?_) <;> intro hc))
      refine QQ.loopS (m, (bss.set m lo).set (m + 1) hi) ⟨rfl, rfl, rfl, trivial⟩ ⟨by dsimp only; omega, by dsimp only; rw [List.length_set, List.length_set]; exact hbl, fun j hj => ?_⟩ (by dsimp only; omega) (fun w h => (hback lo hi (OwnS 35 o svs :: L)).sl h)
      dsimp only
      by_cases hj1 : j = m + 1
      · subst hj1
        rw [getD_some (List.getElem?_set_self (by rw [List.length_set]; omega))]
        refine ⟨by rw [hN1, hes1]; exact q1, fun a ha => ?_⟩
        rw [hN1, hes1] at ha
        rw [q2 a ha, hG1, hes1]
        exact ⟨fun h => h.imp id fun h => h.imp id fun h => ⟨by omega, h.2⟩, fun h => h.imp id fun h => h.imp id fun h => ⟨Nat.le_refl _, h.2⟩⟩
      · by_cases hj2 : j = m
        · subst hj2
          rw [List.getD_eq_getElem?_getD, List.getElem?_set_ne (by omega), List.getElem?_set_self (by omega), Option.getD_some]
          refine ⟨by rw [hN0, hes0]; exact hll, fun a ha => ?_⟩
          rw [hN0, hes0] at ha
          rw [hlo1 a ha, hG0, hes0, hstep a ha]
          constructor
          · rintro ((h | h) | ⟨i', h1, h2, h3⟩)
            · exact .inl h
            · exact .inr (.inl h)
            · refine .inr (.inr ⟨Nat.le_refl _, i', h1, ?_, h3⟩)
              rcases (q2 i' h1).1 h2 with h | h | h
              · omega
              · exact .inl h
              · exact .inr h.2
          · rintro (h | h | ⟨_, i', h1, h2, h3⟩)
            · exact .inl (.inl h)
            · exact .inl (.inr h)
            · refine .inr ⟨i', h1, (q2 i' h1).2 ?_, h3⟩
              rcases h2 with h | h
              · exact .inr (.inl h)
              · exact .inr (.inr ⟨Nat.le_refl _, h⟩)
        · rw [List.getD_eq_getElem?_getD, List.getElem?_set_ne (by omega), List.getElem?_set_ne (by omega), ← List.getD_eq_getElem?_getD]
          obtain ⟨g1, g2⟩ := hrow j hj
          refine ⟨g1, fun a ha => ?_⟩
          rw [g2 a ha]
          exact ⟨fun h => h.imp id fun h => h.imp id fun h => ⟨by omega, h.2⟩, fun h => h.imp id fun h => h.imp id fun h => ⟨by omega, h.2⟩⟩
end
end Go.Proofs.Ytcomkdndddkbeaa
namespace Go.Proofs.Ytcomkdndddkbeaa
open Go Go.Fw Go.RowKit
set_option linter.unusedVariables false
set_option linter.unusedSimpArgs false
set_option maxRecDepth 100000
set_option maxHeartbeats 16000000
set_option synthInstance.maxHeartbeats 200000
set_option synthInstance.maxSize 100000
attribute [local irreducible] WPA WLA WDA WDQ WDE QQ seqQ blockQ loopQ fnQ OpP OpT Tr TrP SL SLd OwnS LitS Bk BkE Ob
attribute [local irreducible] TblH VocH GridH RowH RowX RowsE RowE ClM
def flt {α : Type} : List α → List Bool → List α
  | x :: xs, b :: bs => if b = true then x :: flt xs bs else flt xs bs
  | _, _ => []
theorem flt_snoc {α : Type} {x : α} {b : Bool} : ∀ {xs : List α} {bs : List Bool}, xs.length = bs.length → flt (xs ++ [x]) (bs ++ [b]) = flt xs bs ++ (if b = true then [x] else [])
  | [], [], _ => by simp [flt]
  | y :: xs, c :: bs, h => by
    simp only [List.cons_append, flt]
    rw [flt_snoc (by simpa using h)]
    split <;> simp
  | [], c :: bs, h => by simp at h
  | y :: xs, [], h => by simp at h
theorem flt_map {α β : Type} {f : α → β} : ∀ {xs : List α} {bs : List Bool}, (flt xs bs).map f = flt (xs.map f) bs
  | [], [] => rfl
  | y :: xs, c :: bs => by
    simp only [List.map_cons, flt]
    split
    · rw [List.map_cons, flt_map]
    · exact flt_map
  | [], c :: bs => rfl
  | y :: xs, [] => rfl
theorem flt_sub {α : Type} : ∀ {xs : List α} {bs : List Bool}, (flt xs bs).Sublist xs
  | [], [] => .slnil
  | y :: xs, c :: bs => by
    simp only [flt]
    split
    · exact flt_sub.cons_cons y
    · exact flt_sub.cons y
  | [], c :: bs => .slnil
  | y :: xs, [] => by simp [flt]
theorem flt_mem {α : Type} {x : α} : ∀ {xs : List α} {bs : List Bool}, x ∈ flt xs bs ↔ ∃ i : Nat, xs[i]? = some x ∧ bs[i]? = some true
  | [], bs => by simp [flt]
  | y :: xs, [] => by simp [flt]
  | y :: xs, c :: bs => by
    have ih := flt_mem (x := x) (xs := xs) (bs := bs)
    simp only [flt]
    constructor
    · intro h
      split at h
      · rename_i hc
        rcases List.mem_cons.1 h with h | h
        · exact ⟨0, by simp [h], by simp [hc]⟩
        · obtain ⟨i, h1, h2⟩ := ih.1 h; exact ⟨i + 1, by simpa using h1, by simpa using h2⟩
      · obtain ⟨i, h1, h2⟩ := ih.1 h; exact ⟨i + 1, by simpa using h1, by simpa using h2⟩
    · rintro ⟨i, h1, h2⟩
      cases i with
      | zero =>
        simp only [List.getElem?_cons_zero, Option.some.injEq] at h1 h2
        subst h1 h2
        simp
      | succ i =>
        simp only [List.getElem?_cons_succ] at h1 h2
        have := ih.2 ⟨i, h1, h2⟩
        split
        · exact List.mem_cons_of_mem _ this
        · exact this
def fltM (A : List (List EV)) (bss : List (List Bool)) : List (List EV) := List.zipWith flt A bss
theorem fltM_get {A : List (List EV)} {bss : List (List Bool)} {k : Nat} {es : List EV} {bs : List Bool} (h1 : A[k]? = some es) (h2 : bss[k]? = some bs) : (fltM A bss)[k]? = some (flt es bs) := by
  unfold fltM; rw [List.getElem?_zipWith, h1, h2]
theorem LstE.of {J : Foot} {v : SV} {cs : List En} {kg : SV → List Int} (h1 : SlI J v En inferInstance cs) (h2 : EnG J kg cs) : LstE J v (enV kg cs) := by
  refine ⟨cs, h1, by unfold enV; simp [List.map_map, Function.comp_def], fun i hi => ?_⟩
  have := h2 _ (List.getElem_mem hi)
  rw [List.getD_eq_getElem?_getD]
  unfold enV
  rw [List.getElem?_map, List.getElem?_eq_getElem hi, at_nat _ i hi]
  exact this
section
variable {kg : SV → List Int} {re : SV → List En} {I : Foot}
theorem MdI.toR {wv g : SV} {ws : List ByteArray} {gr : List SV} (h : MdI I kg re wv g ws gr) : MdR I kg re wv g ws gr := ⟨h.words, h.grams, h.rows, h.elems, h.wsz⟩
theorem MdI.fewA {wv g : SV} {ws : List ByteArray} {gr : List SV} (h : MdI I kg re wv g ws gr) : FewA ws (gr.map fun h => enV kg (re h)) := by
  refine ⟨⟨h.wln, by rw [List.length_map]; exact h.gln⟩, fun es hes => ?_⟩
  obtain ⟨v, hv, rfl⟩ := List.mem_map.1 hes
  refine ⟨by unfold enV; rw [List.length_map]; exact h.rln v hv, fun e he => ?_⟩
  unfold enV at he
  obtain ⟨p, hp, rfl⟩ := List.mem_map.1 he
  exact h.kln v hv p hp
end
structure MS where
  k : Nat
  vs : List SV
  J : Foot
section
variable {kg : SV → List Int} {re : SV → List En} {cn : SV → List Bool} {L : List HP} {w0 : World} {I : Foot}
theorem WPA.knowI {ro : Option Nat} {P : Program} {n : Nat} {Q : Hnd} {ρ : Env} {c : Code} {φ : Prop} (h : ∀ w, SL w0 I L w → φ) (k : φ → WPA ro P n c Q ρ (SL w0 I L)) : WPA ro P n c Q ρ (SL w0 I L) := WPA.know h k
theorem Model_bad {fr : Int} {wv g c : SV} {ws : List ByteArray} {gr : List SV} (hM : MdI I kg re wv g ws gr) (hck : chkM kg re fr ws gr ≠ 0) :
    Tr Try.prog 9 #[.agg #[.int .i64 fr, .slice wv.a wv.n wv.cap, .slice g.a g.n g.cap], .slice c.a c.n c.cap] (SL w0 I L) (fun _ : Unit => .tuple #[.agg #[.int .i64 0, .slice none 0 0, .slice none 0 0], .int .i64 (chkM kg re fr ws gr)]) (fun _ => SL w0 I L) := by
  refine Tr.intro Try.func9 rfl Try.ntmps9 rfl ?_
  repeat' (first | ((first | refine WLA.m rfl rfl ?_ ?_ | refine WLA.st rfl ?_ ?_ | refine WLA.x rfl rfl ?_ (fun x => ?_) | refine WLA.x0 rfl ?_ (fun x => ?_)); first | exact trivial | exact rfl | assumption | omega | (refine ⟨?_, ?_⟩ <;> omega) | (simp only [Room, List.length_set, List.length_append, List.length_cons, List.length_nil, List.length_replicate]; omega) | decide | skip) | (refine Stp.go ?_) | (guard_target =~ WLA _ _ _ _ _ (⟨_, .call ⟨.value (.func 8), _, _⟩, _, _, _, _⟩ :: _) _ _; first | (refine WLA.call rfl rfl (Needed_bad hM hck) ?_; rintro ⟨⟩) | (refine WLA.call0 rfl (Needed_bad hM hck) ?_; rintro ⟨⟩)) | (refine WPA.ifT ?_) | (refine WPA.ifF ?_) | ((first | refine WPA.dec ?_); first | refine .inl ⟨by first | assumption | omega | with_reducible rfl | (refine fun h => h ?_; first | assumption | with_reducible rfl) | (simp only [List.length_append, List.length_cons, List.length_nil, List.length_set] <;> omega) | decide, ?_⟩ | refine .inr ⟨by first | assumption | omega | with_reducible rfl | (refine fun h => h ?_; first | assumption | with_reducible rfl) | (simp only [List.length_append, List.length_cons, List.length_nil, List.length_set] <;> omega) | decide, ?_⟩) | ((first | refine WPA.ifBt ?_ ?_ | refine WPA.ifBnf ?_ ?_); assumption) | ((first | refine WPA.ifBnt ?_ ?_ | refine WPA.ifBf ?_ ?_); assumption) | ((first | refine WPA.ifs ?_ ?_ | refine WPA.ifB ?_ ?_) <;> intro hc))
  exact QQ.endc rfl () rfl fun w h => h.to
theorem Model_nofit {fr : Int} {wv g c : SV} {ws : List ByteArray} {gr ks : List SV} (hM : MdI I kg re wv g ws gr) (hck : chkM kg re fr ws gr = 0) (hc : SlI I c SV inferInstance ks) (hC : ∀ h ∈ ks, SlI I h Bool inferInstance (cn h)) (hF : ¬ FitP re gr ks fun h => (cn h).length) :
    Tr Try.prog 9 #[.agg #[.int .i64 fr, .slice wv.a wv.n wv.cap, .slice g.a g.n g.cap], .slice c.a c.n c.cap] (SL w0 I L) (fun _ : Unit => .tuple #[.agg #[.int .i64 0, .slice none 0 0, .slice none 0 0], .int .i64 1]) (fun _ => SL w0 I L) := by
  refine Tr.intro Try.func9 rfl Try.ntmps9 rfl ?_
  repeat' (first | ((first | refine WLA.m rfl rfl ?_ ?_ | refine WLA.st rfl ?_ ?_ | refine WLA.x rfl rfl ?_ (fun x => ?_) | refine WLA.x0 rfl ?_ (fun x => ?_)); first | exact trivial | exact rfl | assumption | omega | (refine ⟨?_, ?_⟩ <;> omega) | (simp only [Room, List.length_set, List.length_append, List.length_cons, List.length_nil, List.length_replicate]; omega) | decide | skip) | (refine Stp.go ?_) | (guard_target =~ WLA _ _ _ _ _ (⟨_, .call ⟨.value (.func 8), _, _⟩, _, _, _, _⟩ :: _) _ _; first | (refine WLA.call rfl rfl (Needed_nofit hM hck hc hC hF) ?_; rintro ⟨⟩) | (refine WLA.call0 rfl (Needed_nofit hM hck hc hC hF) ?_; rintro ⟨⟩)) | (refine WPA.ifT ?_) | (refine WPA.ifF ?_) | ((first | refine WPA.dec ?_); first | refine .inl ⟨by first | assumption | omega | with_reducible rfl | (refine fun h => h ?_; first | assumption | with_reducible rfl) | (simp only [List.length_append, List.length_cons, List.length_nil, List.length_set] <;> omega) | decide, ?_⟩ | refine .inr ⟨by first | assumption | omega | with_reducible rfl | (refine fun h => h ?_; first | assumption | with_reducible rfl) | (simp only [List.length_append, List.length_cons, List.length_nil, List.length_set] <;> omega) | decide, ?_⟩) | ((first | refine WPA.ifBt ?_ ?_ | refine WPA.ifBnf ?_ ?_); assumption) | ((first | refine WPA.ifBnt ?_ ?_ | refine WPA.ifBf ?_ ?_); assumption) | ((first | refine WPA.ifs ?_ ?_ | refine WPA.ifB ?_ ?_) <;> intro hc))
  exact QQ.endc rfl () rfl fun w h => h.to
theorem Model_ok {fr : Int} {wv g c : SV} {ws : List ByteArray} {gr ks : List SV} (hM : MdI I kg re wv g ws gr) (hck : chkM kg re fr ws gr = 0) (hc : SlI I c SV inferInstance ks) (hC : ∀ h ∈ ks, SlI I h Bool inferInstance (cn h)) (hF : FitP re gr ks fun h => (cn h).length) :
    Tr Try.prog 9 #[.agg #[.int .i64 fr, .slice wv.a wv.n wv.cap, .slice g.a g.n g.cap], .slice c.a c.n c.cap] (SL w0 I L) (fun x : SV × SV × Foot => .tuple #[.agg #[.int .i64 fr, .slice x.1.a x.1.n x.1.cap, .slice x.2.1.a x.2.1.n x.2.1.cap], .int .i64 0])
      (fun x w => (SubI x.2.2 I ∧ MdL x.2.2 x.1 x.2.1 ws (fltM (gr.map fun h => enV kg (re h)) (chS re gr (ndK kg re gr cn ks)))) ∧ SL w0 x.2.2 L w) := by
  refine Tr.intro Try.func9 rfl Try.ntmps9 rfl ?_
  have ha := hM.toR.toL
  have fa := hM.fewA
  have hNd := fun {L : List HP} => Needed_ok (L := L) (w0 := w0) hM hck hc hC hF
  have hbs : ∀ k : Nat, k < gr.length → ∃ bs : List Bool, (chS re gr (ndK kg re gr cn ks))[k]? = some bs ∧ bs.length = (re (at_ gr (k : Int))).length := fun k hk => ⟨_, chS_get hk, by simp [chR]⟩
  have hbn : (chS re gr (ndK kg re gr cn ks)).length = gr.length := chS_len
  generalize chS re gr (ndK kg re gr cn ks) = bss at hNd hbs hbn
  have hAn : (gr.map fun h => enV kg (re h)).length = gr.length := List.length_map _
  have hAl : ∀ k : Nat, k < gr.length → ∃ es : List EV, (gr.map fun h => enV kg (re h))[k]? = some es ∧ es.length = (re (at_ gr (k : Int))).length ∧ es.length ≤ 1000000 := fun k hk => by
    refine ⟨_, by rw [List.getElem?_map, List.getElem?_eq_getElem hk]; rfl, ?_⟩
    rw [← at_nat gr k hk]
    have := hM.rln (at_ gr (k : Int)) (by rw [at_nat gr k hk]; exact List.getElem_mem _)
    unfold enV; rw [List.length_map]; exact ⟨rfl, this⟩
  generalize (gr.map fun h => enV kg (re h)) = A at ha fa hAn hAl
  have hgn := hM.gln
  generalize hn : gr.length = n at hgn hAn hAl hbs hbn
  repeat' ((fail_if_success (guard_target =~ WPA _ _ _ (.region 5 _ _) _ _ _)); first | ((first | refine WLA.m rfl rfl ?_ ?_ | refine WLA.st rfl ?_ ?_ | refine WLA.x rfl rfl ?_ (fun x => ?_) | refine WLA.x0 rfl ?_ (fun x => ?_)); first | exact trivial | exact rfl | assumption | omega | (refine ⟨?_, ?_⟩ <;> omega) | (simp only [Room, List.length_set, List.length_append, List.length_cons, List.length_nil, List.length_replicate]; omega) | decide | skip) | (refine Stp.go ?_) | (guard_target =~ WLA _ _ _ _ _ (⟨_, .call ⟨.value (.func 8), _, _⟩, _, _, _, _⟩ :: _) _ _; first | (refine WLA.call rfl rfl (hNd) ?_; rintro a) | (refine WLA.call0 rfl (hNd) ?_; rintro a)) | (guard_target =~ WLA _ _ _ _ _ (⟨_, .call ⟨.value (.func 28), _, _⟩, _, _, _, _⟩ :: _) _ _; first | (refine WLA.call rfl rfl (mClone_trI ha fa) ?_; rintro ⟨cw, cg⟩; dsimp only) | (refine WLA.call0 rfl (mClone_trI ha fa) ?_; rintro ⟨cw, cg⟩; dsimp only)) | (refine WPA.ifT ?_) | (refine WPA.ifF ?_) | ((first | refine WPA.dec ?_); first | refine .inl ⟨by first | assumption | omega | with_reducible rfl | (refine fun h => h ?_; first | assumption | with_reducible rfl) | (simp only [List.length_append, List.length_cons, List.length_nil, List.length_set] <;> omega) | decide, ?_⟩ | refine .inr ⟨by first | assumption | omega | with_reducible rfl | (refine fun h => h ?_; first | assumption | with_reducible rfl) | (simp only [List.length_append, List.length_cons, List.length_nil, List.length_set] <;> omega) | decide, ?_⟩) | ((first | refine WPA.ifBt ?_ ?_ | refine WPA.ifBnf ?_ ?_); assumption) | ((first | refine WPA.ifBnt ?_ ?_ | refine WPA.ifBf ?_ ?_); assumption) | ((first | refine WPA.ifs ?_ ?_ | refine WPA.ifB ?_ ?_) <;> intro hc))
  rename_i t2 t4
  revert x; intro t8
  refine WPA.ent (EntC.out (L' := ClM cw (cg, ws, A) :: GridH a bss :: Bk t8 25 [.int .i64 fr, .slice cw.a cw.n cw.cap, .slice cg.a cg.n cg.cap] :: Bk t4 25 [.int .i64 0, .slice none 0 0, .slice none 0 0] :: L)) ?_
  refine WPA.clm fun vs hvl => ?_
  refine WPA.freeze fun R1 h1 => ?_
  refine WPA.ent (EntC.out (L' := RowsE vs A :: GridH a bss :: OwnS 36 cg vs :: Bk t8 25 [.int .i64 fr, .slice cw.a cw.n cw.cap, .slice cg.a cg.n cg.cap] :: Bk t4 25 [.int .i64 0, .slice none 0 0, .slice none 0 0] :: L)) ?_
  refine WPA.freeze fun R2 h2 => ?_
  refine WPA.freeze fun R3 h3 => ?_
  have hs : SubI (R3 ++ (R2 ++ (R1 ++ I))) I := inferInstance
  have hsw : SlI (R3 ++ (R2 ++ (R1 ++ I))) cw ByteArray inferInstance ws := by have := SlI.ofOwn h1; infer_instance
  have hgd : GdI (R3 ++ (R2 ++ (R1 ++ I))) a bss := h3.gd ⟨fun _ h => List.mem_append_left _ h⟩
  have hrw : ∀ k : Nat, k < n → LstE (R3 ++ (R2 ++ (R1 ++ I))) (at_ vs (k : Int)) (A.getD k []) := fun k hk => by
    have := RowsE.lst h2 hvl (J := R3 ++ (R2 ++ (R1 ++ I))) ⟨fun _ h => List.mem_append_right _ (List.mem_append_left _ h)⟩ k (by omega) (by omega)
    rw [at_nat vs k (by omega), List.getD_eq_getElem?_getD, List.getElem?_eq_getElem (show k < A.length by omega)]
    exact this
  generalize R3 ++ (R2 ++ (R1 ++ I)) = J at hs hsw hgd hrw
  clear h1 h2 h3
  have hvn : vs.length = n := by omega
  repeat' (first | ((first | refine WLA.m rfl rfl ?_ ?_ | refine WLA.st rfl ?_ ?_ | refine WLA.x rfl rfl ?_ (fun x => ?_) | refine WLA.x0 rfl ?_ (fun x => ?_)); first | exact trivial | exact rfl | assumption | omega | (refine ⟨?_, ?_⟩ <;> omega) | (simp only [Room, List.length_set, List.length_append, List.length_cons, List.length_nil, List.length_replicate]; omega) | decide | skip) | (refine Stp.go ?_) | (refine WPA.ifT ?_) | (refine WPA.ifF ?_) | ((first | refine WPA.dec ?_); first | refine .inl ⟨by first | assumption | omega | with_reducible rfl | (refine fun h => h ?_; first | assumption | with_reducible rfl) | (simp only [List.length_append, List.length_cons, List.length_nil, List.length_set] <;> omega) | decide, ?_⟩ | refine .inr ⟨by first | assumption | omega | with_reducible rfl | (refine fun h => h ?_; first | assumption | with_reducible rfl) | (simp only [List.length_append, List.length_cons, List.length_nil, List.length_set] <;> omega) | decide, ?_⟩) | ((first | refine WPA.ifBt ?_ ?_ | refine WPA.ifBnf ?_ ?_); assumption) | ((first | refine WPA.ifBnt ?_ ?_ | refine WPA.ifBf ?_ ?_); assumption) | ((first | refine WPA.ifs ?_ ?_ | refine WPA.ifB ?_ ?_) <;> intro hc))
  refine WPA.loopS (σ := MS) (fun y => [(4, .pointer (some ⟨t4, 0, none⟩)), (5, .int .i64 0), (6, .slice a.a a.n a.cap), (8, .pointer (some ⟨t8, 0, none⟩)), (27, .int .i64 vs.length), (28, .int .i64 y.k)])
    (fun y => (y.k ≤ n ∧ y.vs.length = n) ∧ SubI y.J J ∧ ∀ j : Nat, j < n → LstE y.J (at_ y.vs (j : Int)) (if j < y.k then (fltM A bss).getD j [] else A.getD j []))
    (fun y => SL w0 y.J (OwnS 36 cg y.vs :: Bk t8 25 [.int .i64 fr, .slice cw.a cw.n cw.cap, .slice cg.a cg.n cg.cap] :: Bk t4 25 [.int .i64 0, .slice none 0 0, .slice none 0 0] :: L)) (fun y => n - y.k) ⟨0, vs, J⟩ ⟨rfl, rfl, rfl, rfl, rfl, rfl, trivial⟩ ⟨⟨Nat.zero_le _, hvn⟩, inferInstance, fun j hj => by rw [if_neg (Nat.not_lt_zero _)]; exact hrw j hj⟩ (fun w h => h.to) ?_
  rintro ⟨k, us, J2⟩ ρ ⟨⟨hk, hul⟩, hs2, hls⟩
  dsimp only at hk hul hs2 hls ⊢
  by_cases hkl : k < n
  · have hkl' : (k : Int) < vs.length := by omega
    have hku : (k : Int) < us.length := by omega
    obtain ⟨bs, b1, b2⟩ := hbs k hkl
    obtain ⟨es, a1, a2, a3⟩ := hAl k hkl
    have hbe := fltM_get a1 b1
    have hlk := hls k hkl
    rw [if_neg (Nat.lt_irrefl _), getD_some a1] at hlk
    obtain ⟨svs, d1, d2, d3⟩ := hgd.sub hs2
    have d4 := d3 k (by omega)
    rw [getD_some b1] at d4
    have hka : (k : Int) < svs.length := by omega
    refine WPA.knowI (fun w hw => hlk.nst hw) fun hnst => ?_
    obtain ⟨⟨p1, p2⟩, p3⟩ := hnst
    generalize rd En J2 (at_ us (k : Int)) = cs at p1 p2 p3
    have hcl : cs.length = es.length := by rw [← p3]; unfold enV; simp
    repeat' (first | ((first | refine WLA.m rfl rfl ?_ ?_ | refine WLA.st rfl ?_ ?_ | refine WLA.x rfl rfl ?_ (fun x => ?_) | refine WLA.x0 rfl ?_ (fun x => ?_)); first | exact trivial | exact rfl | assumption | omega | (refine ⟨?_, ?_⟩ <;> omega) | (simp only [Room, List.length_set, List.length_append, List.length_cons, List.length_nil, List.length_replicate]; omega) | decide | skip) | (refine Stp.go ?_) | (refine WPA.ifT ?_) | (refine WPA.ifF ?_) | ((first | refine WPA.dec ?_); first | refine .inl ⟨by first | assumption | omega | with_reducible rfl | (refine fun h => h ?_; first | assumption | with_reducible rfl) | (simp only [List.length_append, List.length_cons, List.length_nil, List.length_set] <;> omega) | decide, ?_⟩ | refine .inr ⟨by first | assumption | omega | with_reducible rfl | (refine fun h => h ?_; first | assumption | with_reducible rfl) | (simp only [List.length_append, List.length_cons, List.length_nil, List.length_set] <;> omega) | decide, ?_⟩) | ((first | refine WPA.ifBt ?_ ?_ | refine WPA.ifBnf ?_ ?_); assumption) | ((first | refine WPA.ifBnt ?_ ?_ | refine WPA.ifBf ?_ ?_); assumption) | ((first | refine WPA.ifs ?_ ?_ | refine WPA.ifB ?_ ?_) <;> intro hc))
    refine WPA.loopS (σ := IS) (fun y => [(4, .pointer (some ⟨t4, 0, none⟩)), (5, .int .i64 0), (6, .slice a.a a.n a.cap), (8, .pointer (some ⟨t8, 0, none⟩)), (27, .int .i64 vs.length), (28, .int .i64 k), (9, .int .i64 k), (10, .slice y.cur.a y.cur.n y.cur.cap), (35, .slice (at_ us (k : Int)).a (at_ us (k : Int)).n (at_ us (k : Int)).cap), (36, .int .i64 cs.length), (37, .int .i64 y.i)])
      (fun y => y.i ≤ cs.length ∧ y.cs = flt (cs.take y.i) (bs.take y.i))
      (fun y => SL w0 J2 (OwnS 54 y.cur y.cs :: OwnS 36 cg us :: Bk t8 25 [.int .i64 fr, .slice cw.a cw.n cw.cap, .slice cg.a cg.n cg.cap] :: Bk t4 25 [.int .i64 0, .slice none 0 0, .slice none 0 0] :: L)) (fun y => cs.length - y.i) ⟨0, SV.nil, []⟩ ⟨rfl, rfl, rfl, rfl, rfl, rfl, rfl, rfl, rfl, rfl, rfl, trivial⟩ ⟨Nat.zero_le _, rfl⟩ (fun w h => h.to) ?_
    rintro ⟨i, cur, cs2⟩ ρ ⟨hi, hc2⟩
    dsimp only at hi hc2 ⊢
    have hc2l : cs2.length ≤ cs.length := by
      rw [hc2]; exact Nat.le_trans flt_sub.length_le (by rw [List.length_take]; omega)
    by_cases hil : i < cs.length
    · have hil' : (i : Int) < cs.length := by omega
      have hib : (i : Int) < bs.length := by omega
      have t1 : cs.take (i + 1) = cs.take i ++ [at_ cs (i : Int)] := take_one (by rw [List.getElem?_eq_getElem hil, at_nat cs i hil])
      have t2' : bs.take (i + 1) = bs.take i ++ [at_ bs (i : Int)] := take_one (by rw [List.getElem?_eq_getElem (show i < bs.length by omega), at_nat bs i (by omega)])
      have hf := flt_snoc (x := at_ cs (i : Int)) (b := at_ bs (i : Int)) (xs := cs.take i) (bs := bs.take i) (by rw [List.length_take, List.length_take]; omega)
      rw [← t1, ← t2', ← hc2] at hf
      generalize hP : at_ cs (i : Int) = p at hf
      obtain ⟨pG, pP, pB⟩ := p
      by_cases hbi : at_ bs (i : Int) = true
      · rw [if_pos hbi] at hf
        repeat' (first | ((rw [hP]; dsimp only)) | ((rw [hbi])) | ((first | refine WLA.m rfl rfl ?_ ?_ | refine WLA.st rfl ?_ ?_ | refine WLA.x rfl rfl ?_ (fun x => ?_) | refine WLA.x0 rfl ?_ (fun x => ?_)); first | exact trivial | exact rfl | assumption | omega | (refine ⟨?_, ?_⟩ <;> omega) | (simp only [Room, List.length_set, List.length_append, List.length_cons, List.length_nil, List.length_replicate]; omega) | decide | skip) | (refine Stp.go ?_) | (refine WPA.ifT ?_) | (refine WPA.ifF ?_) | ((first | refine WPA.dec ?_); first | refine .inl ⟨by first | assumption | omega | with_reducible rfl | (refine fun h => h ?_; first | assumption | with_reducible rfl) | (simp only [List.length_append, List.length_cons, List.length_nil, List.length_set] <;> omega) | decide, ?_⟩ | refine .inr ⟨by first | assumption | omega | with_reducible rfl | (refine fun h => h ?_; first | assumption | with_reducible rfl) | (simp only [List.length_append, List.length_cons, List.length_nil, List.length_set] <;> omega) | decide, ?_⟩) | ((first | refine WPA.ifBt ?_ ?_ | refine WPA.ifBnf ?_ ?_); assumption) | ((first | refine WPA.ifBnt ?_ ?_ | refine WPA.ifBf ?_ ?_); assumption) | ((first | refine WPA.ifs ?_ ?_ | refine WPA.ifB ?_ ?_) <;> intro hc))
        exact QQ.loopS ⟨i + 1, x, cs2 ++ [(pG, pP, pB)]⟩ ⟨rfl, rfl, rfl, rfl, rfl, rfl, rfl, rfl, rfl, rfl, rfl, trivial⟩ ⟨hil, hf.symm⟩ (by dsimp only; omega) (fun w h => h.to)
      · rw [if_neg hbi, List.append_nil] at hf
        have hbi' : at_ bs (i : Int) = false := by simpa using hbi
        repeat' (first | ((rw [hP]; dsimp only)) | ((rw [hbi'])) | ((first | refine WLA.m rfl rfl ?_ ?_ | refine WLA.st rfl ?_ ?_ | refine WLA.x rfl rfl ?_ (fun x => ?_) | refine WLA.x0 rfl ?_ (fun x => ?_)); first | exact trivial | exact rfl | assumption | omega | (refine ⟨?_, ?_⟩ <;> omega) | (simp only [Room, List.length_set, List.length_append, List.length_cons, List.length_nil, List.length_replicate]; omega) | decide | skip) | (refine Stp.go ?_) | (refine WPA.ifT ?_) | (refine WPA.ifF ?_) | ((first | refine WPA.dec ?_); first | refine .inl ⟨by first | assumption | omega | with_reducible rfl | (refine fun h => h ?_; first | assumption | with_reducible rfl) | (simp only [List.length_append, List.length_cons, List.length_nil, List.length_set] <;> omega) | decide, ?_⟩ | refine .inr ⟨by first | assumption | omega | with_reducible rfl | (refine fun h => h ?_; first | assumption | with_reducible rfl) | (simp only [List.length_append, List.length_cons, List.length_nil, List.length_set] <;> omega) | decide, ?_⟩) | ((first | refine WPA.ifBt ?_ ?_ | refine WPA.ifBnf ?_ ?_); assumption) | ((first | refine WPA.ifBnt ?_ ?_ | refine WPA.ifBf ?_ ?_); assumption) | ((first | refine WPA.ifs ?_ ?_ | refine WPA.ifB ?_ ?_) <;> intro hc))
        exact QQ.loopS ⟨i + 1, cur, cs2⟩ ⟨rfl, rfl, rfl, rfl, rfl, rfl, rfl, rfl, rfl, rfl, rfl, trivial⟩ ⟨hil, hf.symm⟩ (by dsimp only; omega) (fun w h => h.to)
    · have hil' : ¬ (i : Int) < cs.length := by omega
      rw [List.take_of_length_le (by omega), List.take_of_length_le (by omega)] at hc2
      subst hc2
      repeat' (first | ((first | refine WLA.m rfl rfl ?_ ?_ | refine WLA.st rfl ?_ ?_ | refine WLA.x rfl rfl ?_ (fun x => ?_) | refine WLA.x0 rfl ?_ (fun x => ?_)); first | exact trivial | exact rfl | assumption | omega | (refine ⟨?_, ?_⟩ <;> omega) | (simp only [Room, List.length_set, List.length_append, List.length_cons, List.length_nil, List.length_replicate]; omega) | decide | skip) | (refine Stp.go ?_) | (refine WPA.ifT ?_) | (refine WPA.ifF ?_) | ((first | refine WPA.dec ?_); first | refine .inl ⟨by first | assumption | omega | with_reducible rfl | (refine fun h => h ?_; first | assumption | with_reducible rfl) | (simp only [List.length_append, List.length_cons, List.length_nil, List.length_set] <;> omega) | decide, ?_⟩ | refine .inr ⟨by first | assumption | omega | with_reducible rfl | (refine fun h => h ?_; first | assumption | with_reducible rfl) | (simp only [List.length_append, List.length_cons, List.length_nil, List.length_set] <;> omega) | decide, ?_⟩) | ((first | refine WPA.ifBt ?_ ?_ | refine WPA.ifBnf ?_ ?_); assumption) | ((first | refine WPA.ifBnt ?_ ?_ | refine WPA.ifBf ?_ ?_); assumption) | ((first | refine WPA.ifs ?_ ?_ | refine WPA.ifB ?_ ?_) <;> intro hc))
      refine QQ.ent (EntC.out (L' := OwnS 54 cur (flt cs bs) :: OwnS 36 cg (us.set (k : Int).toNat cur) :: Bk t8 25 [.int .i64 fr, .slice cw.a cw.n cw.cap, .slice cg.a cg.n cg.cap] :: Bk t4 25 [.int .i64 0, .slice none 0 0, .slice none 0 0] :: L)) ?_
      refine QQ.freeze fun R hR => ?_
      refine QQ.loopS ⟨k + 1, us.set (k : Int).toNat cur, R ++ J2⟩ ⟨rfl, rfl, rfl, rfl, rfl, rfl, trivial⟩ ⟨⟨hkl, by dsimp only; rw [List.length_set]; exact hul⟩, inferInstance, fun j hj => ?_⟩ (by dsimp only; omega) (fun w h => h.to)
      dsimp only
      rw [show (k : Int).toNat = k from rfl]
      by_cases hjk : j = k
      · subst hjk
        rw [at_set (by omega), if_pos (by omega), getD_some hbe, ← p3]
        have e : flt (enV (rd Int J2) cs) bs = enV (rd Int J2) (flt cs bs) := flt_map.symm
        rw [e]
        have := SlI.ofOwn hR
        exact LstE.of (J := R ++ J2) SlI.left fun p hp => (p2 p (flt_sub.subset hp)).sub
      · rw [at_nat _ j (by rw [List.length_set]; omega), List.getElem_set_ne (by omega), ← at_nat us j (by omega)]
        have := (hls j hj).sub (J' := R ++ J2) inferInstance
        by_cases hjl : j < k
        · rw [if_pos hjl] at this; rwa [if_pos (by omega)]
        · rw [if_neg hjl] at this; rwa [if_neg (by omega)]
  · have hkl' : ¬ (k : Int) < vs.length := by omega
    have hkn : k = n := by omega
    subst hkn
    repeat' (first | ((first | refine WLA.m rfl rfl ?_ ?_ | refine WLA.st rfl ?_ ?_ | refine WLA.x rfl rfl ?_ (fun x => ?_) | refine WLA.x0 rfl ?_ (fun x => ?_)); first | exact trivial | exact rfl | assumption | omega | (refine ⟨?_, ?_⟩ <;> omega) | (simp only [Room, List.length_set, List.length_append, List.length_cons, List.length_nil, List.length_replicate]; omega) | decide | skip) | (refine Stp.go ?_) | (refine WPA.ifT ?_) | (refine WPA.ifF ?_) | ((first | refine WPA.dec ?_); first | refine .inl ⟨by first | assumption | omega | with_reducible rfl | (refine fun h => h ?_; first | assumption | with_reducible rfl) | (simp only [List.length_append, List.length_cons, List.length_nil, List.length_set] <;> omega) | decide, ?_⟩ | refine .inr ⟨by first | assumption | omega | with_reducible rfl | (refine fun h => h ?_; first | assumption | with_reducible rfl) | (simp only [List.length_append, List.length_cons, List.length_nil, List.length_set] <;> omega) | decide, ?_⟩) | ((first | refine WPA.ifBt ?_ ?_ | refine WPA.ifBnf ?_ ?_); assumption) | ((first | refine WPA.ifBnt ?_ ?_ | refine WPA.ifBf ?_ ?_); assumption) | ((first | refine WPA.ifs ?_ ?_ | refine WPA.ifB ?_ ?_) <;> intro hc))
    refine QQ.ent (EntC.out (L' := OwnS 36 cg us :: Bk t4 25 [.int .i64 fr, .slice cw.a cw.n cw.cap, .slice cg.a cg.n cg.cap] :: L)) ?_
    refine QQ.freeze fun R hR => ?_
    refine QQ.endc rfl (cw, cg, R ++ J2) rfl fun w h => ⟨⟨⟨fun z hz => List.mem_append_right _ (hs2.out (hs.out hz))⟩, ?_⟩, h.to⟩
    have h4 := SlI.ofOwn hR
    have hBl : (fltM A bss).length = k := by unfold fltM; rw [List.length_zipWith]; omega
    refine ⟨SlI.right (h := hsw.sub), us, SlI.left, by omega, fun j hj => ?_⟩
    have := (hls j (by omega)).sub (J' := R ++ J2) inferInstance
    rwa [if_pos (by omega)] at this
end
end Go.Proofs.Ytcomkdndddkbeaa
