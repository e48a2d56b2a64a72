/- Texts that TallyStats_law leans on, part 20. Conditions: none. -/
import Derived.Test.YtamnobjdgjbmbaaGreatQs19
namespace Go.Proofs.YtamnobjdgjbmbaaGreat
open Go Go.Fw Go.RowKit
set_option linter.unusedVariables false
set_option linter.unusedSimpArgs false
set_option maxRecDepth 100000
set_option maxHeartbeats 16000000
set_option synthInstance.maxHeartbeats 200000
set_option synthInstance.maxSize 100000
attribute [local irreducible] WPA WLA WDA WDQ WDE QQ seqQ blockQ loopQ fnQ OpP OpT Tr TrP SL SLd OwnS LitS Bk BkE Ob
attribute [local irreducible] vS keyS parL RowH CtsH mrg grp RunsH CntH cntC cntR eachL
theorem each_good {o : Int} {gs : List (List Int)} (ho : 0 ≤ o) (hk : ∀ g ∈ gs, okKey g) : GoodG o (eachL gs o) := fun g hg => by
  unfold eachL at hg
  obtain ⟨p, hp, hg⟩ := List.mem_flatMap.1 hg
  unfold gramsL at hg
  obtain ⟨i, hi, rfl⟩ := List.mem_map.1 hg
  refine ⟨?_, fun x hx => ?_⟩
  · have := gramA_len (p := p) (n := o) (i := i) (by simpa using hi)
    omega
  · unfold gramA cutL at hx
    split at hx
    · exact hk p hp x (List.mem_of_mem_drop (List.mem_of_mem_take hx))
    · cases hx
section
variable {L L' L1 L2 : List HP} {w0 : World} {I : Foot}
theorem TallyStats_tr {s : SV} {hs : List SV} {gs : List (List Int)} {o b z f : Int} [hsl : SlI I s SV inferInstance hs] (hg : GsI I hs gs) :
    Tr Tryz.prog 6 #[.slice s.a s.n s.cap, .int .i64 o, .agg #[.int .i64 b, .int .i64 z, .int .i64 f]] (SL w0 I []) (fun _ : Unit => .bool true) (fun _ => SL w0 I []) := by
  refine Tr.intro Tryz.func6 rfl Tryz.ntmps6 rfl ?_
  have hbt : (!true) = false := rfl
  have hbf : (!false) = true := rfl
  have hsm0 := fun {L : List HP} => Small22_tr (w0 := w0) (I := I) (L := L) (s := s) hg
  by_cases hsm : Sm22 gs
  case neg =>
    rw [decide_eq_false hsm] at hsm0
    repeat' (first | ((rw [hbf])) | ((first | refine WLA.m rfl rfl ?_ ?_ | refine WLA.st rfl ?_ ?_ | refine WLA.x rfl rfl ?_ (fun x => ?_) | refine WLA.x0 rfl ?_ (fun x => ?_)); first | exact trivial | exact rfl | assumption | omega | (refine ⟨?_, ?_⟩ <;> omega) | (simp only [Room, lenS]; omega) | decide | skip) | (refine Stp.go ?_) | (guard_target =~ WLA _ _ _ _ _ (⟨_, .call ⟨.value (.func 23), _, _⟩, _, _, _, _⟩ :: _) _ _; refine WLA.cq rfl rfl (hsm0) ?_) | (guard_target =~ WLA _ _ _ _ _ (⟨_, .call ⟨.value (.func 24), _, _⟩, _, _, _, _⟩ :: _) _ _; refine WLA.call rfl rfl (live_tr22 _ _ _) ?_; rintro ⟨⟩) | (refine WPA.ifT ?_) | (refine WPA.ifF ?_) | (refine WLA.no rfl rfl ?_) | ((first | refine WPA.dec ?_ | ((fail_if_success (guard_target =~ WLA _ _ _ _ _ _ (put1 _ _ (.bool true)) _)); (fail_if_success (guard_target =~ WLA _ _ _ _ _ _ (put1 _ _ (.bool false)) _)); refine WLA.dec rfl rfl ?_) | refine WLA.pk ?_); first | refine .inl ⟨by first | assumption | omega | with_reducible rfl | (refine fun h => h ?_; first | assumption | with_reducible rfl) | (simp only [lenS] <;> omega) | decide, ?_⟩ | refine .inr ⟨by first | assumption | omega | with_reducible rfl | (refine fun h => h ?_; first | assumption | with_reducible rfl) | (simp only [lenS] <;> omega) | decide, ?_⟩) | ((first | refine WPA.ifBt ?_ ?_ | refine WPA.ifBnf ?_ ?_); assumption) | ((first | refine WPA.ifBnt ?_ ?_ | refine WPA.ifBf ?_ ?_); assumption) | ((first | refine WPA.ifs ?_ ?_ | refine WPA.ifB ?_ ?_) <;> intro hc) | ((fail_if_success (guard_target =~ WLA _ _ _ _ _ _ (put1 _ _ (.bool true)) _)); (fail_if_success (guard_target =~ WLA _ _ _ _ _ _ (put1 _ _ (.bool false)) _)); (first | refine WLA.both rfl rfl ?_ ?_ | refine WLA.bothB rfl rfl ?_ ?_) <;> intro hg))
    exact QQ.end_ rfl () rfl fun w h => h.to
  rw [decide_eq_true hsm] at hsm0
  have his := fun {L : List HP} => is_tr (L := L) (w0 := w0) (I := I) (b := b) (z := z) (f := f)
  by_cases hc : CfOk b z f
  case neg =>
    rw [decide_eq_false hc] at his
    repeat' (first | ((rw [hbt])) | ((rw [hbf])) | ((first | refine WLA.m rfl rfl ?_ ?_ | refine WLA.st rfl ?_ ?_ | refine WLA.x rfl rfl ?_ (fun x => ?_) | refine WLA.x0 rfl ?_ (fun x => ?_)); first | exact trivial | exact rfl | assumption | omega | (refine ⟨?_, ?_⟩ <;> omega) | (simp only [Room, lenS]; omega) | decide | skip) | (refine Stp.go ?_) | (guard_target =~ WLA _ _ _ _ _ (⟨_, .call ⟨.value (.func 23), _, _⟩, _, _, _, _⟩ :: _) _ _; refine WLA.cq rfl rfl (hsm0) ?_) | (guard_target =~ WLA _ _ _ _ _ (⟨_, .call ⟨.value (.func 27), _, _⟩, _, _, _, _⟩ :: _) _ _; refine WLA.call rfl rfl (his) ?_; rintro ⟨⟩) | (guard_target =~ WLA _ _ _ _ _ (⟨_, .call ⟨.value (.func 24), _, _⟩, _, _, _, _⟩ :: _) _ _; refine WLA.call rfl rfl (live_tr22 _ _ _) ?_; rintro ⟨⟩) | (refine WPA.ifT ?_) | (refine WPA.ifF ?_) | (refine WLA.no rfl rfl ?_) | ((first | refine WPA.dec ?_ | ((fail_if_success (guard_target =~ WLA _ _ _ _ _ _ (put1 _ _ (.bool true)) _)); (fail_if_success (guard_target =~ WLA _ _ _ _ _ _ (put1 _ _ (.bool false)) _)); refine WLA.dec rfl rfl ?_) | refine WLA.pk ?_); first | refine .inl ⟨by first | assumption | omega | with_reducible rfl | (refine fun h => h ?_; first | assumption | with_reducible rfl) | (simp only [lenS] <;> omega) | decide, ?_⟩ | refine .inr ⟨by first | assumption | omega | with_reducible rfl | (refine fun h => h ?_; first | assumption | with_reducible rfl) | (simp only [lenS] <;> omega) | decide, ?_⟩) | ((first | refine WPA.ifBt ?_ ?_ | refine WPA.ifBnf ?_ ?_); assumption) | ((first | refine WPA.ifBnt ?_ ?_ | refine WPA.ifBf ?_ ?_); assumption) | ((first | refine WPA.ifs ?_ ?_ | refine WPA.ifB ?_ ?_) <;> intro hc) | ((fail_if_success (guard_target =~ WLA _ _ _ _ _ _ (put1 _ _ (.bool true)) _)); (fail_if_success (guard_target =~ WLA _ _ _ _ _ _ (put1 _ _ (.bool false)) _)); (first | refine WLA.both rfl rfl ?_ ?_ | refine WLA.bothB rfl rfl ?_ ?_) <;> intro hg))
    exact QQ.end_ rfl () rfl fun w h => h.to
  rw [decide_eq_true hc] at his
  by_cases o1 : o < 1
  · skip
    repeat' (first | ((rw [hbt])) | ((first | refine WLA.m rfl rfl ?_ ?_ | refine WLA.st rfl ?_ ?_ | refine WLA.x rfl rfl ?_ (fun x => ?_) | refine WLA.x0 rfl ?_ (fun x => ?_)); first | exact trivial | exact rfl | assumption | omega | (refine ⟨?_, ?_⟩ <;> omega) | (simp only [Room, lenS]; omega) | decide | skip) | (refine Stp.go ?_) | (guard_target =~ WLA _ _ _ _ _ (⟨_, .call ⟨.value (.func 23), _, _⟩, _, _, _, _⟩ :: _) _ _; refine WLA.cq rfl rfl (hsm0) ?_) | (guard_target =~ WLA _ _ _ _ _ (⟨_, .call ⟨.value (.func 27), _, _⟩, _, _, _, _⟩ :: _) _ _; refine WLA.call rfl rfl (his) ?_; rintro ⟨⟩) | (guard_target =~ WLA _ _ _ _ _ (⟨_, .call ⟨.value (.func 24), _, _⟩, _, _, _, _⟩ :: _) _ _; refine WLA.call rfl rfl (live_tr22 _ _ _) ?_; rintro ⟨⟩) | (refine WPA.ifT ?_) | (refine WPA.ifF ?_) | (refine WLA.no rfl rfl ?_) | ((first | refine WPA.dec ?_ | ((fail_if_success (guard_target =~ WLA _ _ _ _ _ _ (put1 _ _ (.bool true)) _)); (fail_if_success (guard_target =~ WLA _ _ _ _ _ _ (put1 _ _ (.bool false)) _)); refine WLA.dec rfl rfl ?_) | refine WLA.pk ?_); first | refine .inl ⟨by first | assumption | omega | with_reducible rfl | (refine fun h => h ?_; first | assumption | with_reducible rfl) | (simp only [lenS] <;> omega) | decide, ?_⟩ | refine .inr ⟨by first | assumption | omega | with_reducible rfl | (refine fun h => h ?_; first | assumption | with_reducible rfl) | (simp only [lenS] <;> omega) | decide, ?_⟩) | ((first | refine WPA.ifBt ?_ ?_ | refine WPA.ifBnf ?_ ?_); assumption) | ((first | refine WPA.ifBnt ?_ ?_ | refine WPA.ifBf ?_ ?_); assumption) | ((first | refine WPA.ifs ?_ ?_ | refine WPA.ifB ?_ ?_) <;> intro hc) | ((fail_if_success (guard_target =~ WLA _ _ _ _ _ _ (put1 _ _ (.bool true)) _)); (fail_if_success (guard_target =~ WLA _ _ _ _ _ _ (put1 _ _ (.bool false)) _)); (first | refine WLA.both rfl rfl ?_ ?_ | refine WLA.bothB rfl rfl ?_ ?_) <;> intro hg))
    exact QQ.end_ rfl () rfl fun w h => h.to
  by_cases o2 : 8 < o
  · skip
    repeat' (first | ((rw [hbt])) | ((first | refine WLA.m rfl rfl ?_ ?_ | refine WLA.st rfl ?_ ?_ | refine WLA.x rfl rfl ?_ (fun x => ?_) | refine WLA.x0 rfl ?_ (fun x => ?_)); first | exact trivial | exact rfl | assumption | omega | (refine ⟨?_, ?_⟩ <;> omega) | (simp only [Room, lenS]; omega) | decide | skip) | (refine Stp.go ?_) | (guard_target =~ WLA _ _ _ _ _ (⟨_, .call ⟨.value (.func 23), _, _⟩, _, _, _, _⟩ :: _) _ _; refine WLA.cq rfl rfl (hsm0) ?_) | (guard_target =~ WLA _ _ _ _ _ (⟨_, .call ⟨.value (.func 27), _, _⟩, _, _, _, _⟩ :: _) _ _; refine WLA.call rfl rfl (his) ?_; rintro ⟨⟩) | (guard_target =~ WLA _ _ _ _ _ (⟨_, .call ⟨.value (.func 24), _, _⟩, _, _, _, _⟩ :: _) _ _; refine WLA.call rfl rfl (live_tr22 _ _ _) ?_; rintro ⟨⟩) | (refine WPA.ifT ?_) | (refine WPA.ifF ?_) | (refine WLA.no rfl rfl ?_) | ((first | refine WPA.dec ?_ | ((fail_if_success (guard_target =~ WLA _ _ _ _ _ _ (put1 _ _ (.bool true)) _)); (fail_if_success (guard_target =~ WLA _ _ _ _ _ _ (put1 _ _ (.bool false)) _)); refine WLA.dec rfl rfl ?_) | refine WLA.pk ?_); first | refine .inl ⟨by first | assumption | omega | with_reducible rfl | (refine fun h => h ?_; first | assumption | with_reducible rfl) | (simp only [lenS] <;> omega) | decide, ?_⟩ | refine .inr ⟨by first | assumption | omega | with_reducible rfl | (refine fun h => h ?_; first | assumption | with_reducible rfl) | (simp only [lenS] <;> omega) | decide, ?_⟩) | ((first | refine WPA.ifBt ?_ ?_ | refine WPA.ifBnf ?_ ?_); assumption) | ((first | refine WPA.ifBnt ?_ ?_ | refine WPA.ifBf ?_ ?_); assumption) | ((first | refine WPA.ifs ?_ ?_ | refine WPA.ifB ?_ ?_) <;> intro hc) | ((fail_if_success (guard_target =~ WLA _ _ _ _ _ _ (put1 _ _ (.bool true)) _)); (fail_if_success (guard_target =~ WLA _ _ _ _ _ _ (put1 _ _ (.bool false)) _)); (first | refine WLA.both rfl rfl ?_ ?_ | refine WLA.bothB rfl rfl ?_ ?_) <;> intro hg))
    exact QQ.end_ rfl () rfl fun w h => h.to
  have ho : 1 ≤ o ∧ o ≤ 8 := by omega
  have hll := hg.1
  have hl12 := hsm.1
  have h100 := hsm.2.2
  have hl40 := hsm.2.1
  have hl1 : ∀ g ∈ gs, g.length ≤ 1000 := fun g hg' => by have := hl40 g hg'; omega
  have hc2 := hc
  unfold CfOk at hc2
  obtain ⟨B, rfl⟩ : ∃ B : Nat, b = (B : Int) := ⟨b.toNat, by omega⟩
  obtain ⟨F, rfl⟩ : ∃ F : Nat, f = (F : Int) := ⟨f.toNat, by omega⟩
  repeat' (first | ((rw [hbt])) | ((first | refine WLA.m rfl rfl ?_ ?_ | refine WLA.st rfl ?_ ?_ | refine WLA.x rfl rfl ?_ (fun x => ?_) | refine WLA.x0 rfl ?_ (fun x => ?_)); first | exact trivial | exact rfl | assumption | omega | (refine ⟨?_, ?_⟩ <;> omega) | (simp only [Room, lenS]; omega) | decide | skip) | (refine Stp.go ?_) | (guard_target =~ WLA _ _ _ _ _ (⟨_, .call ⟨.value (.func 23), _, _⟩, _, _, _, _⟩ :: _) _ _; refine WLA.cq rfl rfl (hsm0) ?_) | (guard_target =~ WLA _ _ _ _ _ (⟨_, .call ⟨.value (.func 27), _, _⟩, _, _, _, _⟩ :: _) _ _; refine WLA.call rfl rfl (his) ?_; rintro ⟨⟩) | (refine WPA.ifT ?_) | (refine WPA.ifF ?_) | (refine WLA.no rfl rfl ?_) | ((first | refine WPA.dec ?_ | ((fail_if_success (guard_target =~ WLA _ _ _ _ _ _ (put1 _ _ (.bool true)) _)); (fail_if_success (guard_target =~ WLA _ _ _ _ _ _ (put1 _ _ (.bool false)) _)); refine WLA.dec rfl rfl ?_) | refine WLA.pk ?_); first | refine .inl ⟨by first | assumption | omega | with_reducible rfl | (refine fun h => h ?_; first | assumption | with_reducible rfl) | (simp only [lenS] <;> omega) | decide, ?_⟩ | refine .inr ⟨by first | assumption | omega | with_reducible rfl | (refine fun h => h ?_; first | assumption | with_reducible rfl) | (simp only [lenS] <;> omega) | decide, ?_⟩) | ((first | refine WPA.ifBt ?_ ?_ | refine WPA.ifBnf ?_ ?_); assumption) | ((first | refine WPA.ifBnt ?_ ?_ | refine WPA.ifBf ?_ ?_); assumption) | ((first | refine WPA.ifs ?_ ?_ | refine WPA.ifB ?_ ?_) <;> intro hc) | ((fail_if_success (guard_target =~ WLA _ _ _ _ _ _ (put1 _ _ (.bool true)) _)); (fail_if_success (guard_target =~ WLA _ _ _ _ _ _ (put1 _ _ (.bool false)) _)); (first | refine WLA.both rfl rfl ?_ ?_ | refine WLA.bothB rfl rfl ?_ ?_) <;> intro hg))
  revert x; intro X5
  refine WPA.loopS (σ := Nat) (fun i => [(0, .slice s.a s.n s.cap), (1, .int .i64 o), (5, .pointer (some ⟨X5, 0, none⟩)), (7, .int .i64 i)]) (fun i => i ≤ gs.length ∧ ∀ g ∈ gs.take i, okKey g)
    (fun _ => SL w0 I [Bk X5 63 [.int .i64 B, .int .i64 z, .int .i64 F]]) (fun i => gs.length - i) 0 ⟨rfl, rfl, rfl, rfl, trivial⟩ ⟨Nat.zero_le _, by simp⟩ (fun w h => h.to) ?_
  rintro i ρ ⟨hi, hj⟩
  by_cases hlt : i < gs.length
  · have hlt' : (i : Int) < hs.length := by omega
    have hir : (0 : Int) ≤ i ∧ (i : Int) < hs.length := by omega
    have hgi := hg.2 i (by omega)
    have htk := take_snoc hlt
    have hmg : gs.getD i [] ∈ gs := by rw [List.getD_eq_getElem?_getD, List.getElem?_eq_getElem hlt]; exact List.getElem_mem _
    obtain ⟨v, hv⟩ : ∃ v, at_ hs (i : Int) = v := ⟨_, rfl⟩
    rw [hv] at hgi
    generalize gs.getD i [] = g at hgi htk hmg
    have hgl := hl40 g hmg
    repeat' (first | ((first | refine WLA.m rfl rfl ?_ ?_ | refine WLA.st rfl ?_ ?_ | refine WLA.x rfl rfl ?_ (fun x => ?_) | refine WLA.x0 rfl ?_ (fun x => ?_)); first | exact trivial | exact rfl | assumption | omega | (refine ⟨?_, ?_⟩ <;> omega) | (simp only [Room, lenS]; omega) | decide | skip) | (refine Stp.go ?_) | (refine WPA.ifT ?_) | (refine WPA.ifF ?_) | ((first | refine WPA.dec ?_); first | refine .inl ⟨by first | assumption | omega | with_reducible rfl | (refine fun h => h ?_; first | assumption | with_reducible rfl) | (simp only [lenS] <;> omega) | decide, ?_⟩ | refine .inr ⟨by first | assumption | omega | with_reducible rfl | (refine fun h => h ?_; first | assumption | with_reducible rfl) | (simp only [lenS] <;> omega) | decide, ?_⟩) | ((first | refine WPA.ifBt ?_ ?_ | refine WPA.ifBnf ?_ ?_); assumption) | ((first | refine WPA.ifBnt ?_ ?_ | refine WPA.ifBf ?_ ?_); assumption) | ((first | refine WPA.ifs ?_ ?_ | refine WPA.ifB ?_ ?_) <;> intro hc))
    refine WPA.loopS (σ := Nat) (fun k => [(0, .slice s.a s.n s.cap), (1, .int .i64 o), (5, .pointer (some ⟨X5, 0, none⟩)), (7, .int .i64 i), (8, .int .i64 k)]) (fun k => k ≤ g.length ∧ okKey (g.take k))
      (fun _ => SL w0 I [Bk X5 63 [.int .i64 B, .int .i64 z, .int .i64 F]]) (fun k => g.length - k) 0 ⟨rfl, rfl, rfl, rfl, rfl, trivial⟩ ⟨Nat.zero_le _, fun v hv => by simp at hv⟩ (fun w h => h) ?_
    rintro k ρ ⟨hk, hkk⟩
    by_cases hkl : k < g.length
    · have hkl' : (k : Int) < g.length := by omega
      have hkr : (0 : Int) ≤ k ∧ (k : Int) < g.length := by omega
      have htk2 : g.take (k + 1) = g.take k ++ [at_ g (k : Int)] := by rw [List.take_add_one, List.getElem?_eq_getElem hkl, at_nat g k hkl]; rfl
      by_cases n1 : at_ g (k : Int) < 0
      · skip
        repeat' (first | ((rw [hv])) | ((first | refine WLA.m rfl rfl ?_ ?_ | refine WLA.st rfl ?_ ?_ | refine WLA.x rfl rfl ?_ (fun x => ?_) | refine WLA.x0 rfl ?_ (fun x => ?_)); first | exact trivial | exact rfl | assumption | omega | (refine ⟨?_, ?_⟩ <;> omega) | (simp only [Room, lenS]; omega) | decide | skip) | (refine Stp.go ?_) | (guard_target =~ WLA _ _ _ _ _ (⟨_, .call ⟨.value (.func 24), _, _⟩, _, _, _, _⟩ :: _) _ _; refine WLA.call rfl rfl (live_tr22 _ _ _) ?_; rintro ⟨⟩) | (refine WPA.ifT ?_) | (refine WPA.ifF ?_) | (refine WLA.no rfl rfl ?_) | ((first | refine WPA.dec ?_ | ((fail_if_success (guard_target =~ WLA _ _ _ _ _ _ (put1 _ _ (.bool true)) _)); (fail_if_success (guard_target =~ WLA _ _ _ _ _ _ (put1 _ _ (.bool false)) _)); refine WLA.dec rfl rfl ?_) | refine WLA.pk ?_); first | refine .inl ⟨by first | assumption | omega | with_reducible rfl | (refine fun h => h ?_; first | assumption | with_reducible rfl) | (simp only [lenS] <;> omega) | decide, ?_⟩ | refine .inr ⟨by first | assumption | omega | with_reducible rfl | (refine fun h => h ?_; first | assumption | with_reducible rfl) | (simp only [lenS] <;> omega) | decide, ?_⟩) | ((first | refine WPA.ifBt ?_ ?_ | refine WPA.ifBnf ?_ ?_); assumption) | ((first | refine WPA.ifBnt ?_ ?_ | refine WPA.ifBf ?_ ?_); assumption) | ((first | refine WPA.ifs ?_ ?_ | refine WPA.ifB ?_ ?_) <;> intro hc) | ((fail_if_success (guard_target =~ WLA _ _ _ _ _ _ (put1 _ _ (.bool true)) _)); (fail_if_success (guard_target =~ WLA _ _ _ _ _ _ (put1 _ _ (.bool false)) _)); (first | refine WLA.both rfl rfl ?_ ?_ | refine WLA.bothB rfl rfl ?_ ?_) <;> intro hg))
        exact QQ.end_ rfl () rfl fun w h => h.to
      by_cases n2 : 99 < at_ g (k : Int)
      · skip
        repeat' (first | ((rw [hv])) | ((first | refine WLA.m rfl rfl ?_ ?_ | refine WLA.st rfl ?_ ?_ | refine WLA.x rfl rfl ?_ (fun x => ?_) | refine WLA.x0 rfl ?_ (fun x => ?_)); first | exact trivial | exact rfl | assumption | omega | (refine ⟨?_, ?_⟩ <;> omega) | (simp only [Room, lenS]; omega) | decide | skip) | (refine Stp.go ?_) | (guard_target =~ WLA _ _ _ _ _ (⟨_, .call ⟨.value (.func 24), _, _⟩, _, _, _, _⟩ :: _) _ _; refine WLA.call rfl rfl (live_tr22 _ _ _) ?_; rintro ⟨⟩) | (refine WPA.ifT ?_) | (refine WPA.ifF ?_) | (refine WLA.no rfl rfl ?_) | ((first | refine WPA.dec ?_ | ((fail_if_success (guard_target =~ WLA _ _ _ _ _ _ (put1 _ _ (.bool true)) _)); (fail_if_success (guard_target =~ WLA _ _ _ _ _ _ (put1 _ _ (.bool false)) _)); refine WLA.dec rfl rfl ?_) | refine WLA.pk ?_); first | refine .inl ⟨by first | assumption | omega | with_reducible rfl | (refine fun h => h ?_; first | assumption | with_reducible rfl) | (simp only [lenS] <;> omega) | decide, ?_⟩ | refine .inr ⟨by first | assumption | omega | with_reducible rfl | (refine fun h => h ?_; first | assumption | with_reducible rfl) | (simp only [lenS] <;> omega) | decide, ?_⟩) | ((first | refine WPA.ifBt ?_ ?_ | refine WPA.ifBnf ?_ ?_); assumption) | ((first | refine WPA.ifBnt ?_ ?_ | refine WPA.ifBf ?_ ?_); assumption) | ((first | refine WPA.ifs ?_ ?_ | refine WPA.ifB ?_ ?_) <;> intro hc) | ((fail_if_success (guard_target =~ WLA _ _ _ _ _ _ (put1 _ _ (.bool true)) _)); (fail_if_success (guard_target =~ WLA _ _ _ _ _ _ (put1 _ _ (.bool false)) _)); (first | refine WLA.both rfl rfl ?_ ?_ | refine WLA.bothB rfl rfl ?_ ?_) <;> intro hg))
        exact QQ.end_ rfl () rfl fun w h => h.to
      repeat' (first | ((rw [hv])) | ((first | refine WLA.m rfl rfl ?_ ?_ | refine WLA.st rfl ?_ ?_ | refine WLA.x rfl rfl ?_ (fun x => ?_) | refine WLA.x0 rfl ?_ (fun x => ?_)); first | exact trivial | exact rfl | assumption | omega | (refine ⟨?_, ?_⟩ <;> omega) | (simp only [Room, lenS]; omega) | decide | skip) | (refine Stp.go ?_) | (refine WPA.ifT ?_) | (refine WPA.ifF ?_) | (refine WLA.no rfl rfl ?_) | ((first | refine WPA.dec ?_ | ((fail_if_success (guard_target =~ WLA _ _ _ _ _ _ (put1 _ _ (.bool true)) _)); (fail_if_success (guard_target =~ WLA _ _ _ _ _ _ (put1 _ _ (.bool false)) _)); refine WLA.dec rfl rfl ?_) | refine WLA.pk ?_); first | refine .inl ⟨by first | assumption | omega | with_reducible rfl | (refine fun h => h ?_; first | assumption | with_reducible rfl) | (simp only [lenS] <;> omega) | decide, ?_⟩ | refine .inr ⟨by first | assumption | omega | with_reducible rfl | (refine fun h => h ?_; first | assumption | with_reducible rfl) | (simp only [lenS] <;> omega) | decide, ?_⟩) | ((first | refine WPA.ifBt ?_ ?_ | refine WPA.ifBnf ?_ ?_); assumption) | ((first | refine WPA.ifBnt ?_ ?_ | refine WPA.ifBf ?_ ?_); assumption) | ((first | refine WPA.ifs ?_ ?_ | refine WPA.ifB ?_ ?_) <;> intro hc) | ((fail_if_success (guard_target =~ WLA _ _ _ _ _ _ (put1 _ _ (.bool true)) _)); (fail_if_success (guard_target =~ WLA _ _ _ _ _ _ (put1 _ _ (.bool false)) _)); (first | refine WLA.both rfl rfl ?_ ?_ | refine WLA.bothB rfl rfl ?_ ?_) <;> intro hg))
      refine QQ.loopS (k + 1) ⟨rfl, rfl, rfl, rfl, rfl, trivial⟩ ⟨hkl, fun x hx => ?_⟩ (by omega) (fun w h => h)
      rw [htk2] at hx
      rcases List.mem_append.1 hx with hx | hx
      · exact hkk x hx
      · rw [List.mem_singleton.1 hx]; unfold In24; omega
    · have hkl' : ¬ (k : Int) < g.length := by omega
      rw [List.take_of_length_le (by omega)] at hkk
      repeat' (first | ((rw [hv])) | ((first | refine WLA.m rfl rfl ?_ ?_ | refine WLA.st rfl ?_ ?_ | refine WLA.x rfl rfl ?_ (fun x => ?_) | refine WLA.x0 rfl ?_ (fun x => ?_)); first | exact trivial | exact rfl | assumption | omega | (refine ⟨?_, ?_⟩ <;> omega) | (simp only [Room, lenS]; omega) | decide | skip) | (refine Stp.go ?_) | (refine WPA.ifT ?_) | (refine WPA.ifF ?_) | ((first | refine WPA.dec ?_); first | refine .inl ⟨by first | assumption | omega | with_reducible rfl | (refine fun h => h ?_; first | assumption | with_reducible rfl) | (simp only [lenS] <;> omega) | decide, ?_⟩ | refine .inr ⟨by first | assumption | omega | with_reducible rfl | (refine fun h => h ?_; first | assumption | with_reducible rfl) | (simp only [lenS] <;> omega) | decide, ?_⟩) | ((first | refine WPA.ifBt ?_ ?_ | refine WPA.ifBnf ?_ ?_); assumption) | ((first | refine WPA.ifBnt ?_ ?_ | refine WPA.ifBf ?_ ?_); assumption) | ((first | refine WPA.ifs ?_ ?_ | refine WPA.ifB ?_ ?_) <;> intro hc))
      refine QQ.loopS (i + 1) ⟨rfl, rfl, rfl, rfl, trivial⟩ ⟨hlt, fun x hx => ?_⟩ (by omega) (fun w h => h)
      rw [htk] at hx
      rcases List.mem_append.1 hx with hx | hx
      · exact hj x hx
      · rw [List.mem_singleton.1 hx]; exact hkk
  · have hlt' : ¬ (i : Int) < hs.length := by omega
    rw [List.take_of_length_le (by omega)] at hj
    have hsum := each_sum (o := o) gs
    have hGG : GoodG o (eachL gs o) := each_good (by omega) hj
    have hct := fun {L : List HP} => Count_good (w0 := w0) (I := I) (L := L) (s := s) (f := F) hg hc ho (by omega) hl1 (by omega) hGG
    have hst := fun {L : List HP} => rStat_tr (w0 := w0) (I := I) (L := L) (s := s) (f := F) hg hc ho (by omega) hl1 (by omega) hGG
    have hcl := cntC_len (o := o) (z := z) (B := B) ho (by omega) (by omega) hGG (by omega)
    have hB1 : (0 : Int) < B := by omega
    have hal : (eachL gs o).length ≤ 300 := by omega
    generalize ((cntR o z B F (eachL gs o)).2.2.1 : Int) = n2 at hct hst
    generalize (cntR o z B F (eachL gs o)).1.peak = n3 at hct hst
    generalize ((cntC o z B (eachL gs o)).2.length : Int) = n1 at hct hst hcl
    generalize eachL gs o = all at hct hst hcl hal
    generalize mrg (all.map one) = M at hct
    have hid : decide ((all.length : Int) = all.length ∧ n1 = n1 ∧ n2 = n2 ∧ n3 = n3) = true := decide_eq_true ⟨rfl, rfl, rfl, rfl⟩
    have hid2 : decide (n1 = n1) = true := decide_eq_true rfl
    have h00 : decide ((0 : Int) = 0) = true := rfl
    have hrange : (0 ≤ (all.length : Int) + B - 1 ∧ (all.length : Int) + B - 1 ≤ 9223372036854775807) := by omega
    repeat' (first | ((rw [h00])) | ((rw [hid])) | ((rw [← hcl])) | ((rw [hid2])) | ((first | refine WLA.m rfl rfl ?_ ?_ | refine WDQ.m rfl rfl ?_ ?_ | refine WLA.st rfl ?_ ?_ | refine WLA.x rfl rfl ?_ (fun x => ?_) | refine WLA.x0 rfl ?_ (fun x => ?_)); first | exact trivial | exact rfl | assumption | omega | (refine ⟨?_, ?_⟩ <;> omega) | (simp only [Room, lenS]; omega) | decide | skip) | (refine Stp.go ?_) | (guard_target =~ WLA _ _ _ _ _ (⟨_, .call ⟨.value (.func 25), _, _⟩, _, _, _, _⟩ :: _) _ _; refine WLA.call rfl rfl (hct) ?_; rintro y) | (guard_target =~ WLA _ _ _ _ _ (⟨_, .call ⟨.value (.func 31), _, _⟩, _, _, _, _⟩ :: _) _ _; refine WLA.call rfl rfl (hst) ?_; rintro ⟨⟩) | (guard_target =~ WLA _ _ _ _ _ (⟨_, .call ⟨.value (.func 24), _, _⟩, _, _, _, _⟩ :: _) _ _; refine WLA.call rfl rfl (live_tr22 _ _ _) ?_; rintro ⟨⟩) | (refine WPA.ifT ?_) | (refine WPA.ifF ?_) | (refine WLA.no rfl rfl ?_) | (refine WDQ.no rfl rfl ?_) | ((first | refine WPA.dec ?_ | ((fail_if_success (guard_target =~ WLA _ _ _ _ _ _ (put1 _ _ (.bool true)) _)); (fail_if_success (guard_target =~ WLA _ _ _ _ _ _ (put1 _ _ (.bool false)) _)); refine WLA.dec rfl rfl ?_) | refine WLA.pk ?_ | refine WDQ.dec rfl rfl ?_); first | refine .inl ⟨by first | assumption | omega | with_reducible rfl | (refine fun h => h ?_; first | assumption | with_reducible rfl) | (simp only [lenS] <;> omega) | decide, ?_⟩ | refine .inr ⟨by first | assumption | omega | with_reducible rfl | (refine fun h => h ?_; first | assumption | with_reducible rfl) | (simp only [lenS] <;> omega) | decide, ?_⟩) | ((first | refine WPA.ifBt ?_ ?_ | refine WPA.ifBnf ?_ ?_); assumption) | ((first | refine WPA.ifBnt ?_ ?_ | refine WPA.ifBf ?_ ?_); assumption) | ((first | refine WPA.ifs ?_ ?_ | refine WPA.ifB ?_ ?_) <;> intro hc) | ((fail_if_success (guard_target =~ WLA _ _ _ _ _ _ (put1 _ _ (.bool true)) _)); (fail_if_success (guard_target =~ WLA _ _ _ _ _ _ (put1 _ _ (.bool false)) _)); (first | refine WLA.both rfl rfl ?_ ?_ | refine WLA.bothB rfl rfl ?_ ?_) <;> intro hg) | (guard_target =~ WPA _ _ _ (.region 13 _ true) _ _ _; refine WPA.drawT 27 (.q 0 (.q 1 (.q 2 (.q 3 (.q 4 (.q 5 (.q 6 (.q 7 (.q 8 (.q 9 (.q 10 (.q 11 (.q 12 (.q 13 (.q 14 (.q 15 (.q 16 (.q 17 (.q 18 (.q 19 (.q 20 (.q 21 (.q 22 (.q 23 (.q 24 (.q 25 (.q 26 .fin))))))))))))))))))))))))))) mixed ?_ ?_; kernel_rfl) | (refine WDA.finish (tl := [⟨_, _, _, _, _, _⟩, ⟨_, _, _, _, _, _⟩, ⟨_, _, _, _, _, _⟩, ⟨_, _, _, _, _, _⟩, ⟨_, _, _, _, _, _⟩, ⟨_, _, _, _, _, _⟩]) rfl ?_) | (refine WDQ.see rfl ?_) | (guard_target =~ WDE _ _ _ _ _ _ _ ⟨_, .call ⟨.value (.func 25), _, _⟩, _, _, _, _⟩ _ _ _; refine WDE.call rfl rfl (hct) ?_ ?_; (intro x w h; first | exact h | exact Ent.drop1.sl h | exact SL.unI h | exact SL.to h); rintro y) | (guard_target =~ WDW _ _ _ _ _ _ _ ⟨_, .call ⟨.value (.func 25), _, _⟩, _, _, _, _⟩ _ _ _; refine WDW.call rfl rfl (hct) ?_; rintro y) | (guard_target =~ WDE _ _ _ _ _ _ _ ⟨_, .call ⟨.value (.func 31), _, _⟩, _, _, _, _⟩ _ _ _; refine WDE.call rfl rfl (hst) ?_ ?_; (intro x w h; first | exact h | exact Ent.drop1.sl h | exact SL.unI h | exact SL.to h); rintro ⟨⟩) | (guard_target =~ WDW _ _ _ _ _ _ _ ⟨_, .call ⟨.value (.func 31), _, _⟩, _, _, _, _⟩ _ _ _; refine WDW.call rfl rfl (hst) ?_; rintro ⟨⟩) | (guard_target =~ WDE _ _ _ _ _ _ _ ⟨_, .call ⟨.value (.func 24), _, _⟩, _, _, _, _⟩ _ _ _; refine WDE.call rfl rfl (live_tr22 _ _ _) ?_ ?_; (intro x w h; first | exact h | exact Ent.drop1.sl h | exact SL.unI h | exact SL.to h); rintro ⟨⟩) | (guard_target =~ WDW _ _ _ _ _ _ _ ⟨_, .call ⟨.value (.func 24), _, _⟩, _, _, _, _⟩ _ _ _; refine WDW.call rfl rfl (live_tr22 _ _ _) ?_; rintro ⟨⟩) | ((first | refine WDQ.both rfl rfl ?_ ?_) <;> intro hg))
    all_goals exact QQ.end_ rfl () rfl fun w h => h.to
theorem TallyStats_law (W : World) (s : SV) (h1 : gSl (gSl gInt 8) 24 W s) (o : Int) (h2 : gInt W o) (x : Int × Int × Int) (h3 : gInt W x.1 ∧ gInt W x.2.1 ∧ gInt W x.2.2) : Calls Tryz.prog 6 #[.slice s.a s.n s.cap, .int .i64 o, .agg #[.int .i64 x.1, .int .i64 x.2.1, .int .i64 x.2.2]] W fun e w' => e = .returned (.bool true) ∧ Below W.heap.size W w' := by
  obtain ⟨hs, h1, h2', _⟩ := h1
  haveI := SlI.all h1
  refine Calls.below (TallyStats_tr (gs := hs.map (Go.Fw.rd Int (allB W))) ⟨by simp, fun i hi => ?_⟩)
  have hm : hs[i] ∈ hs := List.getElem_mem hi
  obtain ⟨xs, m1, m2, m3⟩ := h2' _ hm
  have hr := (SlI.all m1).rd
  have e : (hs.map (Go.Fw.rd Int (allB W))).getD i [] = Go.Fw.rd Int (allB W) hs[i] := by simp [hi]
  rw [e, at_nat hs i hi]
  exact hr
end
end Go.Proofs.YtamnobjdgjbmbaaGreat
