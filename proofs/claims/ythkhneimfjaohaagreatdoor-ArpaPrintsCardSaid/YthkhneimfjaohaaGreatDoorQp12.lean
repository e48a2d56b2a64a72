/- Texts that ArpaPrints_law leans on, part 12. Conditions: none. -/
import Derived.Lib.Bytealg
import Derived.Test.YthkhneimfjaohaaGreatDoorQp11
namespace Go.Proofs.YthkhneimfjaohaaGreatDoor
open Go Go.Fw Go.RowKit
set_option linter.unusedVariables false
set_option linter.unusedSimpArgs false
set_option maxRecDepth 100000
set_option maxHeartbeats 16000000
set_option synthInstance.maxHeartbeats 200000
set_option synthInstance.maxSize 100000
attribute [local irreducible] WPA WLA WDA WDQ WDE QQ seqQ blockQ loopQ fnQ OpP OpT Tr TrP SL SLd OwnS LitS Bk BkE Ob
def enV (kg : SV → List Int) (es : List En) : List ((Int × Int) × List Int) := es.map fun p => (p.2, kg p.1)
section
variable {L : List HP} {w0 : World} {I : Foot}
theorem Entries_tr {a b : SV} {xs ys : List En} {kx ky : SV → List Int} [ha : RdS I L a En inferInstance xs] [hb : RdS I L b En inferInstance ys] (hx : ∀ p ∈ xs, RdS I L p.1 Int inferInstance (kx p.1)) (hy : ∀ p ∈ ys, RdS I L p.1 Int inferInstance (ky p.1))
    (hn : xs.length ≤ 1000000000) (hl : ∀ p ∈ xs, (kx p.1).length ≤ 1000000000) :
    TrP Tryz.prog 31 #[.slice a.a a.n a.cap, .slice b.a b.n b.cap] (SL w0 I L) (.bool (decide (enV kx xs = enV ky ys))) := by
  refine TrP.ofD fun u => Tr.intro Tryz.func31 rfl Tryz.ntmps31 rfl ?_
  by_cases hl2 : xs.length = ys.length
  · have hl' : ¬ (xs.length : Int) ≠ ys.length := by omega
    repeat' (first | ((first | refine WLA.m rfl rfl ?_ ?_ | refine WLA.st rfl ?_ ?_ | refine WLA.x rfl rfl ?_ (fun x => ?_) | refine WLA.x0 rfl ?_ (fun x => ?_)); first | exact trivial | exact rfl | assumption | omega | (refine ⟨?_, ?_⟩ <;> omega) | (simp only [Room, lenS]; omega) | decide | skip) | (refine Stp.go ?_) | (refine WPA.ifT ?_) | (refine WPA.ifF ?_) | ((first | refine WPA.dec ?_); first | refine .inl ⟨by first | assumption | omega | with_reducible rfl | (refine fun h => h ?_; first | assumption | with_reducible rfl) | (simp only [lenS] <;> omega) | decide, ?_⟩ | refine .inr ⟨by first | assumption | omega | with_reducible rfl | (refine fun h => h ?_; first | assumption | with_reducible rfl) | (simp only [lenS] <;> omega) | decide, ?_⟩) | ((first | refine WPA.ifBt ?_ ?_ | refine WPA.ifBnf ?_ ?_); assumption) | ((first | refine WPA.ifBnt ?_ ?_ | refine WPA.ifBf ?_ ?_); assumption) | ((first | refine WPA.ifs ?_ ?_ | refine WPA.ifB ?_ ?_) <;> intro hc))
    refine WPA.loopS (σ := Nat) (fun i => [(0, .slice a.a a.n a.cap), (1, .slice b.a b.n b.cap), (5, .int .i64 i)]) (fun i => i ≤ xs.length ∧ (enV kx xs).take i = (enV ky ys).take i)
      (fun i => SLd w0 I L u) (fun i => xs.length - i) 0 ⟨rfl, rfl, rfl, trivial⟩ ⟨Nat.zero_le _, by simp⟩ (fun w h => h) ?_
    rintro i ρ ⟨hi, he⟩
    by_cases hlt : i < xs.length
    · have hlt' : (i : Int) < xs.length := by omega
      have hlt2 : (i : Int) < ys.length := by omega
      have hm1 : at_ xs (i : Int) ∈ xs := by rw [at_nat xs i hlt]; exact List.getElem_mem _
      have hm2 : at_ ys (i : Int) ∈ ys := by rw [at_nat ys i (by omega)]; exact List.getElem_mem _
      have k1 := hx _ hm1
      have k2 := hy _ hm2
      have hml := hl _ hm1
      have v1 : (enV kx xs)[i]? = some ((at_ xs (i : Int)).2, kx (at_ xs (i : Int)).1) := by simp [enV, at_nat xs i hlt, hlt]
      have v2 : (enV ky ys)[i]? = some ((at_ ys (i : Int)).2, ky (at_ ys (i : Int)).1) := by simp [enV, at_nat ys i (by omega), show i < ys.length by omega]
      have hne : ((at_ xs (i : Int)).2, kx (at_ xs (i : Int)).1) ≠ ((at_ ys (i : Int)).2, ky (at_ ys (i : Int)).1) → enV kx xs ≠ enV ky ys := fun h e => by
        rw [e, v2] at v1
        exact h (by injection v1 with v1; exact v1.symm)
      by_cases hp : (at_ xs (i : Int)).2.1 = (at_ ys (i : Int)).2.1
      · have hp2 : ¬ (at_ xs (i : Int)).2.1 ≠ (at_ ys (i : Int)).2.1 := fun h => h hp
        by_cases hb : (at_ xs (i : Int)).2.2 = (at_ ys (i : Int)).2.2
        · have hb2 : ¬ (at_ xs (i : Int)).2.2 ≠ (at_ ys (i : Int)).2.2 := fun h => h hb
          by_cases hg : kx (at_ xs (i : Int)).1 = ky (at_ ys (i : Int)).1
          · have hg2 : ¬ ¬ kx (at_ xs (i : Int)).1 = ky (at_ ys (i : Int)).1 := fun h => h hg
            repeat' (first | ((first | refine WLA.m rfl rfl ?_ ?_ | refine WDQ.m rfl rfl ?_ ?_ | refine WLA.st rfl ?_ ?_ | refine WLA.x rfl rfl ?_ (fun x => ?_) | refine WLA.x0 rfl ?_ (fun x => ?_)); first | exact trivial | exact rfl | assumption | omega | (refine ⟨?_, ?_⟩ <;> omega) | (simp only [Room, lenS]; omega) | decide | skip) | (refine Stp.go ?_) | (guard_target =~ WLA _ _ _ _ _ (⟨_, .call ⟨.value (.func 49), _, _⟩, _, _, _, _⟩ :: _) _ _; refine WLA.cq rfl rfl (Ints_tr hml) ?_) | (refine WPA.ifT ?_) | (refine WPA.ifF ?_) | (refine WLA.no rfl rfl ?_) | (refine WDQ.no rfl rfl ?_) | ((first | refine WPA.dec ?_ | ((fail_if_success (guard_target =~ WLA _ _ _ _ _ _ (put1 _ _ (.bool true)) _)); (fail_if_success (guard_target =~ WLA _ _ _ _ _ _ (put1 _ _ (.bool false)) _)); refine WLA.dec rfl rfl ?_) | refine WLA.pk ?_ | refine WDQ.dec rfl rfl ?_); first | refine .inl ⟨by first | assumption | omega | with_reducible rfl | (refine fun h => h ?_; first | assumption | with_reducible rfl) | (simp only [lenS] <;> omega) | decide, ?_⟩ | refine .inr ⟨by first | assumption | omega | with_reducible rfl | (refine fun h => h ?_; first | assumption | with_reducible rfl) | (simp only [lenS] <;> omega) | decide, ?_⟩) | ((first | refine WPA.ifBt ?_ ?_ | refine WPA.ifBnf ?_ ?_); assumption) | ((first | refine WPA.ifBnt ?_ ?_ | refine WPA.ifBf ?_ ?_); assumption) | ((first | refine WPA.ifs ?_ ?_ | refine WPA.ifB ?_ ?_) <;> intro hc) | ((fail_if_success (guard_target =~ WLA _ _ _ _ _ _ (put1 _ _ (.bool true)) _)); (fail_if_success (guard_target =~ WLA _ _ _ _ _ _ (put1 _ _ (.bool false)) _)); (first | refine WLA.both rfl rfl ?_ ?_ | refine WLA.bothB rfl rfl ?_ ?_) <;> intro hg) | (guard_target =~ WPA _ _ _ (.region 6 _ true) _ _ _; refine WPA.drawT 35 (.q 0 (.q 1 (.q 2 (.q 3 (.q 4 (.q 5 (.q 6 (.q 7 (.q 8 (.q 9 (.q 10 (.q 11 (.q 12 (.q 13 (.q 14 (.q 15 (.q 16 (.q 17 (.q 18 (.q 19 (.q 20 (.q 21 (.q 22 (.q 23 (.q 24 (.q 25 (.q 26 (.q 27 (.q 28 (.q 29 (.q 30 (.q 31 (.q 32 (.q 33 (.q 34 .fin))))))))))))))))))))))))))))))))))) mixed ?_ ?_; kernel_rfl) | (refine WDA.finish (tl := [⟨_, _, _, _, _, _⟩, ⟨_, _, _, _, _, _⟩, ⟨_, _, _, _, _, _⟩]) rfl ?_) | (refine WDQ.see rfl ?_) | (guard_target =~ WDQ _ _ _ _ _ _ _ ⟨_, .call ⟨.value (.func 49), _, _⟩, _, _, _, _⟩ _ _ _; refine WDQ.cq rfl rfl (Ints_tr hml) ?_) | ((first | refine WDQ.both rfl rfl ?_ ?_) <;> intro hg))
            refine QQ.loopS (i + 1) ⟨rfl, rfl, rfl, trivial⟩ ⟨hlt, ?_⟩ (by omega) (fun w h => h)
            rw [List.take_add_one, List.take_add_one, he, v1, v2, hg, show (at_ xs (i : Int)).2 = (at_ ys (i : Int)).2 from Prod.ext hp hb]
          · have hg2 : ¬ kx (at_ xs (i : Int)).1 = ky (at_ ys (i : Int)).1 := hg
            repeat' (first | ((first | refine WLA.m rfl rfl ?_ ?_ | refine WDQ.m rfl rfl ?_ ?_ | refine WLA.st rfl ?_ ?_ | refine WLA.x rfl rfl ?_ (fun x => ?_) | refine WLA.x0 rfl ?_ (fun x => ?_)); first | exact trivial | exact rfl | assumption | omega | (refine ⟨?_, ?_⟩ <;> omega) | (simp only [Room, lenS]; omega) | decide | skip) | (refine Stp.go ?_) | (guard_target =~ WLA _ _ _ _ _ (⟨_, .call ⟨.value (.func 49), _, _⟩, _, _, _, _⟩ :: _) _ _; refine WLA.cq rfl rfl (Ints_tr hml) ?_) | (refine WPA.ifT ?_) | (refine WPA.ifF ?_) | (refine WLA.no rfl rfl ?_) | (refine WDQ.no rfl rfl ?_) | ((first | refine WPA.dec ?_ | ((fail_if_success (guard_target =~ WLA _ _ _ _ _ _ (put1 _ _ (.bool true)) _)); (fail_if_success (guard_target =~ WLA _ _ _ _ _ _ (put1 _ _ (.bool false)) _)); refine WLA.dec rfl rfl ?_) | refine WLA.pk ?_ | refine WDQ.dec rfl rfl ?_); first | refine .inl ⟨by first | assumption | omega | with_reducible rfl | (refine fun h => h ?_; first | assumption | with_reducible rfl) | (simp only [lenS] <;> omega) | decide, ?_⟩ | refine .inr ⟨by first | assumption | omega | with_reducible rfl | (refine fun h => h ?_; first | assumption | with_reducible rfl) | (simp only [lenS] <;> omega) | decide, ?_⟩) | ((first | refine WPA.ifBt ?_ ?_ | refine WPA.ifBnf ?_ ?_); assumption) | ((first | refine WPA.ifBnt ?_ ?_ | refine WPA.ifBf ?_ ?_); assumption) | ((first | refine WPA.ifs ?_ ?_ | refine WPA.ifB ?_ ?_) <;> intro hc) | ((fail_if_success (guard_target =~ WLA _ _ _ _ _ _ (put1 _ _ (.bool true)) _)); (fail_if_success (guard_target =~ WLA _ _ _ _ _ _ (put1 _ _ (.bool false)) _)); (first | refine WLA.both rfl rfl ?_ ?_ | refine WLA.bothB rfl rfl ?_ ?_) <;> intro hg) | (guard_target =~ WPA _ _ _ (.region 6 _ true) _ _ _; refine WPA.drawT 35 (.q 0 (.q 1 (.q 2 (.q 3 (.q 4 (.q 5 (.q 6 (.q 7 (.q 8 (.q 9 (.q 10 (.q 11 (.q 12 (.q 13 (.q 14 (.q 15 (.q 16 (.q 17 (.q 18 (.q 19 (.q 20 (.q 21 (.q 22 (.q 23 (.q 24 (.q 25 (.q 26 (.q 27 (.q 28 (.q 29 (.q 30 (.q 31 (.q 32 (.q 33 (.q 34 .fin))))))))))))))))))))))))))))))))))) mixed ?_ ?_; kernel_rfl) | (refine WDA.finish (tl := [⟨_, _, _, _, _, _⟩, ⟨_, _, _, _, _, _⟩, ⟨_, _, _, _, _, _⟩]) rfl ?_) | (refine WDQ.see rfl ?_) | (guard_target =~ WDQ _ _ _ _ _ _ _ ⟨_, .call ⟨.value (.func 49), _, _⟩, _, _, _, _⟩ _ _ _; refine WDQ.cq rfl rfl (Ints_tr hml) ?_) | ((first | refine WDQ.both rfl rfl ?_ ?_) <;> intro hg))
            exact QQ.end_ rfl () (congrArg Value.bool (decide_eq_false (hne fun e => hg (by injection e))).symm) fun w h => h
        · have hb2 : (at_ xs (i : Int)).2.2 ≠ (at_ ys (i : Int)).2.2 := hb
          repeat' (first | ((first | refine WLA.m rfl rfl ?_ ?_ | refine WDQ.m rfl rfl ?_ ?_ | refine WLA.st rfl ?_ ?_ | refine WLA.x rfl rfl ?_ (fun x => ?_) | refine WLA.x0 rfl ?_ (fun x => ?_)); first | exact trivial | exact rfl | assumption | omega | (refine ⟨?_, ?_⟩ <;> omega) | (simp only [Room, lenS]; omega) | decide | skip) | (refine Stp.go ?_) | (guard_target =~ WLA _ _ _ _ _ (⟨_, .call ⟨.value (.func 49), _, _⟩, _, _, _, _⟩ :: _) _ _; refine WLA.cq rfl rfl (Ints_tr hml) ?_) | (refine WPA.ifT ?_) | (refine WPA.ifF ?_) | (refine WLA.no rfl rfl ?_) | (refine WDQ.no rfl rfl ?_) | ((first | refine WPA.dec ?_ | ((fail_if_success (guard_target =~ WLA _ _ _ _ _ _ (put1 _ _ (.bool true)) _)); (fail_if_success (guard_target =~ WLA _ _ _ _ _ _ (put1 _ _ (.bool false)) _)); refine WLA.dec rfl rfl ?_) | refine WLA.pk ?_ | refine WDQ.dec rfl rfl ?_); first | refine .inl ⟨by first | assumption | omega | with_reducible rfl | (refine fun h => h ?_; first | assumption | with_reducible rfl) | (simp only [lenS] <;> omega) | decide, ?_⟩ | refine .inr ⟨by first | assumption | omega | with_reducible rfl | (refine fun h => h ?_; first | assumption | with_reducible rfl) | (simp only [lenS] <;> omega) | decide, ?_⟩) | ((first | refine WPA.ifBt ?_ ?_ | refine WPA.ifBnf ?_ ?_); assumption) | ((first | refine WPA.ifBnt ?_ ?_ | refine WPA.ifBf ?_ ?_); assumption) | ((first | refine WPA.ifs ?_ ?_ | refine WPA.ifB ?_ ?_) <;> intro hc) | ((fail_if_success (guard_target =~ WLA _ _ _ _ _ _ (put1 _ _ (.bool true)) _)); (fail_if_success (guard_target =~ WLA _ _ _ _ _ _ (put1 _ _ (.bool false)) _)); (first | refine WLA.both rfl rfl ?_ ?_ | refine WLA.bothB rfl rfl ?_ ?_) <;> intro hg) | (guard_target =~ WPA _ _ _ (.region 6 _ true) _ _ _; refine WPA.drawT 35 (.q 0 (.q 1 (.q 2 (.q 3 (.q 4 (.q 5 (.q 6 (.q 7 (.q 8 (.q 9 (.q 10 (.q 11 (.q 12 (.q 13 (.q 14 (.q 15 (.q 16 (.q 17 (.q 18 (.q 19 (.q 20 (.q 21 (.q 22 (.q 23 (.q 24 (.q 25 (.q 26 (.q 27 (.q 28 (.q 29 (.q 30 (.q 31 (.q 32 (.q 33 (.q 34 .fin))))))))))))))))))))))))))))))))))) mixed ?_ ?_; kernel_rfl) | (refine WDA.finish (tl := [⟨_, _, _, _, _, _⟩, ⟨_, _, _, _, _, _⟩, ⟨_, _, _, _, _, _⟩]) rfl ?_) | (refine WDQ.see rfl ?_) | (guard_target =~ WDQ _ _ _ _ _ _ _ ⟨_, .call ⟨.value (.func 49), _, _⟩, _, _, _, _⟩ _ _ _; refine WDQ.cq rfl rfl (Ints_tr hml) ?_) | ((first | refine WDQ.both rfl rfl ?_ ?_) <;> intro hg))
          exact QQ.end_ rfl () (congrArg Value.bool (decide_eq_false (hne fun e => hb (by injection e with e _; rw [e]))).symm) fun w h => h
      · have hp2 : (at_ xs (i : Int)).2.1 ≠ (at_ ys (i : Int)).2.1 := hp
        repeat' (first | ((first | refine WLA.m rfl rfl ?_ ?_ | refine WDQ.m rfl rfl ?_ ?_ | refine WLA.st rfl ?_ ?_ | refine WLA.x rfl rfl ?_ (fun x => ?_) | refine WLA.x0 rfl ?_ (fun x => ?_)); first | exact trivial | exact rfl | assumption | omega | (refine ⟨?_, ?_⟩ <;> omega) | (simp only [Room, lenS]; omega) | decide | skip) | (refine Stp.go ?_) | (guard_target =~ WLA _ _ _ _ _ (⟨_, .call ⟨.value (.func 49), _, _⟩, _, _, _, _⟩ :: _) _ _; refine WLA.cq rfl rfl (Ints_tr hml) ?_) | (refine WPA.ifT ?_) | (refine WPA.ifF ?_) | (refine WLA.no rfl rfl ?_) | (refine WDQ.no rfl rfl ?_) | ((first | refine WPA.dec ?_ | ((fail_if_success (guard_target =~ WLA _ _ _ _ _ _ (put1 _ _ (.bool true)) _)); (fail_if_success (guard_target =~ WLA _ _ _ _ _ _ (put1 _ _ (.bool false)) _)); refine WLA.dec rfl rfl ?_) | refine WLA.pk ?_ | refine WDQ.dec rfl rfl ?_); first | refine .inl ⟨by first | assumption | omega | with_reducible rfl | (refine fun h => h ?_; first | assumption | with_reducible rfl) | (simp only [lenS] <;> omega) | decide, ?_⟩ | refine .inr ⟨by first | assumption | omega | with_reducible rfl | (refine fun h => h ?_; first | assumption | with_reducible rfl) | (simp only [lenS] <;> omega) | decide, ?_⟩) | ((first | refine WPA.ifBt ?_ ?_ | refine WPA.ifBnf ?_ ?_); assumption) | ((first | refine WPA.ifBnt ?_ ?_ | refine WPA.ifBf ?_ ?_); assumption) | ((first | refine WPA.ifs ?_ ?_ | refine WPA.ifB ?_ ?_) <;> intro hc) | ((fail_if_success (guard_target =~ WLA _ _ _ _ _ _ (put1 _ _ (.bool true)) _)); (fail_if_success (guard_target =~ WLA _ _ _ _ _ _ (put1 _ _ (.bool false)) _)); (first | refine WLA.both rfl rfl ?_ ?_ | refine WLA.bothB rfl rfl ?_ ?_) <;> intro hg) | (guard_target =~ WPA _ _ _ (.region 6 _ true) _ _ _; refine WPA.drawT 35 (.q 0 (.q 1 (.q 2 (.q 3 (.q 4 (.q 5 (.q 6 (.q 7 (.q 8 (.q 9 (.q 10 (.q 11 (.q 12 (.q 13 (.q 14 (.q 15 (.q 16 (.q 17 (.q 18 (.q 19 (.q 20 (.q 21 (.q 22 (.q 23 (.q 24 (.q 25 (.q 26 (.q 27 (.q 28 (.q 29 (.q 30 (.q 31 (.q 32 (.q 33 (.q 34 .fin))))))))))))))))))))))))))))))))))) mixed ?_ ?_; kernel_rfl) | (refine WDA.finish (tl := [⟨_, _, _, _, _, _⟩, ⟨_, _, _, _, _, _⟩, ⟨_, _, _, _, _, _⟩]) rfl ?_) | (refine WDQ.see rfl ?_) | (guard_target =~ WDQ _ _ _ _ _ _ _ ⟨_, .call ⟨.value (.func 49), _, _⟩, _, _, _, _⟩ _ _ _; refine WDQ.cq rfl rfl (Ints_tr hml) ?_) | ((first | refine WDQ.both rfl rfl ?_ ?_) <;> intro hg))
        exact QQ.end_ rfl () (congrArg Value.bool (decide_eq_false (hne fun e => hp (by injection e with e _; rw [e]))).symm) fun w h => h
    · have hlt' : ¬ (i : Int) < xs.length := by omega
      repeat' (first | ((first | refine WLA.m rfl rfl ?_ ?_ | refine WDQ.m rfl rfl ?_ ?_ | refine WLA.st rfl ?_ ?_ | refine WLA.x rfl rfl ?_ (fun x => ?_) | refine WLA.x0 rfl ?_ (fun x => ?_)); first | exact trivial | exact rfl | assumption | omega | (refine ⟨?_, ?_⟩ <;> omega) | (simp only [Room, lenS]; omega) | decide | skip) | (refine Stp.go ?_) | (guard_target =~ WLA _ _ _ _ _ (⟨_, .call ⟨.value (.func 49), _, _⟩, _, _, _, _⟩ :: _) _ _; refine WLA.cq rfl rfl (Ints_tr (by assumption)) ?_) | (refine WPA.ifT ?_) | (refine WPA.ifF ?_) | (refine WLA.no rfl rfl ?_) | (refine WDQ.no rfl rfl ?_) | ((first | refine WPA.dec ?_ | ((fail_if_success (guard_target =~ WLA _ _ _ _ _ _ (put1 _ _ (.bool true)) _)); (fail_if_success (guard_target =~ WLA _ _ _ _ _ _ (put1 _ _ (.bool false)) _)); refine WLA.dec rfl rfl ?_) | refine WLA.pk ?_ | refine WDQ.dec rfl rfl ?_); first | refine .inl ⟨by first | assumption | omega | with_reducible rfl | (refine fun h => h ?_; first | assumption | with_reducible rfl) | (simp only [lenS] <;> omega) | decide, ?_⟩ | refine .inr ⟨by first | assumption | omega | with_reducible rfl | (refine fun h => h ?_; first | assumption | with_reducible rfl) | (simp only [lenS] <;> omega) | decide, ?_⟩) | ((first | refine WPA.ifBt ?_ ?_ | refine WPA.ifBnf ?_ ?_); assumption) | ((first | refine WPA.ifBnt ?_ ?_ | refine WPA.ifBf ?_ ?_); assumption) | ((first | refine WPA.ifs ?_ ?_ | refine WPA.ifB ?_ ?_) <;> intro hc) | ((fail_if_success (guard_target =~ WLA _ _ _ _ _ _ (put1 _ _ (.bool true)) _)); (fail_if_success (guard_target =~ WLA _ _ _ _ _ _ (put1 _ _ (.bool false)) _)); (first | refine WLA.both rfl rfl ?_ ?_ | refine WLA.bothB rfl rfl ?_ ?_) <;> intro hg) | (guard_target =~ WPA _ _ _ (.region 6 _ true) _ _ _; refine WPA.drawT 35 (.q 0 (.q 1 (.q 2 (.q 3 (.q 4 (.q 5 (.q 6 (.q 7 (.q 8 (.q 9 (.q 10 (.q 11 (.q 12 (.q 13 (.q 14 (.q 15 (.q 16 (.q 17 (.q 18 (.q 19 (.q 20 (.q 21 (.q 22 (.q 23 (.q 24 (.q 25 (.q 26 (.q 27 (.q 28 (.q 29 (.q 30 (.q 31 (.q 32 (.q 33 (.q 34 .fin))))))))))))))))))))))))))))))))))) mixed ?_ ?_; kernel_rfl) | (refine WDA.finish (tl := [⟨_, _, _, _, _, _⟩, ⟨_, _, _, _, _, _⟩, ⟨_, _, _, _, _, _⟩]) rfl ?_) | (refine WDQ.see rfl ?_) | (guard_target =~ WDQ _ _ _ _ _ _ _ ⟨_, .call ⟨.value (.func 49), _, _⟩, _, _, _, _⟩ _ _ _; refine WDQ.cq rfl rfl (Ints_tr (by assumption)) ?_) | ((first | refine WDQ.both rfl rfl ?_ ?_) <;> intro hg))
      refine QQ.end_ rfl () (congrArg Value.bool (decide_eq_true ?_).symm) fun w h => h
      rw [List.take_of_length_le (by simp [enV]; omega), List.take_of_length_le (by simp [enV]; omega)] at he
      exact he
  · have hl' : (xs.length : Int) ≠ ys.length := by omega
    repeat' (first | ((first | refine WLA.m rfl rfl ?_ ?_ | refine WLA.st rfl ?_ ?_ | refine WLA.x rfl rfl ?_ (fun x => ?_) | refine WLA.x0 rfl ?_ (fun x => ?_)); first | exact trivial | exact rfl | assumption | omega | (refine ⟨?_, ?_⟩ <;> omega) | (simp only [Room, lenS]; omega) | decide | skip) | (refine Stp.go ?_) | (refine WPA.ifT ?_) | (refine WPA.ifF ?_) | ((first | refine WPA.dec ?_); first | refine .inl ⟨by first | assumption | omega | with_reducible rfl | (refine fun h => h ?_; first | assumption | with_reducible rfl) | (simp only [lenS] <;> omega) | decide, ?_⟩ | refine .inr ⟨by first | assumption | omega | with_reducible rfl | (refine fun h => h ?_; first | assumption | with_reducible rfl) | (simp only [lenS] <;> omega) | decide, ?_⟩) | ((first | refine WPA.ifBt ?_ ?_ | refine WPA.ifBnf ?_ ?_); assumption) | ((first | refine WPA.ifBnt ?_ ?_ | refine WPA.ifBf ?_ ?_); assumption) | ((first | refine WPA.ifs ?_ ?_ | refine WPA.ifB ?_ ?_) <;> intro hc))
    exact QQ.end_ rfl () (congrArg Value.bool (decide_eq_false fun e => hl2 (by have := congrArg List.length e; simpa [enV] using this)).symm) fun w h => h
end
end Go.Proofs.YthkhneimfjaohaaGreatDoor
namespace Go.Proofs.YthkhneimfjaohaaGreatDoor
open Go Go.Fw Go.RowKit
set_option linter.unusedVariables false
set_option linter.unusedSimpArgs false
set_option maxRecDepth 100000
set_option maxHeartbeats 16000000
set_option synthInstance.maxHeartbeats 200000
set_option synthInstance.maxSize 100000
attribute [local irreducible] WPA WLA WDA WDQ WDE QQ seqQ blockQ loopQ fnQ OpP OpT Tr TrP SL SLd OwnS LitS Bk BkE Ob
theorem bt_exA {s : ByteArray} {a b j : Nat} (hb : b ≤ s.size) (hj : a + j < b) : bt (s.extract a b) (j : Nat) = bt s ((a + j : Nat) : Int) := by
  have h1 : j < (s.extract a b).size := by simp; omega
  have h2 : a + j < s.size := by omega
  unfold bt
  rw [Int.toNat_natCast, Int.toNat_natCast, dif_pos h1, dif_pos h2]
  simp [ByteArray.getElem_extract]
def hasP (s p : ByteArray) : Prop := p.size ≤ s.size ∧ s.extract 0 p.size = p
instance (s p : ByteArray) : Decidable (hasP s p) := inferInstanceAs (Decidable (_ ∧ _))
def cutP (s p : ByteArray) : ByteArray := if hasP s p then s.extract p.size s.size else s
def mnB : ByteArray := ⟨#[45]⟩
theorem ext_same {s t : ByteArray} (h : s.size = t.size) (k : ∀ j : Nat, j < s.size → bt s (j : Int) = bt t (j : Int)) : s = t := by
  apply ByteArray.ext
  apply Array.ext h
  intro i h1 h2
  have := k i h1
  unfold bt at this
  rw [Int.toNat_natCast, dif_pos (show i < s.size from h1), dif_pos (show i < t.size from h2)] at this
  exact UInt8.toNat_inj.1 (by exact_mod_cast this)
theorem hasP_mn {s : ByteArray} : hasP s mnB ↔ 0 < s.size ∧ bt s 0 = 45 := by
  have e1 : mnB.size = 1 := rfl
  have e2 : bt mnB ((0 : Nat) : Int) = 45 := by decide
  unfold hasP
  rw [e1]
  constructor
  · rintro ⟨h1, h2⟩
    refine ⟨h1, ?_⟩
    have := bt_exA (s := s) (a := 0) (b := 1) (j := 0) h1 (by omega)
    rw [h2, e2] at this
    exact this.symm
  · rintro ⟨h1, h2⟩
    refine ⟨h1, ext_same (by rw [ByteArray.size_extract, e1]; omega) fun j hj => ?_⟩
    rw [ByteArray.size_extract] at hj
    have hj0 : j = 0 := by omega
    subst hj0
    rw [bt_exA (s := s) (a := 0) (b := 1) (j := 0) h1 (by omega), e2]; exact h2
def digS (s : ByteArray) : ByteArray := cutP s mnB
theorem digS_len {s : ByteArray} : hasP s mnB ↔ (digS s).size < s.size := by
  unfold digS cutP
  by_cases h : hasP s mnB
  · rw [if_pos h]
    have := (hasP_mn.1 h).1
    have e1 : mnB.size = 1 := rfl
    rw [ByteArray.size_extract, e1]
    exact ⟨fun _ => by omega, fun _ => h⟩
  · rw [if_neg h]
    exact ⟨fun k => absurd k h, fun k => absurd k (Nat.lt_irrefl _)⟩
def valD (d : ByteArray) : Nat → Int
  | 0 => 0
  | n + 1 => 10 * valD d n + (bt d (n : Int) - 48)
def DigP (d : ByteArray) (n : Nat) : Prop := ∀ j : Nat, j < n → 48 ≤ bt d (j : Int) ∧ bt d (j : Int) ≤ 57
theorem valD_lt {d : ByteArray} : ∀ {n : Nat}, DigP d n → 0 ≤ valD d n ∧ valD d n < 10 ^ n
  | 0, _ => ⟨Int.le_refl 0, by show (0 : Int) < 1; decide⟩
  | n + 1, h => by
    have h1 := valD_lt (n := n) fun j hj => h j (by omega)
    have h2 := h n (by omega)
    rw [valD, Int.pow_succ]; omega
theorem p10 {n : Nat} (h : n ≤ 17) : (10 : Int) ^ n ≤ 100000000000000000 := by
  have : (10 : Nat) ^ n ≤ 10 ^ 17 := Nat.pow_le_pow_right (by omega) h
  have e : ((10 ^ n : Nat) : Int) = (10 : Int) ^ n := by push_cast; rfl
  omega
def zrB : ByteArray := ⟨#[48]⟩
def NumOk (s : ByteArray) : Prop := (digS s ≠ ⟨#[]⟩ ∧ (digS s).size ≤ 18) ∧ (bt (digS s) 0 = 48 → s = zrB) ∧ DigP (digS s) (digS s).size
open Classical in
noncomputable def numV (s : ByteArray) : Int := if NumOk s then (if hasP s mnB then -valD (digS s) (digS s).size else valD (digS s) (digS s).size) else 0
open Classical in
noncomputable def numB (s : ByteArray) : Bool := decide (NumOk s)
theorem num_yes {s : ByteArray} (h : NumOk s) : numV s = (if hasP s mnB then -valD (digS s) (digS s).size else valD (digS s) (digS s).size) ∧ numB s = true := by
  unfold numV numB; rw [if_pos h]; exact ⟨rfl, by simp [h]⟩
theorem num_no {s : ByteArray} (h : ¬ NumOk s) : numV s = 0 ∧ numB s = false := by
  unfold numV numB; rw [if_neg h]; exact ⟨rfl, by simp [h]⟩
theorem digS_pos {s : ByteArray} (h : digS s ≠ ⟨#[]⟩) : 0 < (digS s).size := by
  rcases Nat.eq_zero_or_pos (digS s).size with e | e
  · exact absurd (ext_same (t := ⟨#[]⟩) (by rw [e]; rfl) fun j hj => by omega) h
  · exact e
section
variable {L L' : List HP} {w0 : World} {I : Foot} {s p : ByteArray}
theorem HasPre_tr : TrP Tryz.prog 107 #[.string s, .string p] (SL w0 I L) (.bool (decide (hasP s p))) := by
  refine TrP.ofD fun u => Tr.intro Tryz.func107 rfl Tryz.ntmps107 rfl ?_
  by_cases h : p.size ≤ s.size
  · have h' : (p.size : Int) ≤ s.size := by omega
    have h0 : (0 : Int) ≤ 0 ∧ (0 : Int) ≤ p.size := by omega
    have e : decide (hasP s p) = decide (s.extract 0 p.size = p) := by rw [decide_eq_decide]; exact ⟨fun k => k.2, fun k => ⟨h, k⟩⟩
    rw [e]
    repeat' (first | ((first | refine WLA.m rfl rfl ?_ ?_ | refine WLA.st rfl ?_ ?_ | refine WLA.x rfl rfl ?_ (fun x => ?_) | refine WLA.x0 rfl ?_ (fun x => ?_)); first | exact trivial | exact rfl | assumption | omega | (refine ⟨?_, ?_⟩ <;> omega) | (simp only [Room, lenS]; omega) | decide | skip) | (refine Stp.go ?_) | (refine WPA.ifT ?_) | (refine WPA.ifF ?_) | (refine WLA.no rfl rfl ?_) | ((first | refine WPA.dec ?_ | ((fail_if_success (guard_target =~ WLA _ _ _ _ _ _ (put1 _ _ (.bool true)) _)); (fail_if_success (guard_target =~ WLA _ _ _ _ _ _ (put1 _ _ (.bool false)) _)); refine WLA.dec rfl rfl ?_) | refine WLA.pk ?_); first | refine .inl ⟨by first | assumption | omega | with_reducible rfl | (refine fun h => h ?_; first | assumption | with_reducible rfl) | (simp only [lenS] <;> omega) | decide, ?_⟩ | refine .inr ⟨by first | assumption | omega | with_reducible rfl | (refine fun h => h ?_; first | assumption | with_reducible rfl) | (simp only [lenS] <;> omega) | decide, ?_⟩) | ((first | refine WPA.ifBt ?_ ?_ | refine WPA.ifBnf ?_ ?_); assumption) | ((first | refine WPA.ifBnt ?_ ?_ | refine WPA.ifBf ?_ ?_); assumption) | ((first | refine WPA.ifs ?_ ?_ | refine WPA.ifB ?_ ?_) <;> intro hc) | ((fail_if_success (guard_target =~ WLA _ _ _ _ _ _ (put1 _ _ (.bool true)) _)); (fail_if_success (guard_target =~ WLA _ _ _ _ _ _ (put1 _ _ (.bool false)) _)); (first | refine WLA.both rfl rfl ?_ ?_ | refine WLA.bothB rfl rfl ?_ ?_) <;> intro hg))
    exact QQ.end_ rfl () (by simp) fun w h => h
  · have h' : ¬ (p.size : Int) ≤ s.size := by omega
    rw [decide_eq_false fun k => h k.1]
    repeat' (first | ((first | refine WLA.m rfl rfl ?_ ?_ | refine WLA.st rfl ?_ ?_ | refine WLA.x rfl rfl ?_ (fun x => ?_) | refine WLA.x0 rfl ?_ (fun x => ?_)); first | exact trivial | exact rfl | assumption | omega | (refine ⟨?_, ?_⟩ <;> omega) | (simp only [Room, lenS]; omega) | decide | skip) | (refine Stp.go ?_) | (refine WPA.ifT ?_) | (refine WPA.ifF ?_) | (refine WLA.no rfl rfl ?_) | ((first | refine WPA.dec ?_ | ((fail_if_success (guard_target =~ WLA _ _ _ _ _ _ (put1 _ _ (.bool true)) _)); (fail_if_success (guard_target =~ WLA _ _ _ _ _ _ (put1 _ _ (.bool false)) _)); refine WLA.dec rfl rfl ?_) | refine WLA.pk ?_); first | refine .inl ⟨by first | assumption | omega | with_reducible rfl | (refine fun h => h ?_; first | assumption | with_reducible rfl) | (simp only [lenS] <;> omega) | decide, ?_⟩ | refine .inr ⟨by first | assumption | omega | with_reducible rfl | (refine fun h => h ?_; first | assumption | with_reducible rfl) | (simp only [lenS] <;> omega) | decide, ?_⟩) | ((first | refine WPA.ifBt ?_ ?_ | refine WPA.ifBnf ?_ ?_); assumption) | ((first | refine WPA.ifBnt ?_ ?_ | refine WPA.ifBf ?_ ?_); assumption) | ((first | refine WPA.ifs ?_ ?_ | refine WPA.ifB ?_ ?_) <;> intro hc) | ((fail_if_success (guard_target =~ WLA _ _ _ _ _ _ (put1 _ _ (.bool true)) _)); (fail_if_success (guard_target =~ WLA _ _ _ _ _ _ (put1 _ _ (.bool false)) _)); (first | refine WLA.both rfl rfl ?_ ?_ | refine WLA.bothB rfl rfl ?_ ?_) <;> intro hg))
    exact QQ.end_ rfl () rfl fun w h => h
theorem lTrim_tr : TrP Tryz.prog 108 #[.string s, .string p] (SL w0 I L) (.string (cutP s p)) := by
  refine TrP.ofD fun u => Tr.intro Tryz.func108 rfl Tryz.ntmps108 rfl ?_
  have hp := fun {L : List HP} => HasPre_tr (w0 := w0) (I := I) (L := L) (s := s) (p := p)
  unfold cutP
  by_cases h : hasP s p
  · have h1 : (0 : Int) ≤ p.size ∧ (p.size : Int) ≤ s.size := by have := h.1; omega
    rw [decide_eq_true h] at hp
    rw [if_pos h]
    repeat' (first | ((first | refine WLA.m rfl rfl ?_ ?_ | refine WLA.st rfl ?_ ?_ | refine WLA.x rfl rfl ?_ (fun x => ?_) | refine WLA.x0 rfl ?_ (fun x => ?_)); first | exact trivial | exact rfl | assumption | omega | (refine ⟨?_, ?_⟩ <;> omega) | (simp only [Room, lenS]; omega) | decide | skip) | (refine Stp.go ?_) | (guard_target =~ WLA _ _ _ _ _ (⟨_, .call ⟨.value (.func 107), _, _⟩, _, _, _, _⟩ :: _) _ _; refine WLA.cq rfl rfl (hp) ?_) | (refine WPA.ifT ?_) | (refine WPA.ifF ?_) | ((first | refine WPA.dec ?_); first | refine .inl ⟨by first | assumption | omega | with_reducible rfl | (refine fun h => h ?_; first | assumption | with_reducible rfl) | (simp only [lenS] <;> omega) | decide, ?_⟩ | refine .inr ⟨by first | assumption | omega | with_reducible rfl | (refine fun h => h ?_; first | assumption | with_reducible rfl) | (simp only [lenS] <;> omega) | decide, ?_⟩) | ((first | refine WPA.ifBt ?_ ?_ | refine WPA.ifBnf ?_ ?_); assumption) | ((first | refine WPA.ifBnt ?_ ?_ | refine WPA.ifBf ?_ ?_); assumption) | ((first | refine WPA.ifs ?_ ?_ | refine WPA.ifB ?_ ?_) <;> intro hc))
    exact QQ.end_ rfl () (by simp) fun w h => h
  · rw [decide_eq_false h] at hp
    rw [if_neg h]
    repeat' (first | ((first | refine WLA.m rfl rfl ?_ ?_ | refine WLA.st rfl ?_ ?_ | refine WLA.x rfl rfl ?_ (fun x => ?_) | refine WLA.x0 rfl ?_ (fun x => ?_)); first | exact trivial | exact rfl | assumption | omega | (refine ⟨?_, ?_⟩ <;> omega) | (simp only [Room, lenS]; omega) | decide | skip) | (refine Stp.go ?_) | (guard_target =~ WLA _ _ _ _ _ (⟨_, .call ⟨.value (.func 107), _, _⟩, _, _, _, _⟩ :: _) _ _; refine WLA.cq rfl rfl (hp) ?_) | (refine WPA.ifT ?_) | (refine WPA.ifF ?_) | ((first | refine WPA.dec ?_); first | refine .inl ⟨by first | assumption | omega | with_reducible rfl | (refine fun h => h ?_; first | assumption | with_reducible rfl) | (simp only [lenS] <;> omega) | decide, ?_⟩ | refine .inr ⟨by first | assumption | omega | with_reducible rfl | (refine fun h => h ?_; first | assumption | with_reducible rfl) | (simp only [lenS] <;> omega) | decide, ?_⟩) | ((first | refine WPA.ifBt ?_ ?_ | refine WPA.ifBnf ?_ ?_); assumption) | ((first | refine WPA.ifBnt ?_ ?_ | refine WPA.ifBf ?_ ?_); assumption) | ((first | refine WPA.ifs ?_ ?_ | refine WPA.ifB ?_ ?_) <;> intro hc))
    exact QQ.end_ rfl () rfl fun w h => h
theorem Trim_tr : TrP Tryz.prog 94 #[.string s, .string p] (SL w0 I L) (.string (cutP s p)) := by
  refine TrP.ofD fun u => Tr.intro Tryz.func94 rfl Tryz.ntmps94 rfl ?_
  repeat' (first | ((first | refine WLA.m rfl rfl ?_ ?_ | refine WLA.st rfl ?_ ?_ | refine WLA.x rfl rfl ?_ (fun x => ?_) | refine WLA.x0 rfl ?_ (fun x => ?_)); first | exact trivial | exact rfl | assumption | omega | (refine ⟨?_, ?_⟩ <;> omega) | (simp only [Room, lenS]; omega) | decide | skip) | (refine Stp.go ?_) | (guard_target =~ WLA _ _ _ _ _ (⟨_, .call ⟨.value (.func 108), _, _⟩, _, _, _, _⟩ :: _) _ _; refine WLA.cq rfl rfl (lTrim_tr) ?_) | (refine WPA.ifT ?_) | (refine WPA.ifF ?_) | ((first | refine WPA.dec ?_); first | refine .inl ⟨by first | assumption | omega | with_reducible rfl | (refine fun h => h ?_; first | assumption | with_reducible rfl) | (simp only [lenS] <;> omega) | decide, ?_⟩ | refine .inr ⟨by first | assumption | omega | with_reducible rfl | (refine fun h => h ?_; first | assumption | with_reducible rfl) | (simp only [lenS] <;> omega) | decide, ?_⟩) | ((first | refine WPA.ifBt ?_ ?_ | refine WPA.ifBnf ?_ ?_); assumption) | ((first | refine WPA.ifBnt ?_ ?_ | refine WPA.ifBf ?_ ?_); assumption) | ((first | refine WPA.ifs ?_ ?_ | refine WPA.ifB ?_ ?_) <;> intro hc))
  exact QQ.end_ rfl () rfl fun w h => h
theorem lCutP_tr : TrP Tryz.prog 93 #[.string s, .string p] (SL w0 I L) (.tuple #[.string (cutP s p), .bool (decide (hasP s p))]) := by
  refine TrP.ofD fun u => Tr.intro Tryz.func93 rfl Tryz.ntmps93 rfl ?_
  have hp := fun {L : List HP} => HasPre_tr (w0 := w0) (I := I) (L := L) (s := s) (p := p)
  have hbt : (!true) = false := rfl
  have hbf : (!false) = true := rfl
  unfold cutP
  by_cases h : hasP s p
  · have h1 : (0 : Int) ≤ p.size ∧ (p.size : Int) ≤ s.size := by have := h.1; omega
    rw [decide_eq_true h] at hp ⊢
    rw [if_pos h]
    repeat' (first | ((rw [hbt])) | ((first | refine WLA.m rfl rfl ?_ ?_ | refine WLA.st rfl ?_ ?_ | refine WLA.x rfl rfl ?_ (fun x => ?_) | refine WLA.x0 rfl ?_ (fun x => ?_)); first | exact trivial | exact rfl | assumption | omega | (refine ⟨?_, ?_⟩ <;> omega) | (simp only [Room, lenS]; omega) | decide | skip) | (refine Stp.go ?_) | (guard_target =~ WLA _ _ _ _ _ (⟨_, .call ⟨.value (.func 107), _, _⟩, _, _, _, _⟩ :: _) _ _; refine WLA.cq rfl rfl (hp) ?_) | (refine WPA.ifT ?_) | (refine WPA.ifF ?_) | ((first | refine WPA.dec ?_); first | refine .inl ⟨by first | assumption | omega | with_reducible rfl | (refine fun h => h ?_; first | assumption | with_reducible rfl) | (simp only [lenS] <;> omega) | decide, ?_⟩ | refine .inr ⟨by first | assumption | omega | with_reducible rfl | (refine fun h => h ?_; first | assumption | with_reducible rfl) | (simp only [lenS] <;> omega) | decide, ?_⟩) | ((first | refine WPA.ifBt ?_ ?_ | refine WPA.ifBnf ?_ ?_); assumption) | ((first | refine WPA.ifBnt ?_ ?_ | refine WPA.ifBf ?_ ?_); assumption) | ((first | refine WPA.ifs ?_ ?_ | refine WPA.ifB ?_ ?_) <;> intro hc))
    exact QQ.end_ rfl () (by simp) fun w h => h
  · rw [decide_eq_false h] at hp ⊢
    rw [if_neg h]
    repeat' (first | ((rw [hbf])) | ((first | refine WLA.m rfl rfl ?_ ?_ | refine WLA.st rfl ?_ ?_ | refine WLA.x rfl rfl ?_ (fun x => ?_) | refine WLA.x0 rfl ?_ (fun x => ?_)); first | exact trivial | exact rfl | assumption | omega | (refine ⟨?_, ?_⟩ <;> omega) | (simp only [Room, lenS]; omega) | decide | skip) | (refine Stp.go ?_) | (guard_target =~ WLA _ _ _ _ _ (⟨_, .call ⟨.value (.func 107), _, _⟩, _, _, _, _⟩ :: _) _ _; refine WLA.cq rfl rfl (hp) ?_) | (refine WPA.ifT ?_) | (refine WPA.ifF ?_) | ((first | refine WPA.dec ?_); first | refine .inl ⟨by first | assumption | omega | with_reducible rfl | (refine fun h => h ?_; first | assumption | with_reducible rfl) | (simp only [lenS] <;> omega) | decide, ?_⟩ | refine .inr ⟨by first | assumption | omega | with_reducible rfl | (refine fun h => h ?_; first | assumption | with_reducible rfl) | (simp only [lenS] <;> omega) | decide, ?_⟩) | ((first | refine WPA.ifBt ?_ ?_ | refine WPA.ifBnf ?_ ?_); assumption) | ((first | refine WPA.ifBnt ?_ ?_ | refine WPA.ifBf ?_ ?_); assumption) | ((first | refine WPA.ifs ?_ ?_ | refine WPA.ifB ?_ ?_) <;> intro hc))
    exact QQ.end_ rfl () rfl fun w h => h
theorem CutP_tr : TrP Tryz.prog 74 #[.string s, .string p] (SL w0 I L) (.tuple #[.string (cutP s p), .bool (decide (hasP s p))]) := by
  refine TrP.ofD fun u => Tr.intro Tryz.func74 rfl Tryz.ntmps74 rfl ?_
  repeat' (first | ((first | refine WLA.m rfl rfl ?_ ?_ | refine WLA.st rfl ?_ ?_ | refine WLA.x rfl rfl ?_ (fun x => ?_) | refine WLA.x0 rfl ?_ (fun x => ?_)); first | exact trivial | exact rfl | assumption | omega | (refine ⟨?_, ?_⟩ <;> omega) | (simp only [Room, lenS]; omega) | decide | skip) | (refine Stp.go ?_) | (guard_target =~ WLA _ _ _ _ _ (⟨_, .call ⟨.value (.func 93), _, _⟩, _, _, _, _⟩ :: _) _ _; refine WLA.cq rfl rfl (lCutP_tr) ?_) | (refine WPA.ifT ?_) | (refine WPA.ifF ?_) | ((first | refine WPA.dec ?_); first | refine .inl ⟨by first | assumption | omega | with_reducible rfl | (refine fun h => h ?_; first | assumption | with_reducible rfl) | (simp only [lenS] <;> omega) | decide, ?_⟩ | refine .inr ⟨by first | assumption | omega | with_reducible rfl | (refine fun h => h ?_; first | assumption | with_reducible rfl) | (simp only [lenS] <;> omega) | decide, ?_⟩) | ((first | refine WPA.ifBt ?_ ?_ | refine WPA.ifBnf ?_ ?_); assumption) | ((first | refine WPA.ifBnt ?_ ?_ | refine WPA.ifBf ?_ ?_); assumption) | ((first | refine WPA.ifs ?_ ?_ | refine WPA.ifB ?_ ?_) <;> intro hc))
  exact QQ.end_ rfl () rfl fun w h => h
theorem Number_tr : TrP Tryz.prog 75 #[.string s] (SL w0 I L) (.tuple #[.int .i64 (numV s), .bool (numB s)]) := by
  refine TrP.ofD fun u => Tr.intro Tryz.func75 rfl Tryz.ntmps75 rfl ?_
  have ht := fun {L : List HP} => Trim_tr (w0 := w0) (I := I) (L := L) (s := s) (p := mnB)
  obtain ⟨d, hd⟩ : ∃ d, cutP s mnB = d := ⟨_, rfl⟩
  have hd2 : digS s = d := hd
  rw [hd] at ht
  by_cases h0 : d = ⟨#[]⟩
  · have hno := num_no (s := s) fun h => h.1.1 (by rw [hd2]; exact h0)
    rw [hno.1, hno.2]
    repeat' (first | ((first | refine WLA.m rfl rfl ?_ ?_ | refine WLA.st rfl ?_ ?_ | refine WLA.x rfl rfl ?_ (fun x => ?_) | refine WLA.x0 rfl ?_ (fun x => ?_)); first | exact trivial | exact rfl | assumption | omega | (refine ⟨?_, ?_⟩ <;> omega) | (simp only [Room, lenS]; omega) | decide | skip) | (refine Stp.go ?_) | (guard_target =~ WLA _ _ _ _ _ (⟨_, .call ⟨.value (.func 94), _, _⟩, _, _, _, _⟩ :: _) _ _; refine WLA.cq rfl rfl (ht) ?_) | (refine WPA.ifT ?_) | (refine WPA.ifF ?_) | (refine WLA.no rfl rfl ?_) | ((first | refine WPA.dec ?_ | ((fail_if_success (guard_target =~ WLA _ _ _ _ _ _ (put1 _ _ (.bool true)) _)); (fail_if_success (guard_target =~ WLA _ _ _ _ _ _ (put1 _ _ (.bool false)) _)); refine WLA.dec rfl rfl ?_) | refine WLA.pk ?_); first | refine .inl ⟨by first | assumption | omega | with_reducible rfl | (refine fun h => h ?_; first | assumption | with_reducible rfl) | (simp only [lenS] <;> omega) | decide, ?_⟩ | refine .inr ⟨by first | assumption | omega | with_reducible rfl | (refine fun h => h ?_; first | assumption | with_reducible rfl) | (simp only [lenS] <;> omega) | decide, ?_⟩) | ((first | refine WPA.ifBt ?_ ?_ | refine WPA.ifBnf ?_ ?_); assumption) | ((first | refine WPA.ifBnt ?_ ?_ | refine WPA.ifBf ?_ ?_); assumption) | ((first | refine WPA.ifs ?_ ?_ | refine WPA.ifB ?_ ?_) <;> intro hc) | ((fail_if_success (guard_target =~ WLA _ _ _ _ _ _ (put1 _ _ (.bool true)) _)); (fail_if_success (guard_target =~ WLA _ _ _ _ _ _ (put1 _ _ (.bool false)) _)); (first | refine WLA.both rfl rfl ?_ ?_ | refine WLA.bothB rfl rfl ?_ ?_) <;> intro hg))
    exact QQ.end_ rfl () rfl fun w h => h
  by_cases h18 : (18 : Int) < d.size
  · have hno := num_no (s := s) fun h => by have := h.1.2; rw [hd2] at this; omega
    rw [hno.1, hno.2]
    repeat' (first | ((first | refine WLA.m rfl rfl ?_ ?_ | refine WLA.st rfl ?_ ?_ | refine WLA.x rfl rfl ?_ (fun x => ?_) | refine WLA.x0 rfl ?_ (fun x => ?_)); first | exact trivial | exact rfl | assumption | omega | (refine ⟨?_, ?_⟩ <;> omega) | (simp only [Room, lenS]; omega) | decide | skip) | (refine Stp.go ?_) | (guard_target =~ WLA _ _ _ _ _ (⟨_, .call ⟨.value (.func 94), _, _⟩, _, _, _, _⟩ :: _) _ _; refine WLA.cq rfl rfl (ht) ?_) | (refine WPA.ifT ?_) | (refine WPA.ifF ?_) | (refine WLA.no rfl rfl ?_) | ((first | refine WPA.dec ?_ | ((fail_if_success (guard_target =~ WLA _ _ _ _ _ _ (put1 _ _ (.bool true)) _)); (fail_if_success (guard_target =~ WLA _ _ _ _ _ _ (put1 _ _ (.bool false)) _)); refine WLA.dec rfl rfl ?_) | refine WLA.pk ?_); first | refine .inl ⟨by first | assumption | omega | with_reducible rfl | (refine fun h => h ?_; first | assumption | with_reducible rfl) | (simp only [lenS] <;> omega) | decide, ?_⟩ | refine .inr ⟨by first | assumption | omega | with_reducible rfl | (refine fun h => h ?_; first | assumption | with_reducible rfl) | (simp only [lenS] <;> omega) | decide, ?_⟩) | ((first | refine WPA.ifBt ?_ ?_ | refine WPA.ifBnf ?_ ?_); assumption) | ((first | refine WPA.ifBnt ?_ ?_ | refine WPA.ifBf ?_ ?_); assumption) | ((first | refine WPA.ifs ?_ ?_ | refine WPA.ifB ?_ ?_) <;> intro hc) | ((fail_if_success (guard_target =~ WLA _ _ _ _ _ _ (put1 _ _ (.bool true)) _)); (fail_if_success (guard_target =~ WLA _ _ _ _ _ _ (put1 _ _ (.bool false)) _)); (first | refine WLA.both rfl rfl ?_ ?_ | refine WLA.bothB rfl rfl ?_ ?_) <;> intro hg))
    exact QQ.end_ rfl () rfl fun w h => h
  have hpos : 0 < d.size := by have := digS_pos (s := s) (by rw [hd2]; exact h0); rw [hd2] at this; exact this
  have hp0 : (0 : Int) ≤ 0 ∧ (0 : Int) < d.size := by omega
  by_cases hz : bt d 0 = 48 ∧ s ≠ zrB
  · obtain ⟨hz1, hz2⟩ := hz
    have hno := num_no (s := s) fun h => hz2 (h.2.1 (by rw [hd2]; exact hz1))
    rw [hno.1, hno.2]
    have hz3 : ¬ s = ⟨#[48]⟩ := hz2
    repeat' (first | ((first | refine WLA.m rfl rfl ?_ ?_ | refine WLA.st rfl ?_ ?_ | refine WLA.x rfl rfl ?_ (fun x => ?_) | refine WLA.x0 rfl ?_ (fun x => ?_)); first | exact trivial | exact rfl | assumption | omega | (refine ⟨?_, ?_⟩ <;> omega) | (simp only [Room, lenS]; omega) | decide | skip) | (refine Stp.go ?_) | (guard_target =~ WLA _ _ _ _ _ (⟨_, .call ⟨.value (.func 94), _, _⟩, _, _, _, _⟩ :: _) _ _; refine WLA.cq rfl rfl (ht) ?_) | (refine WPA.ifT ?_) | (refine WPA.ifF ?_) | (refine WLA.no rfl rfl ?_) | ((first | refine WPA.dec ?_ | ((fail_if_success (guard_target =~ WLA _ _ _ _ _ _ (put1 _ _ (.bool true)) _)); (fail_if_success (guard_target =~ WLA _ _ _ _ _ _ (put1 _ _ (.bool false)) _)); refine WLA.dec rfl rfl ?_) | refine WLA.pk ?_); first | refine .inl ⟨by first | assumption | omega | with_reducible rfl | (refine fun h => h ?_; first | assumption | with_reducible rfl) | (simp only [lenS] <;> omega) | decide, ?_⟩ | refine .inr ⟨by first | assumption | omega | with_reducible rfl | (refine fun h => h ?_; first | assumption | with_reducible rfl) | (simp only [lenS] <;> omega) | decide, ?_⟩) | ((first | refine WPA.ifBt ?_ ?_ | refine WPA.ifBnf ?_ ?_); assumption) | ((first | refine WPA.ifBnt ?_ ?_ | refine WPA.ifBf ?_ ?_); assumption) | ((first | refine WPA.ifs ?_ ?_ | refine WPA.ifB ?_ ?_) <;> intro hc) | ((fail_if_success (guard_target =~ WLA _ _ _ _ _ _ (put1 _ _ (.bool true)) _)); (fail_if_success (guard_target =~ WLA _ _ _ _ _ _ (put1 _ _ (.bool false)) _)); (first | refine WLA.both rfl rfl ?_ ?_ | refine WLA.bothB rfl rfl ?_ ?_) <;> intro hg))
    exact QQ.end_ rfl () rfl fun w h => h
  have hz4 : (bt d 0 = 48 ∧ s = ⟨#[48]⟩) ∨ ¬ bt d 0 = 48 := by
    by_cases h1 : bt d 0 = 48
    · by_cases h2 : s = zrB
      · exact .inl ⟨h1, h2⟩
      · exact absurd ⟨h1, h2⟩ hz
    · exact .inr h1
  rcases hz4 with ⟨hz1, hz2⟩ | hz1
  all_goals
    repeat' (first | ((first | refine WLA.m rfl rfl ?_ ?_ | refine WLA.st rfl ?_ ?_ | refine WLA.x rfl rfl ?_ (fun x => ?_) | refine WLA.x0 rfl ?_ (fun x => ?_)); first | exact trivial | exact rfl | assumption | omega | (refine ⟨?_, ?_⟩ <;> omega) | (simp only [Room, lenS]; omega) | decide | skip) | (refine Stp.go ?_) | (guard_target =~ WLA _ _ _ _ _ (⟨_, .call ⟨.value (.func 94), _, _⟩, _, _, _, _⟩ :: _) _ _; refine WLA.cq rfl rfl (ht) ?_) | (refine WPA.ifT ?_) | (refine WPA.ifF ?_) | (refine WLA.no rfl rfl ?_) | ((first | refine WPA.dec ?_ | ((fail_if_success (guard_target =~ WLA _ _ _ _ _ _ (put1 _ _ (.bool true)) _)); (fail_if_success (guard_target =~ WLA _ _ _ _ _ _ (put1 _ _ (.bool false)) _)); refine WLA.dec rfl rfl ?_) | refine WLA.pk ?_); first | refine .inl ⟨by first | assumption | omega | with_reducible rfl | (refine fun h => h ?_; first | assumption | with_reducible rfl) | (simp only [lenS] <;> omega) | decide, ?_⟩ | refine .inr ⟨by first | assumption | omega | with_reducible rfl | (refine fun h => h ?_; first | assumption | with_reducible rfl) | (simp only [lenS] <;> omega) | decide, ?_⟩) | ((first | refine WPA.ifBt ?_ ?_ | refine WPA.ifBnf ?_ ?_); assumption) | ((first | refine WPA.ifBnt ?_ ?_ | refine WPA.ifBf ?_ ?_); assumption) | ((first | refine WPA.ifs ?_ ?_ | refine WPA.ifB ?_ ?_) <;> intro hc) | ((fail_if_success (guard_target =~ WLA _ _ _ _ _ _ (put1 _ _ (.bool true)) _)); (fail_if_success (guard_target =~ WLA _ _ _ _ _ _ (put1 _ _ (.bool false)) _)); (first | refine WLA.both rfl rfl ?_ ?_ | refine WLA.bothB rfl rfl ?_ ?_) <;> intro hg))
  all_goals
    refine WPA.loopS (σ := Nat) (fun n => [(0, .string s), (4, .string d), (5, .int .i64 (valD d n)), (6, .int .i64 n)]) (fun n => n ≤ d.size ∧ DigP d n) (fun _ => SLd w0 I L u) (fun n => d.size - n) 0 ⟨rfl, rfl, rfl, rfl, trivial⟩ ⟨Nat.zero_le _, fun j hj => absurd hj (Nat.not_lt_zero j)⟩ (fun w h => h) ?_
    rintro n ρ ⟨hn, hD⟩
    by_cases hlt : n < d.size
    · have hlt' : (n : Int) < d.size := by omega
      have hir : (0 : Int) ≤ n ∧ (n : Int) < d.size := by omega
      by_cases b1 : bt d (n : Int) < 48
      · have hno := num_no (s := s) fun h => by have := h.2.2; rw [hd2] at this; have := this n hlt; omega
        rw [hno.1, hno.2]
        repeat' (first | ((first | refine WLA.m rfl rfl ?_ ?_ | refine WLA.st rfl ?_ ?_ | refine WLA.x rfl rfl ?_ (fun x => ?_) | refine WLA.x0 rfl ?_ (fun x => ?_)); first | exact trivial | exact rfl | assumption | omega | (refine ⟨?_, ?_⟩ <;> omega) | (simp only [Room, lenS]; omega) | decide | skip) | (refine Stp.go ?_) | (refine WPA.ifT ?_) | (refine WPA.ifF ?_) | (refine WLA.no rfl rfl ?_) | ((first | refine WPA.dec ?_ | ((fail_if_success (guard_target =~ WLA _ _ _ _ _ _ (put1 _ _ (.bool true)) _)); (fail_if_success (guard_target =~ WLA _ _ _ _ _ _ (put1 _ _ (.bool false)) _)); refine WLA.dec rfl rfl ?_) | refine WLA.pk ?_); first | refine .inl ⟨by first | assumption | omega | with_reducible rfl | (refine fun h => h ?_; first | assumption | with_reducible rfl) | (simp only [lenS] <;> omega) | decide, ?_⟩ | refine .inr ⟨by first | assumption | omega | with_reducible rfl | (refine fun h => h ?_; first | assumption | with_reducible rfl) | (simp only [lenS] <;> omega) | decide, ?_⟩) | ((first | refine WPA.ifBt ?_ ?_ | refine WPA.ifBnf ?_ ?_); assumption) | ((first | refine WPA.ifBnt ?_ ?_ | refine WPA.ifBf ?_ ?_); assumption) | ((first | refine WPA.ifs ?_ ?_ | refine WPA.ifB ?_ ?_) <;> intro hc) | ((fail_if_success (guard_target =~ WLA _ _ _ _ _ _ (put1 _ _ (.bool true)) _)); (fail_if_success (guard_target =~ WLA _ _ _ _ _ _ (put1 _ _ (.bool false)) _)); (first | refine WLA.both rfl rfl ?_ ?_ | refine WLA.bothB rfl rfl ?_ ?_) <;> intro hg))
        exact QQ.end_ rfl () rfl fun w h => h
      by_cases b2 : 57 < bt d (n : Int)
      · have hno := num_no (s := s) fun h => by have := h.2.2; rw [hd2] at this; have := this n hlt; omega
        rw [hno.1, hno.2]
        repeat' (first | ((first | refine WLA.m rfl rfl ?_ ?_ | refine WLA.st rfl ?_ ?_ | refine WLA.x rfl rfl ?_ (fun x => ?_) | refine WLA.x0 rfl ?_ (fun x => ?_)); first | exact trivial | exact rfl | assumption | omega | (refine ⟨?_, ?_⟩ <;> omega) | (simp only [Room, lenS]; omega) | decide | skip) | (refine Stp.go ?_) | (refine WPA.ifT ?_) | (refine WPA.ifF ?_) | (refine WLA.no rfl rfl ?_) | ((first | refine WPA.dec ?_ | ((fail_if_success (guard_target =~ WLA _ _ _ _ _ _ (put1 _ _ (.bool true)) _)); (fail_if_success (guard_target =~ WLA _ _ _ _ _ _ (put1 _ _ (.bool false)) _)); refine WLA.dec rfl rfl ?_) | refine WLA.pk ?_); first | refine .inl ⟨by first | assumption | omega | with_reducible rfl | (refine fun h => h ?_; first | assumption | with_reducible rfl) | (simp only [lenS] <;> omega) | decide, ?_⟩ | refine .inr ⟨by first | assumption | omega | with_reducible rfl | (refine fun h => h ?_; first | assumption | with_reducible rfl) | (simp only [lenS] <;> omega) | decide, ?_⟩) | ((first | refine WPA.ifBt ?_ ?_ | refine WPA.ifBnf ?_ ?_); assumption) | ((first | refine WPA.ifBnt ?_ ?_ | refine WPA.ifBf ?_ ?_); assumption) | ((first | refine WPA.ifs ?_ ?_ | refine WPA.ifB ?_ ?_) <;> intro hc) | ((fail_if_success (guard_target =~ WLA _ _ _ _ _ _ (put1 _ _ (.bool true)) _)); (fail_if_success (guard_target =~ WLA _ _ _ _ _ _ (put1 _ _ (.bool false)) _)); (first | refine WLA.both rfl rfl ?_ ?_ | refine WLA.bothB rfl rfl ?_ ?_) <;> intro hg))
        exact QQ.end_ rfl () rfl fun w h => h
      have hv := valD_lt hD
      have hp := p10 (n := n) (by omega)
      have hc1 : 0 ≤ bt d (n : Int) - 48 ∧ bt d (n : Int) - 48 ≤ 255 := by omega
      have hw8 := wrap_u8 (a := bt d (n : Int) - 48) hc1
      have hc2 : -9223372036854775808 ≤ 10 * valD d n ∧ 10 * valD d n ≤ 9223372036854775807 := by omega
      have hc3 : -9223372036854775808 ≤ 10 * valD d n + (bt d (n : Int) - 48) ∧ 10 * valD d n + (bt d (n : Int) - 48) ≤ 9223372036854775807 := by omega
      repeat' (first | ((rw [hw8])) | ((first | refine WLA.m rfl rfl ?_ ?_ | refine WLA.st rfl ?_ ?_ | refine WLA.x rfl rfl ?_ (fun x => ?_) | refine WLA.x0 rfl ?_ (fun x => ?_)); first | exact trivial | exact rfl | assumption | omega | (refine ⟨?_, ?_⟩ <;> omega) | (simp only [Room, lenS]; omega) | decide | skip) | (refine Stp.go ?_) | (refine WPA.ifT ?_) | (refine WPA.ifF ?_) | (refine WLA.no rfl rfl ?_) | ((first | refine WPA.dec ?_ | ((fail_if_success (guard_target =~ WLA _ _ _ _ _ _ (put1 _ _ (.bool true)) _)); (fail_if_success (guard_target =~ WLA _ _ _ _ _ _ (put1 _ _ (.bool false)) _)); refine WLA.dec rfl rfl ?_) | refine WLA.pk ?_); first | refine .inl ⟨by first | assumption | omega | with_reducible rfl | (refine fun h => h ?_; first | assumption | with_reducible rfl) | (simp only [lenS] <;> omega) | decide, ?_⟩ | refine .inr ⟨by first | assumption | omega | with_reducible rfl | (refine fun h => h ?_; first | assumption | with_reducible rfl) | (simp only [lenS] <;> omega) | decide, ?_⟩) | ((first | refine WPA.ifBt ?_ ?_ | refine WPA.ifBnf ?_ ?_); assumption) | ((first | refine WPA.ifBnt ?_ ?_ | refine WPA.ifBf ?_ ?_); assumption) | ((first | refine WPA.ifs ?_ ?_ | refine WPA.ifB ?_ ?_) <;> intro hc) | ((fail_if_success (guard_target =~ WLA _ _ _ _ _ _ (put1 _ _ (.bool true)) _)); (fail_if_success (guard_target =~ WLA _ _ _ _ _ _ (put1 _ _ (.bool false)) _)); (first | refine WLA.both rfl rfl ?_ ?_ | refine WLA.bothB rfl rfl ?_ ?_) <;> intro hg))
      refine QQ.loopS (n + 1) ⟨rfl, rfl, rfl, rfl, trivial⟩ ⟨hlt, fun j hj => ?_⟩ (by omega) (fun w h => h)
      by_cases e : j = n
      · subst e; omega
      · exact hD j (by omega)
    · have hlt' : ¬ (n : Int) < d.size := by omega
      have hnd : n = d.size := by omega
      subst hnd
      have hok : NumOk s := by
        refine ⟨⟨by rw [hd2]; exact h0, by rw [hd2]; omega⟩, fun h => ?_, by rw [hd2]; exact hD⟩
        rw [hd2] at h
        first | exact hz2 | exact absurd h hz1
      have hy := num_yes hok
      have hl := digS_len (s := s)
      rw [hd2] at hl hy
      have hv := valD_lt hD
      have hp := p10 (n := d.size - 1) (by omega)
      have hpp : (10 : Int) ^ d.size = 10 * 10 ^ (d.size - 1) := by
        conv => lhs; rw [show d.size = (d.size - 1) + 1 by omega, Int.pow_succ]
        rw [Int.mul_comm]
      rw [hy.1, hy.2]
      by_cases hm : hasP s mnB
      · have hm' : (d.size : Int) < s.size := by have := hl.1 hm; omega
        rw [if_pos hm]
        have hc4 : -9223372036854775808 ≤ - valD d d.size ∧ - valD d d.size ≤ 9223372036854775807 := by omega
        repeat' (first | ((first | refine WLA.m rfl rfl ?_ ?_ | refine WLA.st rfl ?_ ?_ | refine WLA.x rfl rfl ?_ (fun x => ?_) | refine WLA.x0 rfl ?_ (fun x => ?_)); first | exact trivial | exact rfl | assumption | omega | (refine ⟨?_, ?_⟩ <;> omega) | (simp only [Room, lenS]; omega) | decide | skip) | (refine Stp.go ?_) | (refine WPA.ifT ?_) | (refine WPA.ifF ?_) | ((first | refine WPA.dec ?_); first | refine .inl ⟨by first | assumption | omega | with_reducible rfl | (refine fun h => h ?_; first | assumption | with_reducible rfl) | (simp only [lenS] <;> omega) | decide, ?_⟩ | refine .inr ⟨by first | assumption | omega | with_reducible rfl | (refine fun h => h ?_; first | assumption | with_reducible rfl) | (simp only [lenS] <;> omega) | decide, ?_⟩) | ((first | refine WPA.ifBt ?_ ?_ | refine WPA.ifBnf ?_ ?_); assumption) | ((first | refine WPA.ifBnt ?_ ?_ | refine WPA.ifBf ?_ ?_); assumption) | ((first | refine WPA.ifs ?_ ?_ | refine WPA.ifB ?_ ?_) <;> intro hc))
        exact QQ.end_ rfl () rfl fun w h => h
      · have hm' : ¬ (d.size : Int) < s.size := fun k => hm (hl.2 (by omega))
        rw [if_neg hm]
        repeat' (first | ((first | refine WLA.m rfl rfl ?_ ?_ | refine WLA.st rfl ?_ ?_ | refine WLA.x rfl rfl ?_ (fun x => ?_) | refine WLA.x0 rfl ?_ (fun x => ?_)); first | exact trivial | exact rfl | assumption | omega | (refine ⟨?_, ?_⟩ <;> omega) | (simp only [Room, lenS]; omega) | decide | skip) | (refine Stp.go ?_) | (refine WPA.ifT ?_) | (refine WPA.ifF ?_) | ((first | refine WPA.dec ?_); first | refine .inl ⟨by first | assumption | omega | with_reducible rfl | (refine fun h => h ?_; first | assumption | with_reducible rfl) | (simp only [lenS] <;> omega) | decide, ?_⟩ | refine .inr ⟨by first | assumption | omega | with_reducible rfl | (refine fun h => h ?_; first | assumption | with_reducible rfl) | (simp only [lenS] <;> omega) | decide, ?_⟩) | ((first | refine WPA.ifBt ?_ ?_ | refine WPA.ifBnf ?_ ?_); assumption) | ((first | refine WPA.ifBnt ?_ ?_ | refine WPA.ifBf ?_ ?_); assumption) | ((first | refine WPA.ifs ?_ ?_ | refine WPA.ifB ?_ ?_) <;> intro hc))
        exact QQ.end_ rfl () rfl fun w h => h
end
end Go.Proofs.YthkhneimfjaohaaGreatDoor
namespace Go.Fw
open Go Go.RowKit
section
variable {P : Program} {ρ : Env} {A : World → Prop} {ty : TypeId} {ro : Option Nat} {n : Nat} {Q : Hnd} {ops : Array Oper} {rest : List Oper} {pos : String} {af : Array Edge} {g : Option (Nat × Bool)} {d : Tmp}
theorem WLA.extA {f : FuncId} {fn : Func} {e : Array Value → Sem Value} {args : List Operand} {argTypes : Array TypeId} {vs : List Value} {v : Value} [hv : EvAll ρ args vs] (hf : P.funcs[f]? = some fn) (hname : (fn.name == "runtime.NumGoroutine") = false)
    (hb : fn.body.isNone = true) (hn : Extern.findNext fn = none) (he : Extern.find fn = some e) (hr : ∀ w, (e vs.toArray).run P w = .ok v w)
    (hw : Region.wanted ⟨some d, .call { callee := .value (.func f), args := args.toArray, argTypes := argTypes }, ty, pos, af, g⟩ (yieldedE n ops ρ) = true) (hd : Nat.blt d n = true) (k : WLA ro P n ops Q rest (put1 ρ d v) A) :
    WLA ro P n ops Q (⟨some d, .call { callee := .value (.func f), args := args.toArray, argTypes := argTypes }, ty, pos, af, g⟩ :: rest) ρ A :=
  WLA.q (v := v) hw (fun d pos af g w _ => by
    have e1 : args.toArray.map (evalE ρ) = vs.toArray := by simp [← hv.out]
    have e2 := run_callFunc_extern hf hname hb hn he vs.toArray w
    rw [hr] at e2
    simp [execOp, resolve, evalE, Deferred.ofValue, invoke, e1, e2, go_sem]) (by rw [upd_put1 hd]; exact k)
end
end Go.Fw
namespace Go.Proofs.YthkhneimfjaohaaGreatDoor
open Go Go.Fw Go.RowKit
set_option linter.unusedVariables false
set_option linter.unusedSimpArgs false
set_option maxRecDepth 100000
set_option maxHeartbeats 16000000
set_option synthInstance.maxHeartbeats 200000
set_option synthInstance.maxSize 100000
attribute [local irreducible] WPA WLA WDA WDQ WDE QQ seqQ blockQ loopQ fnQ OpP OpT Tr TrP SL SLd OwnS LitS Bk BkE Ob
def oneB (c : UInt8) : ByteArray := ⟨#[c]⟩
def atB (s : ByteArray) (c : UInt8) : Int := Lib.indexByte s.data.toList c
theorem oneB_sz (c : UInt8) : (oneB c).size = 1 := rfl
theorem oneB_bt (c : UInt8) : bt (oneB c) 0 = c.toNat := rfl
theorem toU8 (c : UInt8) : (((c.toNat : Nat) : Int)).toNat.toUInt8 = c := by rw [Int.toNat_natCast]; exact UInt8.ofNat_toNat
section
variable {s : ByteArray} {c : UInt8} {L : List HP} {w0 : World} {I : Foot}
theorem IndexByte_trA : TrP Tryz.prog 114 #[.string s, .int .u8 c.toNat] (SL w0 I L) (.int .i64 (atB s c)) := by
  refine TrP.ofD fun u => Tr.intro Tryz.func114 rfl Tryz.ntmps114 rfl ?_
  have hr := fun w : World => Lib.run_indexByteString (P := Tryz.prog) s (c.toNat : Int) w
  rw [toU8] at hr
  repeat' (first | (guard_target =~ WLA _ _ _ _ _ (⟨_, .call ⟨.value (.func 121), _, _⟩, _, _, _, _⟩ :: _) _ _; refine WLA.extA (fn := Tryz.f121) (e := Extern.BytealgIndexByte.indexByte) rfl (by kernel_rfl) (by kernel_rfl) (by kernel_rfl) (by kernel_rfl) hr rfl rfl ?_) | ((first | refine WLA.m rfl rfl ?_ ?_ | refine WLA.st rfl ?_ ?_ | refine WLA.x rfl rfl ?_ (fun x => ?_) | refine WLA.x0 rfl ?_ (fun x => ?_)); first | exact trivial | exact rfl | assumption | omega | (refine ⟨?_, ?_⟩ <;> omega) | (simp only [Room, lenS]; omega) | decide | skip) | (refine Stp.go ?_) | (refine WPA.ifT ?_) | (refine WPA.ifF ?_) | ((first | refine WPA.dec ?_); first | refine .inl ⟨by first | assumption | omega | with_reducible rfl | (refine fun h => h ?_; first | assumption | with_reducible rfl) | (simp only [lenS] <;> omega) | decide, ?_⟩ | refine .inr ⟨by first | assumption | omega | with_reducible rfl | (refine fun h => h ?_; first | assumption | with_reducible rfl) | (simp only [lenS] <;> omega) | decide, ?_⟩) | ((first | refine WPA.ifBt ?_ ?_ | refine WPA.ifBnf ?_ ?_); assumption) | ((first | refine WPA.ifBnt ?_ ?_ | refine WPA.ifBf ?_ ?_); assumption) | ((first | refine WPA.ifs ?_ ?_ | refine WPA.ifB ?_ ?_) <;> intro hc))
  exact QQ.end_ rfl () rfl fun w h => h
theorem lIndex_trA : TrP Tryz.prog 106 #[.string s, .string (oneB c)] (SL w0 I L) (.int .i64 (atB s c)) := by
  refine TrP.ofD fun u => Tr.intro Tryz.func106 rfl Tryz.ntmps106 rfl ?_
  have hs1 : ((oneB c).size : Int) = 1 := rfl
  have hs0 : ¬ ((oneB c).size : Int) = 0 := by rw [hs1]; decide
  have hb0 := oneB_bt c
  have h01 : (0 : Int) ≤ 0 ∧ (0 : Int) < (oneB c).size := by rw [hs1]; decide
  by_cases h10 : oneB c = s
  · have e : atB s c = 0 := by rw [← h10]; show Lib.indexByte [c] c = 0; simp [Lib.indexByte]
    repeat' (first | ((rw [hb0])) | (guard_target =~ WLA _ _ _ _ _ (⟨_, .pick _ _ _, _, _, _, _⟩ :: _) _ _; first | refine WLA.pickT (by decide) ?_ | refine WLA.pickF (by decide) ?_) | ((first | refine WLA.m rfl rfl ?_ ?_ | refine WLA.st rfl ?_ ?_ | refine WLA.x rfl rfl ?_ (fun x => ?_) | refine WLA.x0 rfl ?_ (fun x => ?_)); first | exact trivial | exact rfl | assumption | omega | (refine ⟨?_, ?_⟩ <;> omega) | (simp only [Room, lenS]; omega) | decide | skip) | (refine Stp.go ?_) | (guard_target =~ WLA _ _ _ _ _ (⟨_, .call ⟨.value (.func 114), _, _⟩, _, _, _, _⟩ :: _) _ _; refine WLA.cq rfl rfl (IndexByte_trA) ?_) | (refine WPA.ifT ?_) | (refine WPA.ifF ?_) | (refine WLA.no rfl rfl ?_) | ((first | refine WPA.dec ?_ | ((fail_if_success (guard_target =~ WLA _ _ _ _ _ _ (put1 _ _ (.bool true)) _)); (fail_if_success (guard_target =~ WLA _ _ _ _ _ _ (put1 _ _ (.bool false)) _)); refine WLA.dec rfl rfl ?_) | refine WLA.pk ?_); first | refine .inl ⟨by first | assumption | omega | with_reducible rfl | (refine fun h => h ?_; first | assumption | with_reducible rfl) | (simp only [lenS] <;> omega) | decide, ?_⟩ | refine .inr ⟨by first | assumption | omega | with_reducible rfl | (refine fun h => h ?_; first | assumption | with_reducible rfl) | (simp only [lenS] <;> omega) | decide, ?_⟩) | ((first | refine WPA.ifBt ?_ ?_ | refine WPA.ifBnf ?_ ?_); assumption) | ((first | refine WPA.ifBnt ?_ ?_ | refine WPA.ifBf ?_ ?_); assumption) | ((first | refine WPA.ifs ?_ ?_ | refine WPA.ifB ?_ ?_) <;> intro hc) | ((fail_if_success (guard_target =~ WLA _ _ _ _ _ _ (put1 _ _ (.bool true)) _)); (fail_if_success (guard_target =~ WLA _ _ _ _ _ _ (put1 _ _ (.bool false)) _)); (first | refine WLA.both rfl rfl ?_ ?_ | refine WLA.bothB rfl rfl ?_ ?_) <;> intro hg))
    all_goals (try rw [e])
    all_goals exact QQ.end_ rfl () rfl fun w h => h
  · skip
    repeat' (first | ((rw [hb0])) | (guard_target =~ WLA _ _ _ _ _ (⟨_, .pick _ _ _, _, _, _, _⟩ :: _) _ _; first | refine WLA.pickT (by decide) ?_ | refine WLA.pickF (by decide) ?_) | ((first | refine WLA.m rfl rfl ?_ ?_ | refine WLA.st rfl ?_ ?_ | refine WLA.x rfl rfl ?_ (fun x => ?_) | refine WLA.x0 rfl ?_ (fun x => ?_)); first | exact trivial | exact rfl | assumption | omega | (refine ⟨?_, ?_⟩ <;> omega) | (simp only [Room, lenS]; omega) | decide | skip) | (refine Stp.go ?_) | (guard_target =~ WLA _ _ _ _ _ (⟨_, .call ⟨.value (.func 114), _, _⟩, _, _, _, _⟩ :: _) _ _; refine WLA.cq rfl rfl (IndexByte_trA) ?_) | (refine WPA.ifT ?_) | (refine WPA.ifF ?_) | (refine WLA.no rfl rfl ?_) | ((first | refine WPA.dec ?_ | ((fail_if_success (guard_target =~ WLA _ _ _ _ _ _ (put1 _ _ (.bool true)) _)); (fail_if_success (guard_target =~ WLA _ _ _ _ _ _ (put1 _ _ (.bool false)) _)); refine WLA.dec rfl rfl ?_) | refine WLA.pk ?_); first | refine .inl ⟨by first | assumption | omega | with_reducible rfl | (refine fun h => h ?_; first | assumption | with_reducible rfl) | (simp only [lenS] <;> omega) | decide, ?_⟩ | refine .inr ⟨by first | assumption | omega | with_reducible rfl | (refine fun h => h ?_; first | assumption | with_reducible rfl) | (simp only [lenS] <;> omega) | decide, ?_⟩) | ((first | refine WPA.ifBt ?_ ?_ | refine WPA.ifBnf ?_ ?_); assumption) | ((first | refine WPA.ifBnt ?_ ?_ | refine WPA.ifBf ?_ ?_); assumption) | ((first | refine WPA.ifs ?_ ?_ | refine WPA.ifB ?_ ?_) <;> intro hc) | ((fail_if_success (guard_target =~ WLA _ _ _ _ _ _ (put1 _ _ (.bool true)) _)); (fail_if_success (guard_target =~ WLA _ _ _ _ _ _ (put1 _ _ (.bool false)) _)); (first | refine WLA.both rfl rfl ?_ ?_ | refine WLA.bothB rfl rfl ?_ ?_) <;> intro hg))
    all_goals exact QQ.end_ rfl () rfl fun w h => h
theorem Index_trA : TrP Tryz.prog 111 #[.string s, .string (oneB c)] (SL w0 I L) (.int .i64 (atB s c)) := by
  refine TrP.ofD fun u => Tr.intro Tryz.func111 rfl Tryz.ntmps111 rfl ?_
  repeat' (first | ((first | refine WLA.m rfl rfl ?_ ?_ | refine WLA.st rfl ?_ ?_ | refine WLA.x rfl rfl ?_ (fun x => ?_) | refine WLA.x0 rfl ?_ (fun x => ?_)); first | exact trivial | exact rfl | assumption | omega | (refine ⟨?_, ?_⟩ <;> omega) | (simp only [Room, lenS]; omega) | decide | skip) | (refine Stp.go ?_) | (guard_target =~ WLA _ _ _ _ _ (⟨_, .call ⟨.value (.func 106), _, _⟩, _, _, _, _⟩ :: _) _ _; refine WLA.cq rfl rfl (lIndex_trA) ?_) | (refine WPA.ifT ?_) | (refine WPA.ifF ?_) | ((first | refine WPA.dec ?_); first | refine .inl ⟨by first | assumption | omega | with_reducible rfl | (refine fun h => h ?_; first | assumption | with_reducible rfl) | (simp only [lenS] <;> omega) | decide, ?_⟩ | refine .inr ⟨by first | assumption | omega | with_reducible rfl | (refine fun h => h ?_; first | assumption | with_reducible rfl) | (simp only [lenS] <;> omega) | decide, ?_⟩) | ((first | refine WPA.ifBt ?_ ?_ | refine WPA.ifBnf ?_ ?_); assumption) | ((first | refine WPA.ifBnt ?_ ?_ | refine WPA.ifBf ?_ ?_); assumption) | ((first | refine WPA.ifs ?_ ?_ | refine WPA.ifB ?_ ?_) <;> intro hc))
  exact QQ.end_ rfl () rfl fun w h => h
def cntB (s : ByteArray) (c : UInt8) : Nat := Lib.countByte s.data.toList c
theorem Count_trA : TrP Tryz.prog 110 #[.string s, .string (oneB c)] (SL w0 I L) (.int .i64 (cntB s c)) := by
  refine TrP.ofD fun u => Tr.intro Tryz.func110 rfl Tryz.ntmps110 rfl ?_
  have hs1 : ((oneB c).size : Int) = 1 := rfl
  have hs0 : ¬ ((oneB c).size : Int) = 0 := by rw [hs1]; decide
  have hb0 := oneB_bt c
  have h01 : (0 : Int) ≤ 0 ∧ (0 : Int) < (oneB c).size := by rw [hs1]; decide
  have hr := fun w : World => Lib.run_countString (P := Tryz.prog) s (c.toNat : Int) w
  rw [toU8] at hr
  repeat' (first | ((rw [hb0])) | (guard_target =~ WLA _ _ _ _ _ (⟨_, .call ⟨.value (.func 120), _, _⟩, _, _, _, _⟩ :: _) _ _; refine WLA.extA (fn := Tryz.f120) (e := Extern.BytealgCount.count) rfl (by kernel_rfl) (by kernel_rfl) (by kernel_rfl) (by kernel_rfl) hr rfl rfl ?_) | ((first | refine WLA.m rfl rfl ?_ ?_ | refine WLA.st rfl ?_ ?_ | refine WLA.x rfl rfl ?_ (fun x => ?_) | refine WLA.x0 rfl ?_ (fun x => ?_)); first | exact trivial | exact rfl | assumption | omega | (refine ⟨?_, ?_⟩ <;> omega) | (simp only [Room, lenS]; omega) | decide | skip) | (refine Stp.go ?_) | (refine WPA.ifT ?_) | (refine WPA.ifF ?_) | ((first | refine WPA.dec ?_); first | refine .inl ⟨by first | assumption | omega | with_reducible rfl | (refine fun h => h ?_; first | assumption | with_reducible rfl) | (simp only [lenS] <;> omega) | decide, ?_⟩ | refine .inr ⟨by first | assumption | omega | with_reducible rfl | (refine fun h => h ?_; first | assumption | with_reducible rfl) | (simp only [lenS] <;> omega) | decide, ?_⟩) | ((first | refine WPA.ifBt ?_ ?_ | refine WPA.ifBnf ?_ ?_); assumption) | ((first | refine WPA.ifBnt ?_ ?_ | refine WPA.ifBf ?_ ?_); assumption) | ((first | refine WPA.ifs ?_ ?_ | refine WPA.ifB ?_ ?_) <;> intro hc))
  exact QQ.end_ rfl () rfl fun w h => h
end
end Go.Proofs.YthkhneimfjaohaaGreatDoor
namespace Go.Proofs.YthkhneimfjaohaaGreatDoor
open Go Go.Fw Go.RowKit
set_option linter.unusedVariables false
set_option linter.unusedSimpArgs false
set_option maxRecDepth 100000
set_option maxHeartbeats 16000000
set_option synthInstance.maxHeartbeats 200000
set_option synthInstance.maxSize 100000
attribute [local irreducible] WPA WLA WDA WDQ WDE QQ seqQ blockQ loopQ fnQ OpP OpT Tr TrP SL SLd OwnS LitS Bk BkE Ob
theorem ib_specA : ∀ (l : List UInt8) (c : UInt8), (Lib.indexByte l c = -1 ∧ ∀ j : Nat, l[j]? ≠ some c) ∨ ∃ i : Nat, Lib.indexByte l c = i ∧ l[i]? = some c ∧ ∀ j : Nat, j < i → l[j]? ≠ some c
  | [], c => .inl ⟨rfl, by simp⟩
  | b :: l, c => by
    unfold Lib.indexByte
    by_cases hb : b = c
    · subst hb
      exact .inr ⟨0, by simp, by simp, fun j hj => by omega⟩
    · rw [if_neg (by simpa using hb)]
      rcases ib_specA l c with ⟨h1, h2⟩ | ⟨i, h1, h2, h3⟩
      · left
        refine ⟨by rw [h1]; rfl, fun j => ?_⟩
        cases j with
        | zero => simpa using hb
        | succ j => simpa using h2 j
      · right
        refine ⟨i + 1, by rw [h1, if_neg (by simp)]; rfl, by simpa using h2, fun j hj => ?_⟩
        cases j with
        | zero => simpa using hb
        | succ j => simpa using h3 j (by omega)
theorem at_range (s : ByteArray) (c : UInt8) : -1 ≤ atB s c ∧ atB s c < s.size := by
  unfold atB
  rcases ib_specA s.data.toList c with ⟨h1, h2⟩ | ⟨i, h1, h2, h3⟩
  · rw [h1]; exact ⟨by omega, by omega⟩
  · rw [h1]
    have := (List.getElem?_eq_some_iff.1 h2).1
    rw [Array.length_toList] at this
    have e : s.data.size = s.size := rfl
    omega
def aftB (s : ByteArray) (c : UInt8) : ByteArray := s.extract (atB s c + 1).toNat s.size
def befB (s : ByteArray) (c : UInt8) : ByteArray := s.extract 0 (atB s c).toNat
theorem aft_size {s : ByteArray} {c : UInt8} (h : 0 ≤ atB s c) : (aftB s c).size < s.size := by
  have := at_range s c
  unfold aftB; rw [ByteArray.size_extract]; omega
theorem cnt_none {s : ByteArray} {c : UInt8} (h : ¬ 0 ≤ atB s c) : cntB s c = 0 := by
  unfold cntB Lib.countByte
  rcases ib_specA s.data.toList c with ⟨h1, h2⟩ | ⟨i, h1, h2, h3⟩
  · refine List.count_eq_zero.2 fun hm => ?_
    obtain ⟨j, hj, e⟩ := List.getElem_of_mem hm
    exact h2 j (by rw [List.getElem?_eq_getElem hj, e])
  · exact absurd (show 0 ≤ atB s c by unfold atB; rw [h1]; omega) h
theorem cnt_some {s : ByteArray} {c : UInt8} (h : 0 ≤ atB s c) : cntB s c = cntB (aftB s c) c + 1 := by
  unfold cntB Lib.countByte
  rcases ib_specA s.data.toList c with ⟨h1, h2⟩ | ⟨i, h1, h2, h3⟩
  · exact absurd h (by unfold atB; rw [h1]; omega)
  · have hi : atB s c = i := h1
    obtain ⟨hl, hc⟩ := List.getElem?_eq_some_iff.1 h2
    have e : (aftB s c).data.toList = s.data.toList.drop (i + 1) := by
      unfold aftB
      rw [hi]
      have e1 : ((i : Int) + 1).toNat = i + 1 := by omega
      have e2 : s.data.toList.length = s.size := by rw [Array.length_toList]; rfl
      rw [e1]
      simp only [ByteArray.data_extract, Array.toList_extract, List.extract_eq_take_drop]
      rw [List.take_of_length_le (by rw [List.length_drop, e2]; exact Nat.le_refl _)]
    rw [e]
    have ht : (s.data.toList.take i).count c = 0 := List.count_eq_zero.2 fun hm => by
      obtain ⟨j, hj, e⟩ := List.getElem_of_mem hm
      rw [List.length_take] at hj
      rw [List.getElem_take] at e
      exact h3 j (by omega) (by rw [List.getElem?_eq_getElem (by omega), e])
    conv => lhs; rw [← List.take_append_drop i s.data.toList, List.count_append, ht, List.drop_eq_getElem_cons hl, hc, List.count_cons_self]
    omega
def splF (c : UInt8) : Nat → ByteArray → List ByteArray
  | 0, s => [s]
  | n + 1, s => befB s c :: splF c n (aftB s c)
def splB (s : ByteArray) (c : UInt8) : List ByteArray := splF c (cntB s c) s
theorem splF_len (c : UInt8) : ∀ (n : Nat) (s : ByteArray), (splF c n s).length = n + 1
  | 0, s => rfl
  | n + 1, s => by rw [splF, List.length_cons, splF_len c n]
theorem cnt_le (s : ByteArray) (c : UInt8) : cntB s c ≤ s.size := by
  unfold cntB Lib.countByte
  have := List.count_le_length (a := c) (l := s.data.toList)
  rw [Array.length_toList] at this; exact this
section
variable {s : ByteArray} {c : UInt8} {L : List HP} {w0 : World} {I : Foot}
theorem sCut_trA (hsz : s.size ≤ 1000000) : TrP Tryz.prog 92 #[.string s, .string (oneB c)] (SL w0 I L) (.tuple #[.string (if 0 ≤ atB s c then befB s c else s), .string (if 0 ≤ atB s c then aftB s c else ⟨#[]⟩), .bool (decide (0 ≤ atB s c))]) := by
  refine TrP.ofD fun u => Tr.intro Tryz.func92 rfl Tryz.ntmps92 rfl ?_
  have hr := at_range s c
  have hs1 : ((oneB c).size : Int) = 1 := rfl
  by_cases h0 : 0 ≤ atB s c
  · have hb : atB s c + ((oneB c).size : Int) ≤ s.size := by omega
    repeat' (first | ((first | refine WLA.m rfl rfl ?_ ?_ | refine WDQ.m rfl rfl ?_ ?_ | refine WLA.st rfl ?_ ?_ | refine WLA.x rfl rfl ?_ (fun x => ?_) | refine WLA.x0 rfl ?_ (fun x => ?_)); first | exact trivial | exact rfl | assumption | omega | (refine ⟨?_, ?_⟩ <;> omega) | (simp only [Room, lenS]; omega) | decide | skip) | (refine Stp.go ?_) | (guard_target =~ WLA _ _ _ _ _ (⟨_, .call ⟨.value (.func 106), _, _⟩, _, _, _, _⟩ :: _) _ _; refine WLA.cq rfl rfl (lIndex_trA) ?_) | (refine WPA.ifT ?_) | (refine WPA.ifF ?_) | ((first | refine WPA.dec ?_); first | refine .inl ⟨by first | assumption | omega | with_reducible rfl | (refine fun h => h ?_; first | assumption | with_reducible rfl) | (simp only [lenS] <;> omega) | decide, ?_⟩ | refine .inr ⟨by first | assumption | omega | with_reducible rfl | (refine fun h => h ?_; first | assumption | with_reducible rfl) | (simp only [lenS] <;> omega) | decide, ?_⟩) | ((first | refine WPA.ifBt ?_ ?_ | refine WPA.ifBnf ?_ ?_); assumption) | ((first | refine WPA.ifBnt ?_ ?_ | refine WPA.ifBf ?_ ?_); assumption) | ((first | refine WPA.ifs ?_ ?_ | refine WPA.ifB ?_ ?_) <;> intro hc) | (guard_target =~ WPA _ _ _ (.region 3 _ true) _ _ _; refine WPA.drawT 10 (.q 0 (.q 1 (.q 2 (.q 3 (.q 4 (.q 5 (.q 6 (.q 7 (.q 8 (.q 9 .fin)))))))))) mixed ?_ ?_; kernel_rfl) | (refine WDA.finish (tl := [⟨_, _, _, _, _, _⟩, ⟨_, _, _, _, _, _⟩]) rfl ?_) | (refine WDQ.see rfl ?_) | (guard_target =~ WDQ _ _ _ _ _ _ _ ⟨_, .call ⟨.value (.func 106), _, _⟩, _, _, _, _⟩ _ _ _; refine WDQ.cq rfl rfl (lIndex_trA) ?_))
    refine QQ.end_ rfl () ?_ fun w h => h
    rw [if_pos h0, if_pos h0, decide_eq_true h0]; rfl
  · skip
    repeat' (first | ((first | refine WLA.m rfl rfl ?_ ?_ | refine WDQ.m rfl rfl ?_ ?_ | refine WLA.st rfl ?_ ?_ | refine WLA.x rfl rfl ?_ (fun x => ?_) | refine WLA.x0 rfl ?_ (fun x => ?_)); first | exact trivial | exact rfl | assumption | omega | (refine ⟨?_, ?_⟩ <;> omega) | (simp only [Room, lenS]; omega) | decide | skip) | (refine Stp.go ?_) | (guard_target =~ WLA _ _ _ _ _ (⟨_, .call ⟨.value (.func 106), _, _⟩, _, _, _, _⟩ :: _) _ _; refine WLA.cq rfl rfl (lIndex_trA) ?_) | (refine WPA.ifT ?_) | (refine WPA.ifF ?_) | ((first | refine WPA.dec ?_); first | refine .inl ⟨by first | assumption | omega | with_reducible rfl | (refine fun h => h ?_; first | assumption | with_reducible rfl) | (simp only [lenS] <;> omega) | decide, ?_⟩ | refine .inr ⟨by first | assumption | omega | with_reducible rfl | (refine fun h => h ?_; first | assumption | with_reducible rfl) | (simp only [lenS] <;> omega) | decide, ?_⟩) | ((first | refine WPA.ifBt ?_ ?_ | refine WPA.ifBnf ?_ ?_); assumption) | ((first | refine WPA.ifBnt ?_ ?_ | refine WPA.ifBf ?_ ?_); assumption) | ((first | refine WPA.ifs ?_ ?_ | refine WPA.ifB ?_ ?_) <;> intro hc) | (guard_target =~ WPA _ _ _ (.region 3 _ true) _ _ _; refine WPA.drawT 10 (.q 0 (.q 1 (.q 2 (.q 3 (.q 4 (.q 5 (.q 6 (.q 7 (.q 8 (.q 9 .fin)))))))))) mixed ?_ ?_; kernel_rfl) | (refine WDA.finish (tl := [⟨_, _, _, _, _, _⟩, ⟨_, _, _, _, _, _⟩]) rfl ?_) | (refine WDQ.see rfl ?_) | (guard_target =~ WDQ _ _ _ _ _ _ _ ⟨_, .call ⟨.value (.func 106), _, _⟩, _, _, _, _⟩ _ _ _; refine WDQ.cq rfl rfl (lIndex_trA) ?_))
    refine QQ.end_ rfl () ?_ fun w h => h
    rw [if_neg h0, if_neg h0, decide_eq_false h0]
theorem Cut_trA (hsz : s.size ≤ 1000000) : TrP Tryz.prog 73 #[.string s, .string (oneB c)] (SL w0 I L) (.tuple #[.string (if 0 ≤ atB s c then befB s c else s), .string (if 0 ≤ atB s c then aftB s c else ⟨#[]⟩), .bool (decide (0 ≤ atB s c))]) := by
  refine TrP.ofD fun u => Tr.intro Tryz.func73 rfl Tryz.ntmps73 rfl ?_
  repeat' (first | ((first | refine WLA.m rfl rfl ?_ ?_ | refine WLA.st rfl ?_ ?_ | refine WLA.x rfl rfl ?_ (fun x => ?_) | refine WLA.x0 rfl ?_ (fun x => ?_)); first | exact trivial | exact rfl | assumption | omega | (refine ⟨?_, ?_⟩ <;> omega) | (simp only [Room, lenS]; omega) | decide | skip) | (refine Stp.go ?_) | (guard_target =~ WLA _ _ _ _ _ (⟨_, .call ⟨.value (.func 92), _, _⟩, _, _, _, _⟩ :: _) _ _; refine WLA.cq rfl rfl (sCut_trA hsz) ?_) | (refine WPA.ifT ?_) | (refine WPA.ifF ?_) | ((first | refine WPA.dec ?_); first | refine .inl ⟨by first | assumption | omega | with_reducible rfl | (refine fun h => h ?_; first | assumption | with_reducible rfl) | (simp only [lenS] <;> omega) | decide, ?_⟩ | refine .inr ⟨by first | assumption | omega | with_reducible rfl | (refine fun h => h ?_; first | assumption | with_reducible rfl) | (simp only [lenS] <;> omega) | decide, ?_⟩) | ((first | refine WPA.ifBt ?_ ?_ | refine WPA.ifBnf ?_ ?_); assumption) | ((first | refine WPA.ifBnt ?_ ?_ | refine WPA.ifBf ?_ ?_); assumption) | ((first | refine WPA.ifs ?_ ?_ | refine WPA.ifB ?_ ?_) <;> intro hc))
  exact QQ.end_ rfl () rfl fun w h => h
theorem gen_tr (hsz : s.size ≤ 1000000) : Tr Tryz.prog 95 #[.string s, .string (oneB c), .int .i64 0, .int .i64 (-1)] (SL w0 I L) (fun x : SV × Foot => .slice x.1.a x.1.n x.1.cap) (fun x w => (SubI x.2 I ∧ SlI x.2 x.1 ByteArray inferInstance (splB s c)) ∧ SL w0 x.2 L w) := by
  refine Tr.intro Tryz.func95 rfl Tryz.ntmps95 rfl ?_
  have hne : ¬ oneB c = ⟨#[]⟩ := fun e => by have := congrArg ByteArray.size e; rw [oneB_sz] at this; exact absurd this (by decide)
  have hcl := cnt_le s c
  obtain ⟨N, hN⟩ : ∃ N, cntB s c = N := ⟨_, rfl⟩
  have hct := fun {L : List HP} => Count_trA (s := s) (c := c) (w0 := w0) (I := I) (L := L)
  rw [hN] at hct hcl
  have hmin : min ((N : Int) + 1) ((s.size : Int) + 1) = (N : Int) + 1 := Int.min_eq_left (by omega)
  have hb1 : (0 ≤ (N : Int) + 1 ∧ (N : Int) + 1 ≤ (N : Int) + 1) := by omega
  have e1 : (N : Int) + 1 - 1 = N := by omega
  have hmk : ((0 : Int) ≤ (N : Int) + 1 ∧ (N : Int) + 1 ≤ (N : Int) + 1) ∧ (((16 : Nat) : Int) * ((N : Int) + 1) ≤ 281474976710656 ∧ (N : Int) + 1 ≤ 9223372036854775807) := by omega
  repeat' (first | ((rw [hmin])) | ((rw [e1])) | ((first | refine WLA.m rfl rfl ?_ ?_ | refine WLA.st rfl ?_ ?_ | refine WLA.x rfl rfl ?_ (fun x => ?_) | refine WLA.x0 rfl ?_ (fun x => ?_)); first | exact trivial | exact rfl | assumption | omega | (refine ⟨?_, ?_⟩ <;> omega) | (simp only [Room, lenS]; omega) | decide | skip) | (refine Stp.go ?_) | (guard_target =~ WLA _ _ _ _ _ (⟨_, .call ⟨.value (.func 110), _, _⟩, _, _, _, _⟩ :: _) _ _; refine WLA.cq rfl rfl (hct) ?_) | (refine WPA.ifT ?_) | (refine WPA.ifF ?_) | ((first | refine WPA.dec ?_); first | refine .inl ⟨by first | assumption | omega | with_reducible rfl | (refine fun h => h ?_; first | assumption | with_reducible rfl) | (simp only [lenS] <;> omega) | decide, ?_⟩ | refine .inr ⟨by first | assumption | omega | with_reducible rfl | (refine fun h => h ?_; first | assumption | with_reducible rfl) | (simp only [lenS] <;> omega) | decide, ?_⟩) | ((first | refine WPA.ifBt ?_ ?_ | refine WPA.ifBnf ?_ ?_); assumption) | ((first | refine WPA.ifBnt ?_ ?_ | refine WPA.ifBf ?_ ?_); assumption) | ((first | refine WPA.ifs ?_ ?_ | refine WPA.ifB ?_ ?_) <;> intro hc))
  revert x; intro v
  have ern : ((N : Int) + 1).toNat = N + 1 := by omega
  refine WPA.loopS (σ := Nat × ByteArray × List ByteArray) (fun y => [(0, .string y.2.1), (1, .string (oneB c)), (2, .int .i64 0), (3, .int .i64 N), (9, .slice v.a v.n v.cap), (10, .int .i64 y.1)])
    (fun y => (y.1 + cntB y.2.1 c = N ∧ y.2.1.size ≤ s.size) ∧ y.2.2.length = N + 1 ∧ y.2.2.take y.1 ++ splF c (cntB y.2.1 c) y.2.1 = splB s c)
    (fun y => SL w0 I (OwnS 9 v y.2.2 :: L)) (fun y => N - y.1) (0, s, List.replicate ((N : Int) + 1).toNat ⟨#[]⟩) ⟨rfl, rfl, rfl, rfl, rfl, rfl, trivial⟩ ⟨⟨by dsimp only; omega, Nat.le_refl _⟩, by dsimp only; rw [List.length_replicate, ern], rfl⟩ (fun w h => by dsimp only; exact h) ?_
  rintro ⟨i, t, xs⟩ ρ ⟨⟨hi, hts⟩, hxl, hsp⟩
  dsimp only at hi hts hxl hsp ⊢
  by_cases hlt : i < N
  · have hlt' : (i : Int) < N := by omega
    have h0 : 0 ≤ atB t c := by
      by_cases h : 0 ≤ atB t c
      · exact h
      · have := cnt_none h; omega
    have hcs := cnt_some h0
    have hr := at_range t c
    have haf := aft_size h0
    have h0' : ¬ atB t c < 0 := by omega
    have he0 : atB t c + 0 = atB t c := by omega
    have he1 : atB t c + ((oneB c).size : Int) = atB t c + 1 := rfl
    have hir : (0 : Int) ≤ i ∧ (i : Int) < xs.length := by omega
    have hb0 : ((0 : Int) ≤ 0 ∧ (0 : Int) ≤ atB t c) ∧ atB t c ≤ t.size := by omega
    have hb2 : ((0 : Int) ≤ atB t c + 1 ∧ atB t c + 1 ≤ t.size) ∧ (t.size : Int) ≤ t.size := by omega
    have hix := fun {L : List HP} => Index_trA (s := t) (c := c) (w0 := w0) (I := I) (L := L)
    repeat' (first | ((rw [he0])) | ((rw [he1])) | ((first | refine WLA.m rfl rfl ?_ ?_ | refine WLA.st rfl ?_ ?_ | refine WLA.x rfl rfl ?_ (fun x => ?_) | refine WLA.x0 rfl ?_ (fun x => ?_)); first | exact trivial | exact rfl | assumption | omega | (refine ⟨?_, ?_⟩ <;> omega) | (simp only [Room, lenS]; omega) | decide | skip) | (refine Stp.go ?_) | (guard_target =~ WLA _ _ _ _ _ (⟨_, .call ⟨.value (.func 111), _, _⟩, _, _, _, _⟩ :: _) _ _; refine WLA.cq rfl rfl (hix) ?_) | (refine WPA.ifT ?_) | (refine WPA.ifF ?_) | ((first | refine WPA.dec ?_); first | refine .inl ⟨by first | assumption | omega | with_reducible rfl | (refine fun h => h ?_; first | assumption | with_reducible rfl) | (simp only [lenS] <;> omega) | decide, ?_⟩ | refine .inr ⟨by first | assumption | omega | with_reducible rfl | (refine fun h => h ?_; first | assumption | with_reducible rfl) | (simp only [lenS] <;> omega) | decide, ?_⟩) | ((first | refine WPA.ifBt ?_ ?_ | refine WPA.ifBnf ?_ ?_); assumption) | ((first | refine WPA.ifBnt ?_ ?_ | refine WPA.ifBf ?_ ?_); assumption) | ((first | refine WPA.ifs ?_ ?_ | refine WPA.ifB ?_ ?_) <;> intro hc))
    refine QQ.loopS (i + 1, aftB t c, xs.set i (befB t c)) ⟨rfl, rfl, rfl, rfl, rfl, rfl, trivial⟩ ⟨⟨by dsimp only; omega, by dsimp only; omega⟩, by dsimp only; rw [List.length_set]; exact hxl, ?_⟩ (by dsimp only; omega) (fun w h => h)
    dsimp only
    rw [← hsp, hcs, splF, List.take_add_one, List.getElem?_eq_getElem (by rw [List.length_set]; omega), List.getElem_set_self, List.take_set_of_le (Nat.le_refl i), List.append_assoc]
    rfl
  · have hlt' : ¬ (i : Int) < N := by omega
    have hiN : i = N := by omega
    subst hiN
    have hc0 : cntB t c = 0 := by omega
    rw [hc0] at hsp
    have hir : (0 : Int) ≤ i ∧ (i : Int) < xs.length := by omega
    repeat' ((fail_if_success (guard_target =~ WPA _ _ _ (.region 18 _ _) _ _ _)); first | ((first | refine WLA.m rfl rfl ?_ ?_ | refine WLA.st rfl ?_ ?_ | refine WLA.x rfl rfl ?_ (fun x => ?_) | refine WLA.x0 rfl ?_ (fun x => ?_)); first | exact trivial | exact rfl | assumption | omega | (refine ⟨?_, ?_⟩ <;> omega) | (simp only [Room, lenS]; omega) | decide | skip) | (refine Stp.go ?_) | (refine WPA.ifT ?_) | (refine WPA.ifF ?_) | ((first | refine WPA.dec ?_); first | refine .inl ⟨by first | assumption | omega | with_reducible rfl | (refine fun h => h ?_; first | assumption | with_reducible rfl) | (simp only [lenS] <;> omega) | decide, ?_⟩ | refine .inr ⟨by first | assumption | omega | with_reducible rfl | (refine fun h => h ?_; first | assumption | with_reducible rfl) | (simp only [lenS] <;> omega) | decide, ?_⟩) | ((first | refine WPA.ifBt ?_ ?_ | refine WPA.ifBnf ?_ ?_); assumption) | ((first | refine WPA.ifBnt ?_ ?_ | refine WPA.ifBf ?_ ?_); assumption) | ((first | refine WPA.ifs ?_ ?_ | refine WPA.ifB ?_ ?_) <;> intro hc))
    have hxs : xs.set i t = splB s c := by
      rw [← hsp]
      refine List.ext_getElem (by rw [List.length_set, List.length_append, List.length_take, splF_len]; omega) fun j j1 j2 => ?_
      rw [List.length_set] at j1
      by_cases hj : j = i
      · subst hj
        rw [List.getElem_set_self, List.getElem_append_right (by rw [List.length_take]; omega)]
        simp [splF]
      · rw [List.getElem_set_ne (by omega), List.getElem_append_left (by rw [List.length_take]; omega), List.getElem_take]
    have hil : ((i : Int)).toNat = i := by omega
    rw [hil, hxs]
    have hsl : (splB s c).length = i + 1 := by rw [← hxs, List.length_set]; omega
    refine WPA.freeze fun R hR => ?_
    have sv : SlI (R ++ I) v ByteArray inferInstance (splB s c) := by have := SlI.ofOwn hR; infer_instance
    have hb3 : ((0 : Int) ≤ 0 ∧ (0 : Int) ≤ (i : Int) + 1) ∧ (i : Int) + 1 ≤ (splB s c).length := by omega
    have hb4 : (0 : Int) ≤ 0 ∧ (0 : Int) ≤ (i : Int) + 1 := by omega
    have hb5 : (i : Int) + 1 ≤ (splB s c).length := by omega
    have hsx : SlI (R ++ I) (v.cut 1 0 ((i : Int) + 1)) ByteArray inferInstance (splB s c) := by
      have e : splB s c = cutL (splB s c) 0 ((i : Int) + 1) := by
        unfold cutL; rw [if_pos (by omega), show Int.toNat 0 = 0 from rfl, List.drop_zero, List.take_of_length_le (by omega)]
      conv => rhs; rw [e]
      infer_instance
    repeat' (first | ((first | refine WLA.m rfl rfl ?_ ?_ | refine WLA.st rfl ?_ ?_ | refine WLA.x rfl rfl ?_ (fun x => ?_) | refine WLA.x0 rfl ?_ (fun x => ?_)); first | exact trivial | exact rfl | assumption | omega | (refine ⟨?_, ?_⟩ <;> omega) | (simp only [Room, lenS]; omega) | decide | skip) | (refine Stp.go ?_) | (refine WPA.ifT ?_) | (refine WPA.ifF ?_) | ((first | refine WPA.dec ?_); first | refine .inl ⟨by first | assumption | omega | with_reducible rfl | (refine fun h => h ?_; first | assumption | with_reducible rfl) | (simp only [lenS] <;> omega) | decide, ?_⟩ | refine .inr ⟨by first | assumption | omega | with_reducible rfl | (refine fun h => h ?_; first | assumption | with_reducible rfl) | (simp only [lenS] <;> omega) | decide, ?_⟩) | ((first | refine WPA.ifBt ?_ ?_ | refine WPA.ifBnf ?_ ?_); assumption) | ((first | refine WPA.ifBnt ?_ ?_ | refine WPA.ifBf ?_ ?_); assumption) | ((first | refine WPA.ifs ?_ ?_ | refine WPA.ifB ?_ ?_) <;> intro hc))
    exact QQ.end_ rfl (v.cut 1 0 ((i : Int) + 1), R ++ I) rfl fun w h => ⟨⟨inferInstance, hsx⟩, h.to⟩
theorem Split_tr (hsz : s.size ≤ 1000000) : Tr Tryz.prog 76 #[.string s, .string (oneB c)] (SL w0 I L) (fun x : SV × Foot => .slice x.1.a x.1.n x.1.cap) (fun x w => (SubI x.2 I ∧ SlI x.2 x.1 ByteArray inferInstance (splB s c)) ∧ SL w0 x.2 L w) := by
  refine Tr.intro Tryz.func76 rfl Tryz.ntmps76 rfl ?_
  repeat' (first | ((first | refine WLA.m rfl rfl ?_ ?_ | refine WLA.st rfl ?_ ?_ | refine WLA.x rfl rfl ?_ (fun x => ?_) | refine WLA.x0 rfl ?_ (fun x => ?_)); first | exact trivial | exact rfl | assumption | omega | (refine ⟨?_, ?_⟩ <;> omega) | (simp only [Room, lenS]; omega) | decide | skip) | (refine Stp.go ?_) | (guard_target =~ WLA _ _ _ _ _ (⟨_, .call ⟨.value (.func 95), _, _⟩, _, _, _, _⟩ :: _) _ _; refine WLA.call rfl rfl (gen_tr hsz) ?_; rintro ⟨v, J⟩; dsimp only; refine WLA.pure fun hv => ?_) | (refine WPA.ifT ?_) | (refine WPA.ifF ?_) | ((first | refine WPA.dec ?_); first | refine .inl ⟨by first | assumption | omega | with_reducible rfl | (refine fun h => h ?_; first | assumption | with_reducible rfl) | (simp only [lenS] <;> omega) | decide, ?_⟩ | refine .inr ⟨by first | assumption | omega | with_reducible rfl | (refine fun h => h ?_; first | assumption | with_reducible rfl) | (simp only [lenS] <;> omega) | decide, ?_⟩) | ((first | refine WPA.ifBt ?_ ?_ | refine WPA.ifBnf ?_ ?_); assumption) | ((first | refine WPA.ifBnt ?_ ?_ | refine WPA.ifBf ?_ ?_); assumption) | ((first | refine WPA.ifs ?_ ?_ | refine WPA.ifB ?_ ?_) <;> intro hc))
  exact QQ.end_ rfl (v, J) rfl fun w h => ⟨hv, h.to⟩
end
end Go.Proofs.YthkhneimfjaohaaGreatDoor
