/- Texts that TallyFree_law leans on, part 7. Conditions: none. -/
import Derived.Test.YtamnobjdgjbmbaaGreatQf6
namespace Go.Proofs.YtamnobjdgjbmbaaGreat
open Go Go.Fw Go.RowKit
set_option linter.unusedVariables false
set_option linter.unusedSimpArgs false
set_option maxRecDepth 100000
set_option maxHeartbeats 16000000
set_option synthInstance.maxHeartbeats 200000
set_option synthInstance.maxSize 100000
attribute [local irreducible] WPA WLA WDA WDQ WDE QQ seqQ blockQ loopQ fnQ OpP OpT Tr TrP SL SLd OwnS LitS Bk BkE Ob
section
variable {L : List HP} {w0 : World} {I : Foot}
theorem isNaN_tr {a : Int} : TrP Tryz.prog 125 #[.int .i64 a] (SL w0 I L) (.bool false) := by
  refine TrP.ofD fun u => Tr.intro Tryz.func125 rfl Tryz.ntmps125 rfl ?_
  repeat' (first | ((first | refine WLA.m rfl rfl ?_ ?_ | refine WLA.st rfl ?_ ?_ | refine WLA.x rfl rfl ?_ (fun x => ?_) | refine WLA.x0 rfl ?_ (fun x => ?_)); first | exact trivial | exact rfl | assumption | omega | (refine ⟨?_, ?_⟩ <;> omega) | (simp only [Room, lenS]; omega) | decide | skip) | (refine Stp.go ?_) | (refine WPA.ifT ?_) | (refine WPA.ifF ?_) | ((first | refine WPA.dec ?_); first | refine .inl ⟨by first | assumption | omega | with_reducible rfl | (refine fun h => h ?_; first | assumption | with_reducible rfl) | (simp only [lenS] <;> omega) | decide, ?_⟩ | refine .inr ⟨by first | assumption | omega | with_reducible rfl | (refine fun h => h ?_; first | assumption | with_reducible rfl) | (simp only [lenS] <;> omega) | decide, ?_⟩) | ((first | refine WPA.ifBt ?_ ?_ | refine WPA.ifBnf ?_ ?_); assumption) | ((first | refine WPA.ifBnt ?_ ?_ | refine WPA.ifBf ?_ ?_); assumption) | ((first | refine WPA.ifs ?_ ?_ | refine WPA.ifB ?_ ?_) <;> intro hc))
  exact QQ.end_ rfl () (by simp) fun w h => h
def cmpI (a b : Int) : Int := if a < b then -1 else if b < a then 1 else 0
theorem cmpC_tr {a b : Int} : TrP Tryz.prog 119 #[.int .i64 a, .int .i64 b] (SL w0 I L) (.int .i64 (cmpI a b)) := by
  refine TrP.ofD fun u => Tr.intro Tryz.func119 rfl Tryz.ntmps119 rfl ?_
  by_cases h1 : a < b
  · skip
    repeat' (first | ((first | refine WLA.m rfl rfl ?_ ?_ | refine WLA.st rfl ?_ ?_ | refine WLA.x rfl rfl ?_ (fun x => ?_) | refine WLA.x0 rfl ?_ (fun x => ?_)); first | exact trivial | exact rfl | assumption | omega | (refine ⟨?_, ?_⟩ <;> omega) | (simp only [Room, lenS]; omega) | decide | skip) | (refine Stp.go ?_) | (guard_target =~ WLA _ _ _ _ _ (⟨_, .call ⟨.value (.func 125), _, _⟩, _, _, _, _⟩ :: _) _ _; refine WLA.cq rfl rfl (isNaN_tr) ?_) | (refine WPA.ifT ?_) | (refine WPA.ifF ?_) | ((first | refine WPA.dec ?_); first | refine .inl ⟨by first | assumption | omega | with_reducible rfl | (refine fun h => h ?_; first | assumption | with_reducible rfl) | (simp only [lenS] <;> omega) | decide, ?_⟩ | refine .inr ⟨by first | assumption | omega | with_reducible rfl | (refine fun h => h ?_; first | assumption | with_reducible rfl) | (simp only [lenS] <;> omega) | decide, ?_⟩) | ((first | refine WPA.ifBt ?_ ?_ | refine WPA.ifBnf ?_ ?_); assumption) | ((first | refine WPA.ifBnt ?_ ?_ | refine WPA.ifBf ?_ ?_); assumption) | ((first | refine WPA.ifs ?_ ?_ | refine WPA.ifB ?_ ?_) <;> intro hc))
    exact QQ.end_ rfl () (by rw [cmpI, if_pos h1]) fun w h => h
  · by_cases h2 : b < a
    · skip
      repeat' (first | ((first | refine WLA.m rfl rfl ?_ ?_ | refine WLA.st rfl ?_ ?_ | refine WLA.x rfl rfl ?_ (fun x => ?_) | refine WLA.x0 rfl ?_ (fun x => ?_)); first | exact trivial | exact rfl | assumption | omega | (refine ⟨?_, ?_⟩ <;> omega) | (simp only [Room, lenS]; omega) | decide | skip) | (refine Stp.go ?_) | (guard_target =~ WLA _ _ _ _ _ (⟨_, .call ⟨.value (.func 125), _, _⟩, _, _, _, _⟩ :: _) _ _; refine WLA.cq rfl rfl (isNaN_tr) ?_) | (refine WPA.ifT ?_) | (refine WPA.ifF ?_) | ((first | refine WPA.dec ?_); first | refine .inl ⟨by first | assumption | omega | with_reducible rfl | (refine fun h => h ?_; first | assumption | with_reducible rfl) | (simp only [lenS] <;> omega) | decide, ?_⟩ | refine .inr ⟨by first | assumption | omega | with_reducible rfl | (refine fun h => h ?_; first | assumption | with_reducible rfl) | (simp only [lenS] <;> omega) | decide, ?_⟩) | ((first | refine WPA.ifBt ?_ ?_ | refine WPA.ifBnf ?_ ?_); assumption) | ((first | refine WPA.ifBnt ?_ ?_ | refine WPA.ifBf ?_ ?_); assumption) | ((first | refine WPA.ifs ?_ ?_ | refine WPA.ifB ?_ ?_) <;> intro hc))
      exact QQ.end_ rfl () (by rw [cmpI, if_neg h1, if_pos h2]) fun w h => h
    · skip
      repeat' (first | ((first | refine WLA.m rfl rfl ?_ ?_ | refine WLA.st rfl ?_ ?_ | refine WLA.x rfl rfl ?_ (fun x => ?_) | refine WLA.x0 rfl ?_ (fun x => ?_)); first | exact trivial | exact rfl | assumption | omega | (refine ⟨?_, ?_⟩ <;> omega) | (simp only [Room, lenS]; omega) | decide | skip) | (refine Stp.go ?_) | (guard_target =~ WLA _ _ _ _ _ (⟨_, .call ⟨.value (.func 125), _, _⟩, _, _, _, _⟩ :: _) _ _; refine WLA.cq rfl rfl (isNaN_tr) ?_) | (refine WPA.ifT ?_) | (refine WPA.ifF ?_) | ((first | refine WPA.dec ?_); first | refine .inl ⟨by first | assumption | omega | with_reducible rfl | (refine fun h => h ?_; first | assumption | with_reducible rfl) | (simp only [lenS] <;> omega) | decide, ?_⟩ | refine .inr ⟨by first | assumption | omega | with_reducible rfl | (refine fun h => h ?_; first | assumption | with_reducible rfl) | (simp only [lenS] <;> omega) | decide, ?_⟩) | ((first | refine WPA.ifBt ?_ ?_ | refine WPA.ifBnf ?_ ?_); assumption) | ((first | refine WPA.ifBnt ?_ ?_ | refine WPA.ifBf ?_ ?_); assumption) | ((first | refine WPA.ifs ?_ ?_ | refine WPA.ifB ?_ ?_) <;> intro hc))
      exact QQ.end_ rfl () (by rw [cmpI, if_neg h1, if_neg h2]) fun w h => h
theorem sCompare_tr {a b : SV} {xs ys : List Int} [ha : RdS I L a Int inferInstance xs] [hb : RdS I L b Int inferInstance ys] (hn : xs.length ≤ 1000000000) (hm : ys.length ≤ 1000000000) : TrP Tryz.prog 107 #[.slice a.a a.n a.cap, .slice b.a b.n b.cap] (SL w0 I L) (.int .i64 (cmpL xs ys)) := by
  refine TrP.ofD fun u => Tr.intro Tryz.func107 rfl Tryz.ntmps107 rfl ?_
  repeat' (first | ((first | refine WLA.m rfl rfl ?_ ?_ | refine WLA.st rfl ?_ ?_ | refine WLA.x rfl rfl ?_ (fun x => ?_) | refine WLA.x0 rfl ?_ (fun x => ?_)); first | exact trivial | exact rfl | assumption | omega | (refine ⟨?_, ?_⟩ <;> omega) | (simp only [Room, lenS]; omega) | decide | skip) | (refine Stp.go ?_) | (refine WPA.ifT ?_) | (refine WPA.ifF ?_) | ((first | refine WPA.dec ?_); first | refine .inl ⟨by first | assumption | omega | with_reducible rfl | (refine fun h => h ?_; first | assumption | with_reducible rfl) | (simp only [lenS] <;> omega) | decide, ?_⟩ | refine .inr ⟨by first | assumption | omega | with_reducible rfl | (refine fun h => h ?_; first | assumption | with_reducible rfl) | (simp only [lenS] <;> omega) | decide, ?_⟩) | ((first | refine WPA.ifBt ?_ ?_ | refine WPA.ifBnf ?_ ?_); assumption) | ((first | refine WPA.ifBnt ?_ ?_ | refine WPA.ifBf ?_ ?_); assumption) | ((first | refine WPA.ifs ?_ ?_ | refine WPA.ifB ?_ ?_) <;> intro hc))
  refine WPA.loopS (σ := Nat) (fun i => [(0, .slice a.a a.n a.cap), (1, .slice b.a b.n b.cap), (9, .slice a.a a.n a.cap), (10, .int .i64 xs.length), (11, .int .i64 i)]) (fun i => (i ≤ xs.length ∧ i ≤ ys.length) ∧ cmpL (xs.drop i) (ys.drop i) = cmpL xs ys)
    (fun i => SLd w0 I L u) (fun i => xs.length - i) 0 ⟨rfl, rfl, rfl, rfl, rfl, trivial⟩ ⟨⟨Nat.zero_le _, Nat.zero_le _⟩, rfl⟩ (fun w h => h) ?_
  rintro i ρ ⟨⟨hi, hj⟩, he⟩
  by_cases hx : i < xs.length
  · have hx' : (i : Int) < xs.length := by omega
    by_cases hy : i < ys.length
    · have hy' : (i : Int) < ys.length := by omega
      have hy'' : ¬ (ys.length : Int) ≤ i := by omega
      rw [List.drop_eq_getElem_cons hx, List.drop_eq_getElem_cons hy, cmpL, ← at_nat xs i hx, ← at_nat ys i hy] at he
      by_cases h1 : at_ xs (i : Int) < at_ ys (i : Int)
      · rw [if_pos h1] at he
        have hc : cmpI (at_ xs (i : Int)) (at_ ys (i : Int)) = -1 := by rw [cmpI, if_pos h1]
        have hne : cmpI (at_ xs (i : Int)) (at_ ys (i : Int)) ≠ 0 := by rw [hc]; decide
        repeat' (first | ((first | refine WLA.m rfl rfl ?_ ?_ | refine WLA.st rfl ?_ ?_ | refine WLA.x rfl rfl ?_ (fun x => ?_) | refine WLA.x0 rfl ?_ (fun x => ?_)); first | exact trivial | exact rfl | assumption | omega | (refine ⟨?_, ?_⟩ <;> omega) | (simp only [Room, lenS]; omega) | decide | skip) | (refine Stp.go ?_) | (guard_target =~ WLA _ _ _ _ _ (⟨_, .call ⟨.value (.func 119), _, _⟩, _, _, _, _⟩ :: _) _ _; refine WLA.cq rfl rfl (cmpC_tr) ?_) | (refine WPA.ifT ?_) | (refine WPA.ifF ?_) | ((first | refine WPA.dec ?_); first | refine .inl ⟨by first | assumption | omega | with_reducible rfl | (refine fun h => h ?_; first | assumption | with_reducible rfl) | (simp only [lenS] <;> omega) | decide, ?_⟩ | refine .inr ⟨by first | assumption | omega | with_reducible rfl | (refine fun h => h ?_; first | assumption | with_reducible rfl) | (simp only [lenS] <;> omega) | decide, ?_⟩) | ((first | refine WPA.ifBt ?_ ?_ | refine WPA.ifBnf ?_ ?_); assumption) | ((first | refine WPA.ifBnt ?_ ?_ | refine WPA.ifBf ?_ ?_); assumption) | ((first | refine WPA.ifs ?_ ?_ | refine WPA.ifB ?_ ?_) <;> intro hc))
        rw [← he, hc]
        exact QQ.end_ rfl () rfl fun w h => h
      · rw [if_neg h1] at he
        by_cases h2 : at_ ys (i : Int) < at_ xs (i : Int)
        · rw [if_pos h2] at he
          have hc : cmpI (at_ xs (i : Int)) (at_ ys (i : Int)) = 1 := by rw [cmpI, if_neg h1, if_pos h2]
          have hne : cmpI (at_ xs (i : Int)) (at_ ys (i : Int)) ≠ 0 := by rw [hc]; decide
          repeat' (first | ((first | refine WLA.m rfl rfl ?_ ?_ | refine WLA.st rfl ?_ ?_ | refine WLA.x rfl rfl ?_ (fun x => ?_) | refine WLA.x0 rfl ?_ (fun x => ?_)); first | exact trivial | exact rfl | assumption | omega | (refine ⟨?_, ?_⟩ <;> omega) | (simp only [Room, lenS]; omega) | decide | skip) | (refine Stp.go ?_) | (guard_target =~ WLA _ _ _ _ _ (⟨_, .call ⟨.value (.func 119), _, _⟩, _, _, _, _⟩ :: _) _ _; refine WLA.cq rfl rfl (cmpC_tr) ?_) | (refine WPA.ifT ?_) | (refine WPA.ifF ?_) | ((first | refine WPA.dec ?_); first | refine .inl ⟨by first | assumption | omega | with_reducible rfl | (refine fun h => h ?_; first | assumption | with_reducible rfl) | (simp only [lenS] <;> omega) | decide, ?_⟩ | refine .inr ⟨by first | assumption | omega | with_reducible rfl | (refine fun h => h ?_; first | assumption | with_reducible rfl) | (simp only [lenS] <;> omega) | decide, ?_⟩) | ((first | refine WPA.ifBt ?_ ?_ | refine WPA.ifBnf ?_ ?_); assumption) | ((first | refine WPA.ifBnt ?_ ?_ | refine WPA.ifBf ?_ ?_); assumption) | ((first | refine WPA.ifs ?_ ?_ | refine WPA.ifB ?_ ?_) <;> intro hc))
          rw [← he, hc]
          exact QQ.end_ rfl () rfl fun w h => h
        · rw [if_neg h2] at he
          have hc : ¬ cmpI (at_ xs (i : Int)) (at_ ys (i : Int)) ≠ 0 := by rw [cmpI, if_neg h1, if_neg h2]; decide
          repeat' (first | ((first | refine WLA.m rfl rfl ?_ ?_ | refine WLA.st rfl ?_ ?_ | refine WLA.x rfl rfl ?_ (fun x => ?_) | refine WLA.x0 rfl ?_ (fun x => ?_)); first | exact trivial | exact rfl | assumption | omega | (refine ⟨?_, ?_⟩ <;> omega) | (simp only [Room, lenS]; omega) | decide | skip) | (refine Stp.go ?_) | (guard_target =~ WLA _ _ _ _ _ (⟨_, .call ⟨.value (.func 119), _, _⟩, _, _, _, _⟩ :: _) _ _; refine WLA.cq rfl rfl (cmpC_tr) ?_) | (refine WPA.ifT ?_) | (refine WPA.ifF ?_) | ((first | refine WPA.dec ?_); first | refine .inl ⟨by first | assumption | omega | with_reducible rfl | (refine fun h => h ?_; first | assumption | with_reducible rfl) | (simp only [lenS] <;> omega) | decide, ?_⟩ | refine .inr ⟨by first | assumption | omega | with_reducible rfl | (refine fun h => h ?_; first | assumption | with_reducible rfl) | (simp only [lenS] <;> omega) | decide, ?_⟩) | ((first | refine WPA.ifBt ?_ ?_ | refine WPA.ifBnf ?_ ?_); assumption) | ((first | refine WPA.ifBnt ?_ ?_ | refine WPA.ifBf ?_ ?_); assumption) | ((first | refine WPA.ifs ?_ ?_ | refine WPA.ifB ?_ ?_) <;> intro hc))
          exact QQ.loopS (i + 1) ⟨rfl, rfl, rfl, rfl, rfl, trivial⟩ ⟨⟨hx, hy⟩, he⟩ (by omega) (fun w h => h)
    · have hy' : (ys.length : Int) ≤ i := by omega
      rw [List.drop_eq_getElem_cons hx, List.drop_of_length_le (by omega : ys.length ≤ i), cmpL] at he
      repeat' (first | ((first | refine WLA.m rfl rfl ?_ ?_ | refine WLA.st rfl ?_ ?_ | refine WLA.x rfl rfl ?_ (fun x => ?_) | refine WLA.x0 rfl ?_ (fun x => ?_)); first | exact trivial | exact rfl | assumption | omega | (refine ⟨?_, ?_⟩ <;> omega) | (simp only [Room, lenS]; omega) | decide | skip) | (refine Stp.go ?_) | (refine WPA.ifT ?_) | (refine WPA.ifF ?_) | ((first | refine WPA.dec ?_); first | refine .inl ⟨by first | assumption | omega | with_reducible rfl | (refine fun h => h ?_; first | assumption | with_reducible rfl) | (simp only [lenS] <;> omega) | decide, ?_⟩ | refine .inr ⟨by first | assumption | omega | with_reducible rfl | (refine fun h => h ?_; first | assumption | with_reducible rfl) | (simp only [lenS] <;> omega) | decide, ?_⟩) | ((first | refine WPA.ifBt ?_ ?_ | refine WPA.ifBnf ?_ ?_); assumption) | ((first | refine WPA.ifBnt ?_ ?_ | refine WPA.ifBf ?_ ?_); assumption) | ((first | refine WPA.ifs ?_ ?_ | refine WPA.ifB ?_ ?_) <;> intro hc))
      rw [← he]
      exact QQ.end_ rfl () rfl fun w h => h
  · have hx' : ¬ (i : Int) < xs.length := by omega
    rw [List.drop_of_length_le (by omega : xs.length ≤ i)] at he
    by_cases hy : i < ys.length
    · have hl : (xs.length : Int) < ys.length := by omega
      rw [List.drop_eq_getElem_cons hy, cmpL] at he
      repeat' (first | ((first | refine WLA.m rfl rfl ?_ ?_ | refine WLA.st rfl ?_ ?_ | refine WLA.x rfl rfl ?_ (fun x => ?_) | refine WLA.x0 rfl ?_ (fun x => ?_)); first | exact trivial | exact rfl | assumption | omega | (refine ⟨?_, ?_⟩ <;> omega) | (simp only [Room, lenS]; omega) | decide | skip) | (refine Stp.go ?_) | (guard_target =~ WLA _ _ _ _ _ (⟨_, .call ⟨.value (.func 119), _, _⟩, _, _, _, _⟩ :: _) _ _; refine WLA.cq rfl rfl (cmpC_tr) ?_) | (refine WPA.ifT ?_) | (refine WPA.ifF ?_) | ((first | refine WPA.dec ?_); first | refine .inl ⟨by first | assumption | omega | with_reducible rfl | (refine fun h => h ?_; first | assumption | with_reducible rfl) | (simp only [lenS] <;> omega) | decide, ?_⟩ | refine .inr ⟨by first | assumption | omega | with_reducible rfl | (refine fun h => h ?_; first | assumption | with_reducible rfl) | (simp only [lenS] <;> omega) | decide, ?_⟩) | ((first | refine WPA.ifBt ?_ ?_ | refine WPA.ifBnf ?_ ?_); assumption) | ((first | refine WPA.ifBnt ?_ ?_ | refine WPA.ifBf ?_ ?_); assumption) | ((first | refine WPA.ifs ?_ ?_ | refine WPA.ifB ?_ ?_) <;> intro hc))
      rw [← he]
      exact QQ.end_ rfl () rfl fun w h => h
    · have hl : ¬ (xs.length : Int) < ys.length := by omega
      rw [List.drop_of_length_le (by omega : ys.length ≤ i), cmpL] at he
      repeat' (first | ((first | refine WLA.m rfl rfl ?_ ?_ | refine WLA.st rfl ?_ ?_ | refine WLA.x rfl rfl ?_ (fun x => ?_) | refine WLA.x0 rfl ?_ (fun x => ?_)); first | exact trivial | exact rfl | assumption | omega | (refine ⟨?_, ?_⟩ <;> omega) | (simp only [Room, lenS]; omega) | decide | skip) | (refine Stp.go ?_) | (guard_target =~ WLA _ _ _ _ _ (⟨_, .call ⟨.value (.func 119), _, _⟩, _, _, _, _⟩ :: _) _ _; refine WLA.cq rfl rfl (cmpC_tr) ?_) | (refine WPA.ifT ?_) | (refine WPA.ifF ?_) | ((first | refine WPA.dec ?_); first | refine .inl ⟨by first | assumption | omega | with_reducible rfl | (refine fun h => h ?_; first | assumption | with_reducible rfl) | (simp only [lenS] <;> omega) | decide, ?_⟩ | refine .inr ⟨by first | assumption | omega | with_reducible rfl | (refine fun h => h ?_; first | assumption | with_reducible rfl) | (simp only [lenS] <;> omega) | decide, ?_⟩) | ((first | refine WPA.ifBt ?_ ?_ | refine WPA.ifBnf ?_ ?_); assumption) | ((first | refine WPA.ifBnt ?_ ?_ | refine WPA.ifBf ?_ ?_); assumption) | ((first | refine WPA.ifs ?_ ?_ | refine WPA.ifB ?_ ?_) <;> intro hc))
      rw [← he]
      exact QQ.end_ rfl () rfl fun w h => h
theorem gCompare_tr {a b : SV} {xs ys : List Int} [ha : RdS I L a Int inferInstance xs] [hb : RdS I L b Int inferInstance ys] (hn : xs.length ≤ 1000000000) (hm : ys.length ≤ 1000000000) : TrP Tryz.prog 85 #[.slice a.a a.n a.cap, .slice b.a b.n b.cap] (SL w0 I L) (.int .i64 (cmpL xs ys)) := by
  refine TrP.ofD fun u => Tr.intro Tryz.func85 rfl Tryz.ntmps85 rfl ?_
  repeat' (first | ((first | refine WLA.m rfl rfl ?_ ?_ | refine WLA.st rfl ?_ ?_ | refine WLA.x rfl rfl ?_ (fun x => ?_) | refine WLA.x0 rfl ?_ (fun x => ?_)); first | exact trivial | exact rfl | assumption | omega | (refine ⟨?_, ?_⟩ <;> omega) | (simp only [Room, lenS]; omega) | decide | skip) | (refine Stp.go ?_) | (guard_target =~ WLA _ _ _ _ _ (⟨_, .call ⟨.value (.func 107), _, _⟩, _, _, _, _⟩ :: _) _ _; refine WLA.cq rfl rfl (sCompare_tr hn hm) ?_) | (refine WPA.ifT ?_) | (refine WPA.ifF ?_) | ((first | refine WPA.dec ?_); first | refine .inl ⟨by first | assumption | omega | with_reducible rfl | (refine fun h => h ?_; first | assumption | with_reducible rfl) | (simp only [lenS] <;> omega) | decide, ?_⟩ | refine .inr ⟨by first | assumption | omega | with_reducible rfl | (refine fun h => h ?_; first | assumption | with_reducible rfl) | (simp only [lenS] <;> omega) | decide, ?_⟩) | ((first | refine WPA.ifBt ?_ ?_ | refine WPA.ifBnf ?_ ?_); assumption) | ((first | refine WPA.ifBnt ?_ ?_ | refine WPA.ifBf ?_ ?_); assumption) | ((first | refine WPA.ifs ?_ ?_ | refine WPA.ifB ?_ ?_) <;> intro hc))
  exact QQ.end_ rfl () rfl fun w h => h
end
end Go.Proofs.YtamnobjdgjbmbaaGreat
namespace Go.Proofs.YtamnobjdgjbmbaaGreat
open Go Go.Fw Go.RowKit
set_option linter.unusedVariables false
set_option linter.unusedSimpArgs false
set_option maxRecDepth 100000
set_option maxHeartbeats 16000000
set_option synthInstance.maxHeartbeats 200000
set_option synthInstance.maxSize 100000
attribute [local irreducible] WPA WLA WDA WDQ WDE QQ seqQ blockQ loopQ fnQ OpP OpT Tr TrP SL SLd OwnS LitS Bk BkE Ob
abbrev Cu := SV × Int
abbrev E := Cu × Int
def CurAt (I : Foot) (c : Cu) (k : List Int) : Prop := ∃ ps : List (SV × Int), SlI I c.1 (SV × Int) inferInstance ps ∧ (0 ≤ c.2 ∧ c.2 < ps.length) ∧ SlI I (at_ ps c.2).1 Int inferInstance k ∧ k.length ≤ 1000000000
def PileR (p : Nat) (x : List E × Int) : HP := exH fun s : SV => star (Bk p 174 [.slice s.a s.n s.cap, .int .i64 x.2]) (OwnS 176 s x.1)
theorem PileR.fold {p : Nat} {c : Int} {s : SV} {es : List E} {L : List HP} : Ent (Bk p 174 [.slice s.a s.n s.cap, .int .i64 c] :: OwnS 176 s es :: L) (PileR p (es, c) :: L) := Ent.ex s (Ent.star Ent.refl)
instance (priority := 800) {p : Nat} {c : Int} {s : SV} {es : List E} {L L1 L2 : List HP} [h1 : FindBk L p 174 [.slice s.a s.n s.cap, .int .i64 c] L1] [h2 : FindOwn L1 s 176 E inferInstance es L2] : FindK L PileR p (es, c) L2 :=
  ⟨h1.out.trans ((Ent.cons h2.out).trans PileR.fold)⟩
instance {p : Nat} {c : Int} {es : List E} : Opn (PileR p (es, c)) SV (fun s L => Bk p 174 [.slice s.a s.n s.cap, .int .i64 c] :: OwnS 176 s es :: L) := ⟨fun w0 I L w h => by
  obtain ⟨s, h⟩ := h.exH; exact ⟨s, Ent.unstar.sl h⟩⟩
section
variable (ky : Cu → List Int)
def ltE (a b : E) : Prop := ltL (ky a.1) (ky b.1) ∨ (¬ ltL (ky b.1) (ky a.1) ∧ a.2 < b.2)
instance (a b : E) : Decidable (ltE ky a b) := inferInstanceAs (Decidable (cmpL _ _ < 0 ∨ (¬ cmpL _ _ < 0 ∧ _)))
end
instance {a b : Value} : Meth Tryz.prog 136 (.agg #[a, b]) "Less" 171 (.agg #[a, b]) := ⟨fun w => by kernel_rfl⟩
section
variable {L L' : List HP} {w0 : World} {I : Foot}
theorem head_tr {s : SV} {i : Int} {ps : List (SV × Int)} [hr : RdS I L s (SV × Int) inferInstance ps] (hi : 0 ≤ i ∧ i < ps.length) : Tr Tryz.prog 67 #[.agg #[.slice s.a s.n s.cap, .int .i64 i]] (SL w0 I L) (fun _ : Unit => .agg #[.slice (at_ ps i).1.a (at_ ps i).1.n (at_ ps i).1.cap, .int .i64 (at_ ps i).2]) (fun _ => SL w0 I L) := by
  refine Tr.intro Tryz.func67 rfl Tryz.ntmps67 rfl ?_
  repeat' (first | ((first | refine WLA.m rfl rfl ?_ ?_ | refine WLA.st rfl ?_ ?_ | refine WLA.x rfl rfl ?_ (fun x => ?_) | refine WLA.x0 rfl ?_ (fun x => ?_)); first | exact trivial | exact rfl | assumption | omega | (refine ⟨?_, ?_⟩ <;> omega) | (simp only [Room, lenS]; omega) | decide | skip) | (refine Stp.go ?_) | (refine WPA.ifT ?_) | (refine WPA.ifF ?_) | ((first | refine WPA.dec ?_); first | refine .inl ⟨by first | assumption | omega | with_reducible rfl | (refine fun h => h ?_; first | assumption | with_reducible rfl) | (simp only [lenS] <;> omega) | decide, ?_⟩ | refine .inr ⟨by first | assumption | omega | with_reducible rfl | (refine fun h => h ?_; first | assumption | with_reducible rfl) | (simp only [lenS] <;> omega) | decide, ?_⟩) | ((first | refine WPA.ifBt ?_ ?_ | refine WPA.ifBnf ?_ ?_); assumption) | ((first | refine WPA.ifBnt ?_ ?_ | refine WPA.ifBf ?_ ?_); assumption) | ((first | refine WPA.ifs ?_ ?_ | refine WPA.ifB ?_ ?_) <;> intro hc))
  exact QQ.endc rfl () rfl fun w h => h.to
theorem Less_tr {a b : Cu} {ka kb : List Int} (ha : CurAt I a ka) (hb : CurAt I b kb) : Tr Tryz.prog 171 #[.agg #[.slice a.1.a a.1.n a.1.cap, .int .i64 a.2], .agg #[.slice b.1.a b.1.n b.1.cap, .int .i64 b.2]] (SL w0 I L) (fun _ : Unit => .bool (decide (cmpL ka kb < 0))) (fun _ => SL w0 I L) := by
  obtain ⟨ps, h1, h2, h3, h4⟩ := ha
  obtain ⟨qs, g1, g2, g3, g4⟩ := hb
  refine Tr.intro Tryz.func171 rfl Tryz.ntmps171 rfl ?_
  repeat' (first | ((first | refine WLA.m rfl rfl ?_ ?_ | refine WDQ.m rfl rfl ?_ ?_ | refine WLA.st rfl ?_ ?_ | refine WLA.x rfl rfl ?_ (fun x => ?_) | refine WLA.x0 rfl ?_ (fun x => ?_)); first | exact trivial | exact rfl | assumption | omega | (refine ⟨?_, ?_⟩ <;> omega) | (simp only [Room, lenS]; omega) | decide | skip) | (refine Stp.go ?_) | (guard_target =~ WLA _ _ _ _ _ (⟨_, .call ⟨.value (.func 67), _, _⟩, _, _, _, _⟩ :: _) _ _; refine WLA.call rfl rfl (head_tr (by assumption)) ?_; rintro ⟨⟩) | (guard_target =~ WLA _ _ _ _ _ (⟨_, .call ⟨.value (.func 85), _, _⟩, _, _, _, _⟩ :: _) _ _; refine WLA.cq rfl rfl (gCompare_tr (by assumption) (by assumption)) ?_) | (refine WPA.ifT ?_) | (refine WPA.ifF ?_) | ((first | refine WPA.dec ?_); first | refine .inl ⟨by first | assumption | omega | with_reducible rfl | (refine fun h => h ?_; first | assumption | with_reducible rfl) | (simp only [lenS] <;> omega) | decide, ?_⟩ | refine .inr ⟨by first | assumption | omega | with_reducible rfl | (refine fun h => h ?_; first | assumption | with_reducible rfl) | (simp only [lenS] <;> omega) | decide, ?_⟩) | ((first | refine WPA.ifBt ?_ ?_ | refine WPA.ifBnf ?_ ?_); assumption) | ((first | refine WPA.ifBnt ?_ ?_ | refine WPA.ifBf ?_ ?_); assumption) | ((first | refine WPA.ifs ?_ ?_ | refine WPA.ifB ?_ ?_) <;> intro hc) | (guard_target =~ WPA _ _ _ (.region 1 _ true) _ _ _; refine WPA.drawT 6 (.q 0 (.q 3 (.e 1 (.q 2 (.e 4 (.q 5 .fin)))))) mixed ?_ ?_; kernel_rfl) | (refine WDA.finish (tl := [⟨_, _, _, _, _, _⟩, ⟨_, _, _, _, _, _⟩, ⟨_, _, _, _, _, _⟩]) rfl ?_) | (refine WDQ.see rfl ?_) | (refine WDE.see rfl ?_) | (refine WDE.alloc rfl rfl (fun w h => h) (fun x => ?_)) | (refine WDE.stE rfl ?_) | (refine WDE.x rfl rfl ?_ ?_ (fun x => ?_); rotate_left 1; (intro x w h; first | exact h | exact Ent.drop1.sl h | exact SL.unI h | exact SL.to h); rotate_left 1; first | exact trivial | exact rfl | assumption | omega | (refine ⟨?_, ?_⟩ <;> omega) | (simp only [Room, lenS]; omega) | decide | skip) | (guard_target =~ WDE _ _ _ _ _ _ _ ⟨_, .call ⟨.value (.func 67), _, _⟩, _, _, _, _⟩ _ _ _; refine WDE.call rfl rfl (head_tr (by assumption)) ?_ ?_; (intro x w h; first | exact h | exact Ent.drop1.sl h | exact SL.unI h | exact SL.to h); rintro ⟨⟩) | (guard_target =~ WDW _ _ _ _ _ _ _ ⟨_, .call ⟨.value (.func 67), _, _⟩, _, _, _, _⟩ _ _ _; refine WDW.call rfl rfl (head_tr (by assumption)) ?_; rintro ⟨⟩) | (guard_target =~ WDQ _ _ _ _ _ _ _ ⟨_, .call ⟨.value (.func 85), _, _⟩, _, _, _, _⟩ _ _ _; refine WDQ.cq rfl rfl (gCompare_tr (by assumption) (by assumption)) ?_))
  exact QQ.end_ rfl () rfl fun w h => h.to
theorem Len_tr {p : Nat} {es : List E} {c : Int} [h : FindK L PileR p (es, c) L'] : TrP Tryz.prog 122 #[.pointer (some ⟨p, 0, none⟩)] (SL w0 I L) (.int .i64 es.length) := by
  refine TrP.at h.out (TrP.opn fun s => TrP.ofD fun u => ?_)
  refine Tr.intro Tryz.func122 rfl Tryz.ntmps122 rfl ?_
  repeat' (first | ((first | refine WLA.m rfl rfl ?_ ?_ | refine WLA.st rfl ?_ ?_ | refine WLA.x rfl rfl ?_ (fun x => ?_) | refine WLA.x0 rfl ?_ (fun x => ?_)); first | exact trivial | exact rfl | assumption | omega | (refine ⟨?_, ?_⟩ <;> omega) | (simp only [Room, lenS]; omega) | decide | skip) | (refine Stp.go ?_) | (refine WPA.ifT ?_) | (refine WPA.ifF ?_) | ((first | refine WPA.dec ?_); first | refine .inl ⟨by first | assumption | omega | with_reducible rfl | (refine fun h => h ?_; first | assumption | with_reducible rfl) | (simp only [lenS] <;> omega) | decide, ?_⟩ | refine .inr ⟨by first | assumption | omega | with_reducible rfl | (refine fun h => h ?_; first | assumption | with_reducible rfl) | (simp only [lenS] <;> omega) | decide, ?_⟩) | ((first | refine WPA.ifBt ?_ ?_ | refine WPA.ifBnf ?_ ?_); assumption) | ((first | refine WPA.ifBnt ?_ ?_ | refine WPA.ifBf ?_ ?_); assumption) | ((first | refine WPA.ifs ?_ ?_ | refine WPA.ifB ?_ ?_) <;> intro hc))
  exact QQ.end_ rfl () rfl fun w h => h
theorem pNew_tr (w0 : World) (I : Foot) (L : List HP) : Tr Tryz.prog 64 #[] (SL w0 I L) (fun p : Nat => .pointer (some ⟨p, 0, none⟩)) (fun p => SL w0 I (PileR p ([], 0) :: L)) := by
  refine Tr.intro Tryz.func64 rfl Tryz.ntmps64 rfl ?_
  repeat' (first | ((first | refine WLA.m rfl rfl ?_ ?_ | refine WLA.st rfl ?_ ?_ | refine WLA.x rfl rfl ?_ (fun x => ?_) | refine WLA.x0 rfl ?_ (fun x => ?_)); first | exact trivial | exact rfl | assumption | omega | (refine ⟨?_, ?_⟩ <;> omega) | (simp only [Room, lenS]; omega) | decide | skip) | (refine Stp.go ?_) | (refine WPA.ifT ?_) | (refine WPA.ifF ?_) | ((first | refine WPA.dec ?_); first | refine .inl ⟨by first | assumption | omega | with_reducible rfl | (refine fun h => h ?_; first | assumption | with_reducible rfl) | (simp only [lenS] <;> omega) | decide, ?_⟩ | refine .inr ⟨by first | assumption | omega | with_reducible rfl | (refine fun h => h ?_; first | assumption | with_reducible rfl) | (simp only [lenS] <;> omega) | decide, ?_⟩) | ((first | refine WPA.ifBt ?_ ?_ | refine WPA.ifBnf ?_ ?_); assumption) | ((first | refine WPA.ifBnt ?_ ?_ | refine WPA.ifBf ?_ ?_); assumption) | ((first | refine WPA.ifs ?_ ?_ | refine WPA.ifB ?_ ?_) <;> intro hc))
  exact QQ.end_ rfl _ rfl fun w h => (Ent.ex SV.nil (Ent.star (Ent.take Take.here (Ent.ownNil Ent.refl)))).sl h
theorem ahead_tr {ky : Cu → List Int} {p : Nat} {es : List E} {c : Int} (i k : Int) [h : FindK L PileR p (es, c) L'] (hi : 0 ≤ i ∧ i < es.length) (hk : 0 ≤ k ∧ k < es.length) (hg : ∀ e ∈ es, CurAt I e.1 (ky e.1)) :
    Tr Tryz.prog 112 #[.pointer (some ⟨p, 0, none⟩), .int .i64 i, .int .i64 k] (SL w0 I L) (fun _ : Unit => .bool (decide (ltE ky (at_ es i) (at_ es k)))) (fun _ => SL w0 I (PileR p (es, c) :: L')) := by
  refine Tr.at h.out (Tr.opn fun s => ?_)
  have h1 : CurAt I (at_ es i).1 (ky (at_ es i).1) := hg _ (by rw [at_int es i hi.1 hi.2]; exact List.getElem_mem _)
  have h2 : CurAt I (at_ es k).1 (ky (at_ es k).1) := hg _ (by rw [at_int es k hk.1 hk.2]; exact List.getElem_mem _)
  refine Tr.intro Tryz.func112 rfl Tryz.ntmps112 rfl ?_
  repeat' (first | (guard_target =~ WLA _ _ _ _ _ (⟨_, .call ⟨.invoke _ _, _, _⟩, _, _, _, _⟩ :: _) _ _; first | (refine WLA.ci rfl rfl (Less_tr h1 h2) ?_; rintro ⟨⟩) | (refine WLA.ci rfl rfl (Less_tr h2 h1) ?_; rintro ⟨⟩)) | ((first | refine WLA.m rfl rfl ?_ ?_ | refine WDQ.m rfl rfl ?_ ?_ | refine WLA.st rfl ?_ ?_ | refine WLA.x rfl rfl ?_ (fun x => ?_) | refine WLA.x0 rfl ?_ (fun x => ?_)); first | exact trivial | exact rfl | assumption | omega | (refine ⟨?_, ?_⟩ <;> omega) | (simp only [Room, lenS]; omega) | decide | skip) | (refine Stp.go ?_) | (refine WPA.ifT ?_) | (refine WPA.ifF ?_) | (refine WLA.no rfl rfl ?_) | ((first | refine WPA.dec ?_ | ((fail_if_success (guard_target =~ WLA _ _ _ _ _ _ (put1 _ _ (.bool true)) _)); (fail_if_success (guard_target =~ WLA _ _ _ _ _ _ (put1 _ _ (.bool false)) _)); refine WLA.dec rfl rfl ?_) | refine WLA.pk ?_); first | refine .inl ⟨by first | assumption | omega | with_reducible rfl | (refine fun h => h ?_; first | assumption | with_reducible rfl) | (simp only [lenS] <;> omega) | decide, ?_⟩ | refine .inr ⟨by first | assumption | omega | with_reducible rfl | (refine fun h => h ?_; first | assumption | with_reducible rfl) | (simp only [lenS] <;> omega) | decide, ?_⟩) | ((first | refine WPA.ifBt ?_ ?_ | refine WPA.ifBnf ?_ ?_); assumption) | ((first | refine WPA.ifBnt ?_ ?_ | refine WPA.ifBf ?_ ?_); assumption) | ((first | refine WPA.ifs ?_ ?_ | refine WPA.ifB ?_ ?_) <;> intro hc) | ((fail_if_success (guard_target =~ WLA _ _ _ _ _ _ (put1 _ _ (.bool true)) _)); (fail_if_success (guard_target =~ WLA _ _ _ _ _ _ (put1 _ _ (.bool false)) _)); (first | refine WLA.both rfl rfl ?_ ?_ | refine WLA.bothB rfl rfl ?_ ?_) <;> intro hg) | (guard_target =~ WPA _ _ _ (.region 1 _ true) _ _ _; refine WPA.drawT 17 (.q 0 (.q 1 (.q 2 (.q 3 (.q 4 (.q 5 (.q 6 (.q 7 (.q 8 (.q 9 (.q 10 (.q 11 (.q 12 (.q 13 (.b false 14 (.e 15 (.e 16 .fin)) false 15 (.e 14 (.e 16 .fin))))))))))))))))) mixed ?_ ?_; kernel_rfl) | (refine WDA.finish (tl := [⟨_, _, _, _, _, _⟩]) rfl ?_) | (refine WDQ.see rfl ?_) | (first | (refine WDA.two rfl rfl ?_ ?_) | (refine WDA.twoL rfl rfl ?_ ?_) | (refine WDA.twoR rfl rfl ?_ ?_) | (refine WDA.twoW rfl rfl ?_ ?_)) | (refine WDE.see rfl ?_) | (refine WDE.alloc rfl rfl (fun w h => h) (fun x => ?_)) | (refine WDE.stE rfl ?_) | (refine WDE.x rfl rfl ?_ ?_ (fun x => ?_); rotate_left 1; (intro x w h; first | exact h | exact Ent.drop1.sl h | exact SL.unI h | exact SL.to h); rotate_left 1; first | exact trivial | exact rfl | assumption | omega | (refine ⟨?_, ?_⟩ <;> omega) | (simp only [Room, lenS]; omega) | decide | skip))
  all_goals refine QQ.end_ rfl () ?_ fun w h => (Ent.drop (Ent.drop PileR.fold)).sl h
  all_goals simp only [ltE, ltL]
  all_goals simp [*]
end
end Go.Proofs.YtamnobjdgjbmbaaGreat
namespace Go.Proofs.YtamnobjdgjbmbaaGreat
open Go Go.Fw
set_option linter.unusedVariables false
set_option linter.unusedSimpArgs false
def par (k : Nat) : Nat := (k - 1) / 2
section
variable (ky : Cu → List Int)
def HeapF (f : Nat → E) (n : Nat) : Prop := ∀ k, 0 < k → k < n → ¬ ltE ky (f k) (f (par k))
def UpF (f : Nat → E) (n i : Nat) : Prop := (∀ k, 0 < k → k < n → k ≠ i → ¬ ltE ky (f k) (f (par k))) ∧ (∀ k, 0 < k → k < n → par k = i → 0 < i → ¬ ltE ky (f k) (f (par i)))
def DownF (f : Nat → E) (n i : Nat) : Prop := (∀ k, 0 < k → k < n → par k ≠ i → ¬ ltE ky (f k) (f (par k))) ∧ (∀ k, 0 < k → k < n → par k = i → 0 < i → ¬ ltE ky (f k) (f (par i)))
variable {ky}
theorem ltE_irr (a : E) : ¬ ltE ky a a := by
  rintro (h | ⟨_, h⟩)
  · exact ltL_irr _ h
  · omega
theorem ltE_tt {a b c : E} (h : ltE ky a b) (k : ltE ky b c) : ltE ky a c := by
  rcases h with h | ⟨h1, h2⟩ <;> rcases k with k | ⟨k1, k2⟩
  · exact .inl (ltL_tt h k)
  · exact .inl (ltL_le h k1)
  · exact .inl (leL_lt h1 k)
  · exact .inr ⟨leL_tr h1 k1, by omega⟩
theorem ltE_as {a b : E} (h : ltE ky a b) : ¬ ltE ky b a := fun k => ltE_irr a (ltE_tt h k)
theorem leE_tr {a b c : E} (h : ¬ ltE ky b a) (k : ¬ ltE ky c b) : ¬ ltE ky c a := by
  intro hc
  have nle : ∀ {x y : E}, ¬ ltE ky x y → ¬ ltL (ky x.1) (ky y.1) ∧ (¬ ltL (ky y.1) (ky x.1) → y.2 ≤ x.2) := fun {x y} h =>
    ⟨fun e => h (.inl e), fun e => Classical.byContradiction fun hn => h (.inr ⟨e, by omega⟩)⟩
  obtain ⟨h1, h2⟩ := nle h
  obtain ⟨k1, k2⟩ := nle k
  rcases hc with hc | ⟨c1, c2⟩
  · exact leL_tr h1 k1 hc
  · by_cases e1 : ltL (ky a.1) (ky b.1)
    · exact c1 (ltL_le e1 k1)
    · by_cases e2 : ltL (ky b.1) (ky c.1)
      · exact c1 (leL_lt h1 e2)
      · have := h2 e1; have := k2 e2; omega
theorem ltE_tr {a b c : E} (h : ltE ky a b) (k : ¬ ltE ky c b) : ¬ ltE ky c a := leE_tr (ltE_as h) k
def swF (f : Nat → E) (i k : Nat) : Nat → E := fun j => if j = i then f k else if j = k then f i else f j
theorem up_step {f : Nat → E} {n i : Nat} (h : UpF ky f n i) (hi : 0 < i) (hn : i < n) (hl : ltE ky (f i) (f (par i))) : UpF ky (swF f i (par i)) n (par i) := by
  have hp : par i < i := by unfold par; omega
  refine ⟨fun k h0 hk hne => ?_, fun k h0 hk hpk hp0 => ?_⟩
  · have hpk : par k < k := by unfold par; omega
    unfold swF
    by_cases h1 : k = i
    · subst h1; rw [if_pos rfl, if_neg (by omega), if_pos rfl]; exact ltE_as hl
    · rw [if_neg h1, if_neg hne]
      by_cases h2 : par k = i
      · rw [if_pos h2]; exact h.2 k h0 hk h2 hi
      · rw [if_neg h2]
        by_cases h3 : par k = par i
        · rw [if_pos h3]
          have := h.1 k h0 hk h1
          rw [h3] at this
          exact ltE_tr hl this
        · rw [if_neg h3]; exact h.1 k h0 hk h1
  · have hpp : par (par i) < par i := by unfold par at *; omega
    unfold swF
    have hne : par i ≠ i := by omega
    rw [if_neg (show par (par i) ≠ i by omega), if_neg (show par (par i) ≠ par i by omega)]
    have h1 := h.1 (par i) hp0 (by omega) hne
    by_cases h2 : k = i
    · rw [if_pos h2]; exact h1
    · have h3 := h.1 k h0 hk h2
      rw [hpk] at h3
      rw [if_neg h2, if_neg (by intro e; unfold par at *; omega)]
      exact leE_tr h1 h3
theorem up_done {f : Nat → E} {n i : Nat} (h : UpF ky f n i) (hd : i = 0 ∨ ¬ ltE ky (f i) (f (par i))) : HeapF ky f n := fun k h0 hk => by
  by_cases h1 : k = i
  · subst h1; exact hd.resolve_left (by omega)
  · exact h.1 k h0 hk h1
theorem down_step {f : Nat → E} {n i m : Nat} (h : DownF ky f n i) (hm : m < n) (hm0 : 0 < m) (hpm : par m = i) (hl : ltE ky (f m) (f i)) (hmin : ∀ k, 0 < k → k < n → par k = i → ¬ ltE ky (f k) (f m)) : DownF ky (swF f i m) n m := by
  have him : i < m := by subst hpm; unfold par; omega
  refine ⟨fun k h0 hk hne => ?_, fun k h0 hk hpk hp0 => ?_⟩
  · have hpk : par k < k := by unfold par; omega
    unfold swF
    by_cases h1 : k = m
    · subst h1; rw [if_neg (by omega), if_pos rfl, if_pos hpm]; exact ltE_as hl
    · by_cases h2 : k = i
      · subst h2
        rw [if_pos rfl, if_neg (by omega), if_neg hne]
        exact h.2 m hm0 hm hpm h0
      · rw [if_neg h2, if_neg h1]
        by_cases h3 : par k = i
        · rw [if_pos h3]; exact hmin k h0 hk h3
        · rw [if_neg h3, if_neg hne]; exact h.1 k h0 hk h3
  · unfold swF
    have hkm : m < k := by subst hpk; unfold par at *; omega
    rw [if_neg (by omega), if_neg (by omega), if_pos hpm]
    have := h.1 k h0 hk (by omega)
    rw [hpk] at this
    exact this
theorem down_done {f : Nat → E} {n i : Nat} (h : DownF ky f n i) (hd : ∀ k, 0 < k → k < n → par k = i → ¬ ltE ky (f k) (f i)) : HeapF ky f n := fun k h0 hk => by
  by_cases h1 : par k = i
  · rw [h1]; exact hd k h0 hk h1
  · exact h.1 k h0 hk h1
theorem heap_least {f : Nat → E} {n : Nat} (h : HeapF ky f n) : ∀ k, k < n → ¬ ltE ky (f k) (f 0) := by
  intro k
  induction k using Nat.strongRecOn with
  | ind k ih =>
    intro hk
    by_cases h0 : k = 0
    · subst h0; exact ltE_irr _
    · have hp : par k < k := by unfold par; omega
      exact leE_tr (ih _ hp (by omega)) (h k (by omega) hk)
def atE (l : List E) (k : Nat) : E := l.getD k ((SV.nil, 0), 0)
def swL (l : List E) (i k : Nat) : List E := (l.set i (atE l k)).set k (atE l i)
theorem swL_len (l : List E) (i k : Nat) : (swL l i k).length = l.length := by simp [swL]
theorem atE_sw {l : List E} {i k : Nat} (hi : i < l.length) (hk : k < l.length) : atE (swL l i k) = swF (atE l) i k := by
  funext j
  simp only [atE, swL, swF, List.getD_eq_getElem?_getD, List.getElem?_set, List.length_set]
  by_cases h1 : j = k
  · subst h1
    by_cases h2 : j = i
    · subst h2; simp [hi]
    · simp [hk, h2]
  · rw [if_neg (fun e => h1 e.symm)]
    by_cases h2 : j = i
    · subst h2; simp [hi]
    · rw [if_neg (fun e => h2 e.symm)]; simp [h1, h2]
theorem sw_perm {l : List E} {i k : Nat} (hi : i < l.length) (hk : k < l.length) : (swL l i k).Perm l := by
  have hE : DecidableEq E := Classical.typeDecidableEq _
  rw [List.perm_iff_count]
  intro a
  have e1 : atE l i = l[i] := by simp [atE, List.getD_eq_getElem?_getD, hi]
  have e2 : atE l k = l[k] := by simp [atE, List.getD_eq_getElem?_getD, hk]
  simp only [swL, e1, e2]
  rw [List.count_set (by simpa using hk), List.count_set hi, List.getElem_set]
  have p1 : l[i] = a → 0 < List.count a l := fun h => List.count_pos_iff.2 (by rw [← h]; exact List.getElem_mem hi)
  have p2 : l[k] = a → 0 < List.count a l := fun h => List.count_pos_iff.2 (by rw [← h]; exact List.getElem_mem hk)
  simp only [beq_iff_eq]
  by_cases hik : i = k
  · subst hik
    simp only [if_true]
    by_cases h1 : l[i] = a
    · have := p1 h1
      rw [if_pos h1]; omega
    · rw [if_neg h1]; omega
  · simp only [hik, if_false]
    by_cases h1 : l[i] = a <;> by_cases h2 : l[k] = a <;> simp only [h1, h2, if_true, if_false]
    all_goals first
      | (have := p1 h1; omega)
      | (have := p2 h2; omega)
      | omega
def HeapL (ky : Cu → List Int) (l : List E) : Prop := HeapF ky (atE l) l.length
end
end Go.Proofs.YtamnobjdgjbmbaaGreat
namespace Go.Proofs.YtamnobjdgjbmbaaGreat
open Go Go.Fw Go.RowKit
set_option linter.unusedVariables false
set_option linter.unusedSimpArgs false
set_option maxRecDepth 100000
set_option maxHeartbeats 16000000
set_option synthInstance.maxHeartbeats 200000
set_option synthInstance.maxSize 100000
attribute [local irreducible] WPA WLA WDA WDQ WDE QQ seqQ blockQ loopQ fnQ OpP OpT Tr TrP SL SLd OwnS LitS Bk BkE Ob
theorem sw_walk (l : List E) (i k : Nat) (hik : i ≠ k) : (l.set (i : Int).toNat (((at_ l (k : Int)).1.1, (at_ l (k : Int)).1.2), (at_ l (k : Int)).2)).set (k : Int).toNat (((at_ l (i : Int)).1.1, (at_ l (i : Int)).1.2), (at_ l (i : Int)).2) = swL l i k := rfl
theorem up_tr {ky : Cu → List Int} {p : Nat} {c z : Int} {es : List E} {L L' : List HP} {w0 : World} {I : Foot} [h : FindK L PileR p (es, c) L'] (i : Nat) (hz : z = i) (hi : i < es.length) (hn : es.length ≤ 1000000) (hg : ∀ e ∈ es, CurAt I e.1 (ky e.1)) (hu : UpF ky (atE es) es.length i) :
    Tr Tryz.prog 93 #[.pointer (some ⟨p, 0, none⟩), .int .i64 z] (SL w0 I L) (fun _ : { l : List E // l.Perm es ∧ HeapL ky l } => .tuple #[]) (fun y => SL w0 I (PileR p (y.1, c) :: L')) := by
  refine Tr.at h.out ?_
  subst hz
  refine Tr.intro Tryz.func93 rfl Tryz.ntmps93 rfl ?_
  refine WPA.block ?_
  refine WPA.loopS (σ := Nat × List E) (fun y => [(0, .pointer (some ⟨p, 0, none⟩)), (1, .int .i64 y.1)]) (fun y => y.1 < y.2.length ∧ y.2.Perm es ∧ UpF ky (atE y.2) y.2.length y.1)
    (fun y => SL w0 I (PileR p (y.2, c) :: L')) (fun y => y.1) (i, es) ⟨rfl, rfl, trivial⟩ ⟨hi, List.Perm.refl _, hu⟩ (fun _ h => h) ?_
  rintro ⟨i, l⟩ ρ ⟨hi, hp, hu⟩
  dsimp only at hi hp hu ⊢
  have hl : l.length = es.length := hp.length_eq
  have hgl : ∀ e ∈ l, CurAt I e.1 (ky e.1) := fun e he => hg e (hp.subset he)
  by_cases h0 : i = 0
  · subst h0
    repeat' (first | ((first | refine WLA.m rfl rfl ?_ ?_ | refine WDQ.m rfl rfl ?_ ?_ | refine WDP.m rfl rfl ?_ ?_ | refine WLA.st rfl ?_ ?_ | refine WLA.x rfl rfl ?_ (fun x => ?_) | refine WLA.x0 rfl ?_ (fun x => ?_) | refine WDW.x rfl rfl ?_ (fun x => ?_) | refine WDW.st rfl ?_ ?_); first | exact trivial | exact rfl | assumption | omega | (refine ⟨?_, ?_⟩ <;> omega) | (simp only [Room, lenS]; omega) | decide | skip) | (refine Stp.go ?_) | (refine WPA.ifT ?_) | (refine WPA.ifF ?_) | ((first | refine WPA.dec ?_); first | refine .inl ⟨by first | assumption | omega | with_reducible rfl | (refine fun h => h ?_; first | assumption | with_reducible rfl) | (simp only [lenS] <;> omega) | decide, ?_⟩ | refine .inr ⟨by first | assumption | omega | with_reducible rfl | (refine fun h => h ?_; first | assumption | with_reducible rfl) | (simp only [lenS] <;> omega) | decide, ?_⟩) | ((first | refine WPA.ifBt ?_ ?_ | refine WPA.ifBnf ?_ ?_); assumption) | ((first | refine WPA.ifBnt ?_ ?_ | refine WPA.ifBf ?_ ?_); assumption) | ((first | refine WPA.ifs ?_ ?_ | refine WPA.ifB ?_ ?_) <;> intro hc) | (guard_target =~ WPA _ _ _ (.region 3 _ true) _ _ _; refine WPA.drawT 26 (.p 0 (.p 1 (.p 2 (.q 3 (.p 4 (.p 5 (.p 6 (.p 7 (.q 8 (.p 9 (.p 10 (.p 11 (.p 12 (.q 13 (.p 14 (.q 15 (.q 16 (.p 17 (.p 18 (.p 19 (.q 20 (.p 21 (.q 22 (.q 23 (.q 24 (.w 25 .fin)))))))))))))))))))))))))) mixed ?_ ?_; kernel_rfl) | (refine WDA.finish (tl := [⟨_, _, _, _, _, _⟩, ⟨_, _, _, _, _, _⟩]) rfl ?_) | (refine WDQ.see rfl ?_) | (refine WDP.see rfl ?_) | (refine WDW.see rfl ?_))
    exact QQ.endn rfl ⟨l, hp, up_done hu (.inl rfl)⟩ rfl fun w h => h
  · have hpar : ((i : Int) - 1) / 2 = (par i : Nat) := by unfold par; omega
    have hpi : par i < i := by unfold par; omega
    have hne : i ≠ par i := by omega
    repeat' (first | ((first | refine WLA.m rfl rfl ?_ ?_ | refine WDQ.m rfl rfl ?_ ?_ | refine WDP.m rfl rfl ?_ ?_ | refine WLA.st rfl ?_ ?_ | refine WLA.x rfl rfl ?_ (fun x => ?_) | refine WLA.x0 rfl ?_ (fun x => ?_) | refine WDW.x rfl rfl ?_ (fun x => ?_) | refine WDW.st rfl ?_ ?_); first | exact trivial | exact rfl | assumption | omega | (refine ⟨?_, ?_⟩ <;> omega) | (simp only [Room, lenS]; omega) | decide | skip) | (refine Stp.go ?_) | (guard_target =~ WLA _ _ _ _ _ (⟨_, .call ⟨.value (.func 112), _, _⟩, _, _, _, _⟩ :: _) _ _; refine WLA.call rfl rfl (ahead_tr (i : Int) (((i : Int) - 1) / 2) (by omega) (by omega) hgl) ?_; rintro ⟨⟩; rw [hpar]; refine WLA.opn fun s => ?_) | (refine WPA.ifT ?_) | (refine WPA.ifF ?_) | ((first | refine WPA.dec ?_); first | refine .inl ⟨by first | assumption | omega | with_reducible rfl | (refine fun h => h ?_; first | assumption | with_reducible rfl) | (simp only [lenS] <;> omega) | decide, ?_⟩ | refine .inr ⟨by first | assumption | omega | with_reducible rfl | (refine fun h => h ?_; first | assumption | with_reducible rfl) | (simp only [lenS] <;> omega) | decide, ?_⟩) | ((first | refine WPA.ifBt ?_ ?_ | refine WPA.ifBnf ?_ ?_); assumption) | ((first | refine WPA.ifBnt ?_ ?_ | refine WPA.ifBf ?_ ?_); assumption) | ((first | refine WPA.ifs ?_ ?_ | refine WPA.ifB ?_ ?_) <;> intro hc) | (guard_target =~ WPA _ _ _ (.region 3 _ true) _ _ _; refine WPA.drawT 26 (.p 0 (.p 1 (.p 2 (.q 3 (.p 4 (.p 5 (.p 6 (.p 7 (.q 8 (.p 9 (.p 10 (.p 11 (.p 12 (.q 13 (.p 14 (.q 15 (.q 16 (.p 17 (.p 18 (.p 19 (.q 20 (.p 21 (.q 22 (.q 23 (.q 24 (.w 25 .fin)))))))))))))))))))))))))) mixed ?_ ?_; kernel_rfl) | (refine WDA.finish (tl := [⟨_, _, _, _, _, _⟩, ⟨_, _, _, _, _, _⟩]) rfl ?_) | (refine WDQ.see rfl ?_) | (refine WDP.see rfl ?_) | (refine WDW.see rfl ?_) | (guard_target =~ WDE _ _ _ _ _ _ _ ⟨_, .call ⟨.value (.func 112), _, _⟩, _, _, _, _⟩ _ _ _; refine WDE.call rfl rfl (ahead_tr (i : Int) (((i : Int) - 1) / 2) (by omega) (by omega) hgl) ?_ ?_; (intro x w h; first | exact h | exact Ent.drop1.sl h | exact SL.unI h | exact SL.to h); rintro ⟨⟩; rw [hpar]; refine WLA.opn fun s => ?_) | (guard_target =~ WDW _ _ _ _ _ _ _ ⟨_, .call ⟨.value (.func 112), _, _⟩, _, _, _, _⟩ _ _ _; refine WDW.call rfl rfl (ahead_tr (i : Int) (((i : Int) - 1) / 2) (by omega) (by omega) hgl) ?_; rintro ⟨⟩; rw [hpar]; refine WLA.opn fun s => ?_))
    · exact QQ.end_ rfl ⟨l, hp, up_done hu (.inr hc)⟩ rfl fun w h => h.to
    · rw [sw_walk _ _ _ hne]
      refine QQ.loopS (par i, swL l i (par i)) ⟨rfl, rfl, trivial⟩ ⟨by rw [swL_len]; dsimp only; omega, (sw_perm hi (by omega)).trans hp, ?_⟩ hpi (fun w h => h.to)
      rw [swL_len, atE_sw hi (by omega)]; exact up_step hu (by omega) hi (Classical.not_not.1 hc)
theorem down_tr {ky : Cu → List Int} {p : Nat} {c : Int} {es : List E} {L L' : List HP} {w0 : World} {I : Foot} [h : FindK L PileR p (es, c) L'] (hn : es.length ≤ 1000000) (hg : ∀ e ∈ es, CurAt I e.1 (ky e.1)) (hu : DownF ky (atE es) es.length 0) :
    Tr Tryz.prog 114 #[.pointer (some ⟨p, 0, none⟩), .int .i64 0] (SL w0 I L) (fun _ : { l : List E // l.Perm es ∧ HeapL ky l } => .tuple #[]) (fun y => SL w0 I (PileR p (y.1, c) :: L')) := by
  refine Tr.at h.out ?_
  refine Tr.intro Tryz.func114 rfl Tryz.ntmps114 rfl ?_
  refine WPA.block ?_
  refine WPA.loopS (σ := Nat × List E) (fun y => [(0, .pointer (some ⟨p, 0, none⟩)), (1, .int .i64 y.1)]) (fun y => (y.1 < y.2.length ∨ y.1 = 0) ∧ y.2.Perm es ∧ DownF ky (atE y.2) y.2.length y.1)
    (fun y => SL w0 I (PileR p (y.2, c) :: L')) (fun y => es.length - y.1) (0, es) ⟨rfl, rfl, trivial⟩ ⟨.inr rfl, List.Perm.refl _, hu⟩ (fun _ h => h) ?_
  rintro ⟨i, l⟩ ρ ⟨hi, hp, hu⟩
  dsimp only at hi hp hu ⊢
  have hl : l.length = es.length := hp.length_eq
  have hgl : ∀ e ∈ l, CurAt I e.1 (ky e.1) := fun e he => hg e (hp.subset he)
  repeat' (first | ((first | refine WLA.m rfl rfl ?_ ?_ | refine WDQ.m rfl rfl ?_ ?_ | refine WDP.m rfl rfl ?_ ?_ | refine WLA.st rfl ?_ ?_ | refine WLA.x rfl rfl ?_ (fun x => ?_) | refine WLA.x0 rfl ?_ (fun x => ?_) | refine WDW.x rfl rfl ?_ (fun x => ?_) | refine WDW.st rfl ?_ ?_); first | exact trivial | exact rfl | assumption | omega | (refine ⟨?_, ?_⟩ <;> omega) | (simp only [Room, lenS]; omega) | decide | skip) | (refine Stp.go ?_) | (refine WPA.ifT ?_) | (refine WPA.ifF ?_) | (refine WLA.no rfl rfl ?_) | ((first | refine WPA.dec ?_ | ((fail_if_success (guard_target =~ WLA _ _ _ _ _ _ (put1 _ _ (.bool true)) _)); (fail_if_success (guard_target =~ WLA _ _ _ _ _ _ (put1 _ _ (.bool false)) _)); refine WLA.dec rfl rfl ?_) | refine WLA.pk ?_); first | refine .inl ⟨by first | assumption | omega | with_reducible rfl | (refine fun h => h ?_; first | assumption | with_reducible rfl) | (simp only [lenS] <;> omega) | decide, ?_⟩ | refine .inr ⟨by first | assumption | omega | with_reducible rfl | (refine fun h => h ?_; first | assumption | with_reducible rfl) | (simp only [lenS] <;> omega) | decide, ?_⟩) | ((first | refine WPA.ifBt ?_ ?_ | refine WPA.ifBnf ?_ ?_); assumption) | ((first | refine WPA.ifBnt ?_ ?_ | refine WPA.ifBf ?_ ?_); assumption) | ((first | refine WPA.ifs ?_ ?_ | refine WPA.ifB ?_ ?_) <;> intro hc) | ((fail_if_success (guard_target =~ WLA _ _ _ _ _ _ (put1 _ _ (.bool true)) _)); (fail_if_success (guard_target =~ WLA _ _ _ _ _ _ (put1 _ _ (.bool false)) _)); (first | refine WLA.both rfl rfl ?_ ?_ | refine WLA.bothB rfl rfl ?_ ?_) <;> intro hg) | (guard_target =~ WPA _ _ _ (.region 7 _ true) _ _ _; refine WPA.drawT 26 (.p 0 (.p 1 (.p 2 (.q 3 (.p 4 (.p 5 (.p 6 (.p 7 (.q 8 (.p 9 (.p 10 (.p 11 (.p 12 (.q 13 (.p 14 (.q 15 (.q 16 (.p 17 (.p 18 (.p 19 (.q 20 (.p 21 (.q 22 (.q 23 (.q 24 (.w 25 .fin)))))))))))))))))))))))))) mixed ?_ ?_; kernel_rfl) | (refine WDA.finish (tl := [⟨_, _, _, _, _, _⟩, ⟨_, _, _, _, _, _⟩]) rfl ?_) | (refine WDQ.see rfl ?_) | (refine WDP.see rfl ?_) | (refine WDW.see rfl ?_))
  -- the children, one behind the other: the least so far
  refine WPA.loopS (σ := Nat × Nat) (fun y => [(0, .pointer (some ⟨p, 0, none⟩)), (1, .int .i64 i), (4, .int .i64 y.2), (5, .int .i64 y.1)])
    (fun y => 2 * i + 1 ≤ y.1 ∧ y.1 ≤ 2 * i + 3 ∧ (y.2 = i ∨ (y.2 < y.1 ∧ y.2 < l.length ∧ 0 < y.2 ∧ par y.2 = i ∧ ltE ky (atE l y.2) (atE l i))) ∧ ∀ k, 2 * i + 1 ≤ k → k < y.1 → k < l.length → ¬ ltE ky (atE l k) (atE l y.2))
    (fun y => SL w0 I (PileR p (l, c) :: L')) (fun y => 2 * i + 3 - y.1) (2 * i + 1, i) ⟨rfl, rfl, rfl, congrArg (Value.int .i64) (by omega : (2 * (i : Int) + 1) = ((2 * i + 1 : Nat) : Int)), trivial⟩ ⟨by simp, by simp, .inl rfl, fun k h1 h2 => by dsimp only at h2; omega⟩ (fun _ h => h) ?_
  rintro ⟨k, m⟩ ρ ⟨hk1, hk2, hm, hmin⟩
  dsimp only at hk1 hk2 hm hmin ⊢
  refine WPA.opn fun s => ?_
  by_cases hr : k ≤ 2 * i + 2 ∧ k < l.length
  · obtain ⟨hr1, hr2⟩ := hr
    have hm2 : m < l.length := by omega
    have hpk : par k = i := by unfold par; omega
    repeat' (first | ((first | refine WLA.m rfl rfl ?_ ?_ | refine WDQ.m rfl rfl ?_ ?_ | refine WDP.m rfl rfl ?_ ?_ | refine WLA.st rfl ?_ ?_ | refine WLA.x rfl rfl ?_ (fun x => ?_) | refine WLA.x0 rfl ?_ (fun x => ?_) | refine WDW.x rfl rfl ?_ (fun x => ?_) | refine WDW.st rfl ?_ ?_); first | exact trivial | exact rfl | assumption | omega | (refine ⟨?_, ?_⟩ <;> omega) | (simp only [Room, lenS]; omega) | decide | skip) | (refine Stp.go ?_) | (guard_target =~ WLA _ _ _ _ _ (⟨_, .call ⟨.value (.func 112), _, _⟩, _, _, _, _⟩ :: _) _ _; refine WLA.call rfl rfl (ahead_tr (k : Int) (m : Int) (by omega) (by omega) hgl) ?_; rintro ⟨⟩) | (refine WPA.ifT ?_) | (refine WPA.ifF ?_) | (refine WLA.no rfl rfl ?_) | ((first | refine WPA.dec ?_ | ((fail_if_success (guard_target =~ WLA _ _ _ _ _ _ (put1 _ _ (.bool true)) _)); (fail_if_success (guard_target =~ WLA _ _ _ _ _ _ (put1 _ _ (.bool false)) _)); refine WLA.dec rfl rfl ?_) | refine WLA.pk ?_); first | refine .inl ⟨by first | assumption | omega | with_reducible rfl | (refine fun h => h ?_; first | assumption | with_reducible rfl) | (simp only [lenS] <;> omega) | decide, ?_⟩ | refine .inr ⟨by first | assumption | omega | with_reducible rfl | (refine fun h => h ?_; first | assumption | with_reducible rfl) | (simp only [lenS] <;> omega) | decide, ?_⟩) | ((first | refine WPA.ifBt ?_ ?_ | refine WPA.ifBnf ?_ ?_); assumption) | ((first | refine WPA.ifBnt ?_ ?_ | refine WPA.ifBf ?_ ?_); assumption) | ((first | refine WPA.ifs ?_ ?_ | refine WPA.ifB ?_ ?_) <;> intro hc) | ((fail_if_success (guard_target =~ WLA _ _ _ _ _ _ (put1 _ _ (.bool true)) _)); (fail_if_success (guard_target =~ WLA _ _ _ _ _ _ (put1 _ _ (.bool false)) _)); (first | refine WLA.both rfl rfl ?_ ?_ | refine WLA.bothB rfl rfl ?_ ?_) <;> intro hg) | (guard_target =~ WPA _ _ _ (.region 7 _ true) _ _ _; refine WPA.drawT 26 (.p 0 (.p 1 (.p 2 (.q 3 (.p 4 (.p 5 (.p 6 (.p 7 (.q 8 (.p 9 (.p 10 (.p 11 (.p 12 (.q 13 (.p 14 (.q 15 (.q 16 (.p 17 (.p 18 (.p 19 (.q 20 (.p 21 (.q 22 (.q 23 (.q 24 (.w 25 .fin)))))))))))))))))))))))))) mixed ?_ ?_; kernel_rfl) | (refine WDA.finish (tl := [⟨_, _, _, _, _, _⟩, ⟨_, _, _, _, _, _⟩]) rfl ?_) | (refine WDQ.see rfl ?_) | (refine WDP.see rfl ?_) | (refine WDW.see rfl ?_) | (guard_target =~ WDE _ _ _ _ _ _ _ ⟨_, .call ⟨.value (.func 112), _, _⟩, _, _, _, _⟩ _ _ _; refine WDE.call rfl rfl (ahead_tr (k : Int) (m : Int) (by omega) (by omega) hgl) ?_ ?_; (intro x w h; first | exact h | exact Ent.drop1.sl h | exact SL.unI h | exact SL.to h); rintro ⟨⟩) | (guard_target =~ WDW _ _ _ _ _ _ _ ⟨_, .call ⟨.value (.func 112), _, _⟩, _, _, _, _⟩ _ _ _; refine WDW.call rfl rfl (ahead_tr (k : Int) (m : Int) (by omega) (by omega) hgl) ?_; rintro ⟨⟩))
    · refine QQ.loopS (k + 1, k) ⟨rfl, rfl, rfl, rfl, trivial⟩ ⟨by dsimp only; omega, by dsimp only; omega, .inr ⟨by dsimp only; omega, hr2, by dsimp only; omega, hpk, ?_⟩, fun q h1 h2 h3 => ?_⟩ (by dsimp only; omega) (fun w h => h)
      · rcases hm with rfl | ⟨_, _, _, _, h5⟩
        · exact hc
        · exact ltE_tt hc h5
      · rcases Nat.lt_or_ge q k with h4 | h4
        · have h5 := hmin q h1 h4 h3; exact leE_tr (ltE_as hc) h5
        · have : q = k := by dsimp only at h2; omega
          subst this; exact ltE_irr _
    · refine QQ.loopS (k + 1, m) ⟨rfl, rfl, rfl, rfl, trivial⟩ ⟨by dsimp only; omega, by dsimp only; omega, hm.imp id (fun h => ⟨by dsimp only; omega, h.2⟩), fun q h1 h2 h3 => ?_⟩ (by dsimp only; omega) (fun w h => h)
      rcases Nat.lt_or_ge q k with h4 | h4
      · exact hmin q h1 h4 h3
      · have : q = k := by dsimp only at h2; omega
        subst this; exact hc
  · have hall : ∀ q, 2 * i + 1 ≤ q → q < l.length → par q = i → ¬ ltE ky (atE l q) (atE l m) := fun q h1 h2 h3 => hmin q h1 (by unfold par at h3; omega) h2
    have hch : ∀ q, 0 < q → q < l.length → par q = i → ¬ ltE ky (atE l q) (atE l m) := fun q h0 h1 h2 => hall q (by unfold par at h2; omega) h1 h2
    by_cases hmi : m = i
    · subst hmi
      repeat' (first | ((first | refine WLA.m rfl rfl ?_ ?_ | refine WDQ.m rfl rfl ?_ ?_ | refine WDP.m rfl rfl ?_ ?_ | refine WLA.st rfl ?_ ?_ | refine WLA.x rfl rfl ?_ (fun x => ?_) | refine WLA.x0 rfl ?_ (fun x => ?_) | refine WDW.x rfl rfl ?_ (fun x => ?_) | refine WDW.st rfl ?_ ?_); first | exact trivial | exact rfl | assumption | omega | (refine ⟨?_, ?_⟩ <;> omega) | (simp only [Room, lenS]; omega) | decide | skip) | (refine Stp.go ?_) | (refine WPA.ifT ?_) | (refine WPA.ifF ?_) | (refine WLA.no rfl rfl ?_) | ((first | refine WPA.dec ?_ | ((fail_if_success (guard_target =~ WLA _ _ _ _ _ _ (put1 _ _ (.bool true)) _)); (fail_if_success (guard_target =~ WLA _ _ _ _ _ _ (put1 _ _ (.bool false)) _)); refine WLA.dec rfl rfl ?_) | refine WLA.pk ?_); first | refine .inl ⟨by first | assumption | omega | with_reducible rfl | (refine fun h => h ?_; first | assumption | with_reducible rfl) | (simp only [lenS] <;> omega) | decide, ?_⟩ | refine .inr ⟨by first | assumption | omega | with_reducible rfl | (refine fun h => h ?_; first | assumption | with_reducible rfl) | (simp only [lenS] <;> omega) | decide, ?_⟩) | ((first | refine WPA.ifBt ?_ ?_ | refine WPA.ifBnf ?_ ?_); assumption) | ((first | refine WPA.ifBnt ?_ ?_ | refine WPA.ifBf ?_ ?_); assumption) | ((first | refine WPA.ifs ?_ ?_ | refine WPA.ifB ?_ ?_) <;> intro hc) | ((fail_if_success (guard_target =~ WLA _ _ _ _ _ _ (put1 _ _ (.bool true)) _)); (fail_if_success (guard_target =~ WLA _ _ _ _ _ _ (put1 _ _ (.bool false)) _)); (first | refine WLA.both rfl rfl ?_ ?_ | refine WLA.bothB rfl rfl ?_ ?_) <;> intro hg) | (guard_target =~ WPA _ _ _ (.region 7 _ true) _ _ _; refine WPA.drawT 26 (.p 0 (.p 1 (.p 2 (.q 3 (.p 4 (.p 5 (.p 6 (.p 7 (.q 8 (.p 9 (.p 10 (.p 11 (.p 12 (.q 13 (.p 14 (.q 15 (.q 16 (.p 17 (.p 18 (.p 19 (.q 20 (.p 21 (.q 22 (.q 23 (.q 24 (.w 25 .fin)))))))))))))))))))))))))) mixed ?_ ?_; kernel_rfl) | (refine WDA.finish (tl := [⟨_, _, _, _, _, _⟩, ⟨_, _, _, _, _, _⟩]) rfl ?_) | (refine WDQ.see rfl ?_) | (refine WDP.see rfl ?_) | (refine WDW.see rfl ?_))
      all_goals exact QQ.end_ rfl ⟨l, hp, down_done hu hch⟩ rfl fun w h => h.to
    · obtain ⟨hm1, hm2, hm3, hm4, hm5⟩ := hm.resolve_left hmi
      have him : i < m := by unfold par at hm4; omega
      have hmi2 : ¬ (m : Int) = i := by omega
      have him2 : i ≠ m := by omega
      repeat' (first | ((first | refine WLA.m rfl rfl ?_ ?_ | refine WDQ.m rfl rfl ?_ ?_ | refine WDP.m rfl rfl ?_ ?_ | refine WLA.st rfl ?_ ?_ | refine WLA.x rfl rfl ?_ (fun x => ?_) | refine WLA.x0 rfl ?_ (fun x => ?_) | refine WDW.x rfl rfl ?_ (fun x => ?_) | refine WDW.st rfl ?_ ?_); first | exact trivial | exact rfl | assumption | omega | (refine ⟨?_, ?_⟩ <;> omega) | (simp only [Room, lenS]; omega) | decide | skip) | (refine Stp.go ?_) | (refine WPA.ifT ?_) | (refine WPA.ifF ?_) | (refine WLA.no rfl rfl ?_) | ((first | refine WPA.dec ?_ | ((fail_if_success (guard_target =~ WLA _ _ _ _ _ _ (put1 _ _ (.bool true)) _)); (fail_if_success (guard_target =~ WLA _ _ _ _ _ _ (put1 _ _ (.bool false)) _)); refine WLA.dec rfl rfl ?_) | refine WLA.pk ?_); first | refine .inl ⟨by first | assumption | omega | with_reducible rfl | (refine fun h => h ?_; first | assumption | with_reducible rfl) | (simp only [lenS] <;> omega) | decide, ?_⟩ | refine .inr ⟨by first | assumption | omega | with_reducible rfl | (refine fun h => h ?_; first | assumption | with_reducible rfl) | (simp only [lenS] <;> omega) | decide, ?_⟩) | ((first | refine WPA.ifBt ?_ ?_ | refine WPA.ifBnf ?_ ?_); assumption) | ((first | refine WPA.ifBnt ?_ ?_ | refine WPA.ifBf ?_ ?_); assumption) | ((first | refine WPA.ifs ?_ ?_ | refine WPA.ifB ?_ ?_) <;> intro hc) | ((fail_if_success (guard_target =~ WLA _ _ _ _ _ _ (put1 _ _ (.bool true)) _)); (fail_if_success (guard_target =~ WLA _ _ _ _ _ _ (put1 _ _ (.bool false)) _)); (first | refine WLA.both rfl rfl ?_ ?_ | refine WLA.bothB rfl rfl ?_ ?_) <;> intro hg) | (guard_target =~ WPA _ _ _ (.region 7 _ true) _ _ _; refine WPA.drawT 26 (.p 0 (.p 1 (.p 2 (.q 3 (.p 4 (.p 5 (.p 6 (.p 7 (.q 8 (.p 9 (.p 10 (.p 11 (.p 12 (.q 13 (.p 14 (.q 15 (.q 16 (.p 17 (.p 18 (.p 19 (.q 20 (.p 21 (.q 22 (.q 23 (.q 24 (.w 25 .fin)))))))))))))))))))))))))) mixed ?_ ?_; kernel_rfl) | (refine WDA.finish (tl := [⟨_, _, _, _, _, _⟩, ⟨_, _, _, _, _, _⟩]) rfl ?_) | (refine WDQ.see rfl ?_) | (refine WDP.see rfl ?_) | (refine WDW.see rfl ?_))
      all_goals
        rw [sw_walk _ _ _ him2]
        refine QQ.loopS (m, swL l i m) ⟨rfl, rfl, trivial⟩ ⟨.inl (by rw [swL_len]; exact hm2), (sw_perm (by omega) hm2).trans hp, ?_⟩ (by dsimp only; omega) (fun w h => h.to)
        rw [swL_len, atE_sw (by omega) hm2]
        exact down_step hu hm2 hm3 hm4 hm5 hch
end Go.Proofs.YtamnobjdgjbmbaaGreat
