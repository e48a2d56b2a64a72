/- Texts that TallyStats_law leans on, part 5. Conditions: none. -/
import Derived.Test.YtamnobjdgjbmbaaGreatQs4
namespace Go.Proofs.YtamnobjdgjbmbaaGreat
open Go Go.Fw Go.RowKit
set_option linter.unusedVariables false
set_option linter.unusedSimpArgs false
set_option maxRecDepth 100000
set_option maxHeartbeats 16000000
set_option synthInstance.maxHeartbeats 200000
set_option synthInstance.maxSize 100000
attribute [local irreducible] WPA WLA WDA WDQ WDE QQ seqQ blockQ loopQ fnQ OpP OpT Tr TrP SL SLd OwnS LitS Bk BkE Ob
section
variable {L : List HP} {w0 : World} {I : Foot}
theorem Equal_tr {a b : SV} {xs ys : List Int} [ha : RdS I L a Int inferInstance xs] [hb : RdS I L b Int inferInstance ys] (hn : xs.length ≤ 1000000000) : TrP Tryz.prog 68 #[.slice a.a a.n a.cap, .slice b.a b.n b.cap] (SL w0 I L) (.bool (decide (xs = ys))) := by
  refine TrP.ofD fun u => Tr.intro Tryz.func68 rfl Tryz.ntmps68 rfl ?_
  by_cases hl : xs.length = ys.length
  · have hl' : ¬ (xs.length : Int) ≠ ys.length := by omega
    repeat' (first | ((first | refine WLA.m rfl rfl ?_ ?_ | refine WLA.st rfl ?_ ?_ | refine WLA.x rfl rfl ?_ (fun x => ?_) | refine WLA.x0 rfl ?_ (fun x => ?_)); first | exact trivial | exact rfl | assumption | omega | (refine ⟨?_, ?_⟩ <;> omega) | (simp only [Room, lenS]; omega) | decide | skip) | (refine Stp.go ?_) | (refine WPA.ifT ?_) | (refine WPA.ifF ?_) | ((first | refine WPA.dec ?_); first | refine .inl ⟨by first | assumption | omega | with_reducible rfl | (refine fun h => h ?_; first | assumption | with_reducible rfl) | (simp only [lenS] <;> omega) | decide, ?_⟩ | refine .inr ⟨by first | assumption | omega | with_reducible rfl | (refine fun h => h ?_; first | assumption | with_reducible rfl) | (simp only [lenS] <;> omega) | decide, ?_⟩) | ((first | refine WPA.ifBt ?_ ?_ | refine WPA.ifBnf ?_ ?_); assumption) | ((first | refine WPA.ifBnt ?_ ?_ | refine WPA.ifBf ?_ ?_); assumption) | ((first | refine WPA.ifs ?_ ?_ | refine WPA.ifB ?_ ?_) <;> intro hc))
    refine WPA.loopS (σ := Nat) (fun i => [(0, .slice a.a a.n a.cap), (1, .slice b.a b.n b.cap), (12, .int .i64 xs.length), (13, .int .i64 i)]) (fun i => i ≤ xs.length ∧ xs.take i = ys.take i)
      (fun i => SLd w0 I L u) (fun i => xs.length - i) 0 ⟨rfl, rfl, rfl, rfl, trivial⟩ ⟨Nat.zero_le _, by simp⟩ (fun w h => h) ?_
    rintro i ρ ⟨hi, he⟩
    by_cases hlt : i < xs.length
    · have hlt' : (i : Int) < xs.length := by omega
      have hx := at_nat xs i hlt
      have hy := at_nat ys i (by omega)
      by_cases hxy : at_ xs (i : Int) = at_ ys (i : Int)
      · have hxy' : ¬ at_ xs (i : Int) ≠ at_ ys (i : Int) := fun h => h hxy
        repeat' (first | ((first | refine WLA.m rfl rfl ?_ ?_ | refine WDQ.m rfl rfl ?_ ?_ | refine WLA.st rfl ?_ ?_ | refine WLA.x rfl rfl ?_ (fun x => ?_) | refine WLA.x0 rfl ?_ (fun x => ?_)); first | exact trivial | exact rfl | assumption | omega | (refine ⟨?_, ?_⟩ <;> omega) | (simp only [Room, lenS]; omega) | decide | skip) | (refine Stp.go ?_) | (refine WPA.ifT ?_) | (refine WPA.ifF ?_) | ((first | refine WPA.dec ?_); first | refine .inl ⟨by first | assumption | omega | with_reducible rfl | (refine fun h => h ?_; first | assumption | with_reducible rfl) | (simp only [lenS] <;> omega) | decide, ?_⟩ | refine .inr ⟨by first | assumption | omega | with_reducible rfl | (refine fun h => h ?_; first | assumption | with_reducible rfl) | (simp only [lenS] <;> omega) | decide, ?_⟩) | ((first | refine WPA.ifBt ?_ ?_ | refine WPA.ifBnf ?_ ?_); assumption) | ((first | refine WPA.ifBnt ?_ ?_ | refine WPA.ifBf ?_ ?_); assumption) | ((first | refine WPA.ifs ?_ ?_ | refine WPA.ifB ?_ ?_) <;> intro hc) | (guard_target =~ WPA _ _ _ (.region 6 _ true) _ _ _; refine WPA.drawT 8 (.q 0 (.q 1 (.q 2 (.q 3 (.q 4 (.q 5 (.q 6 (.q 7 .fin)))))))) mixed ?_ ?_; kernel_rfl) | (refine WDA.finish (tl := [⟨_, _, _, _, _, _⟩]) rfl ?_) | (refine WDQ.see rfl ?_))
        refine QQ.loopS (i + 1) ⟨rfl, rfl, rfl, rfl, trivial⟩ ⟨hlt, ?_⟩ (by omega) (fun w h => h)
        rw [List.take_add_one, List.take_add_one, he, List.getElem?_eq_getElem hlt, List.getElem?_eq_getElem (by omega), ← hx, ← hy, hxy]
      · have hxy' : at_ xs (i : Int) ≠ at_ ys (i : Int) := hxy
        repeat' (first | ((first | refine WLA.m rfl rfl ?_ ?_ | refine WDQ.m rfl rfl ?_ ?_ | refine WLA.st rfl ?_ ?_ | refine WLA.x rfl rfl ?_ (fun x => ?_) | refine WLA.x0 rfl ?_ (fun x => ?_)); first | exact trivial | exact rfl | assumption | omega | (refine ⟨?_, ?_⟩ <;> omega) | (simp only [Room, lenS]; omega) | decide | skip) | (refine Stp.go ?_) | (refine WPA.ifT ?_) | (refine WPA.ifF ?_) | ((first | refine WPA.dec ?_); first | refine .inl ⟨by first | assumption | omega | with_reducible rfl | (refine fun h => h ?_; first | assumption | with_reducible rfl) | (simp only [lenS] <;> omega) | decide, ?_⟩ | refine .inr ⟨by first | assumption | omega | with_reducible rfl | (refine fun h => h ?_; first | assumption | with_reducible rfl) | (simp only [lenS] <;> omega) | decide, ?_⟩) | ((first | refine WPA.ifBt ?_ ?_ | refine WPA.ifBnf ?_ ?_); assumption) | ((first | refine WPA.ifBnt ?_ ?_ | refine WPA.ifBf ?_ ?_); assumption) | ((first | refine WPA.ifs ?_ ?_ | refine WPA.ifB ?_ ?_) <;> intro hc) | (guard_target =~ WPA _ _ _ (.region 6 _ true) _ _ _; refine WPA.drawT 8 (.q 0 (.q 1 (.q 2 (.q 3 (.q 4 (.q 5 (.q 6 (.q 7 .fin)))))))) mixed ?_ ?_; kernel_rfl) | (refine WDA.finish (tl := [⟨_, _, _, _, _, _⟩]) rfl ?_) | (refine WDQ.see rfl ?_))
        refine QQ.end_ rfl () (congrArg Value.bool (decide_eq_false fun e => hxy ?_).symm) fun w h => h
        subst e; rfl
    · have hlt' : ¬ (i : Int) < xs.length := by omega
      repeat' (first | ((first | refine WLA.m rfl rfl ?_ ?_ | refine WDQ.m rfl rfl ?_ ?_ | refine WLA.st rfl ?_ ?_ | refine WLA.x rfl rfl ?_ (fun x => ?_) | refine WLA.x0 rfl ?_ (fun x => ?_)); first | exact trivial | exact rfl | assumption | omega | (refine ⟨?_, ?_⟩ <;> omega) | (simp only [Room, lenS]; omega) | decide | skip) | (refine Stp.go ?_) | (refine WPA.ifT ?_) | (refine WPA.ifF ?_) | ((first | refine WPA.dec ?_); first | refine .inl ⟨by first | assumption | omega | with_reducible rfl | (refine fun h => h ?_; first | assumption | with_reducible rfl) | (simp only [lenS] <;> omega) | decide, ?_⟩ | refine .inr ⟨by first | assumption | omega | with_reducible rfl | (refine fun h => h ?_; first | assumption | with_reducible rfl) | (simp only [lenS] <;> omega) | decide, ?_⟩) | ((first | refine WPA.ifBt ?_ ?_ | refine WPA.ifBnf ?_ ?_); assumption) | ((first | refine WPA.ifBnt ?_ ?_ | refine WPA.ifBf ?_ ?_); assumption) | ((first | refine WPA.ifs ?_ ?_ | refine WPA.ifB ?_ ?_) <;> intro hc) | (guard_target =~ WPA _ _ _ (.region 6 _ true) _ _ _; refine WPA.drawT 8 (.q 0 (.q 1 (.q 2 (.q 3 (.q 4 (.q 5 (.q 6 (.q 7 .fin)))))))) mixed ?_ ?_; kernel_rfl) | (refine WDA.finish (tl := [⟨_, _, _, _, _, _⟩]) rfl ?_) | (refine WDQ.see rfl ?_))
      refine QQ.end_ rfl () (congrArg Value.bool (decide_eq_true ?_).symm) fun w h => h
      rw [List.take_of_length_le (by omega), List.take_of_length_le (by omega)] at he
      exact he
  · have hl' : (xs.length : Int) ≠ ys.length := by omega
    repeat' (first | ((first | refine WLA.m rfl rfl ?_ ?_ | refine WLA.st rfl ?_ ?_ | refine WLA.x rfl rfl ?_ (fun x => ?_) | refine WLA.x0 rfl ?_ (fun x => ?_)); first | exact trivial | exact rfl | assumption | omega | (refine ⟨?_, ?_⟩ <;> omega) | (simp only [Room, lenS]; omega) | decide | skip) | (refine Stp.go ?_) | (refine WPA.ifT ?_) | (refine WPA.ifF ?_) | ((first | refine WPA.dec ?_); first | refine .inl ⟨by first | assumption | omega | with_reducible rfl | (refine fun h => h ?_; first | assumption | with_reducible rfl) | (simp only [lenS] <;> omega) | decide, ?_⟩ | refine .inr ⟨by first | assumption | omega | with_reducible rfl | (refine fun h => h ?_; first | assumption | with_reducible rfl) | (simp only [lenS] <;> omega) | decide, ?_⟩) | ((first | refine WPA.ifBt ?_ ?_ | refine WPA.ifBnf ?_ ?_); assumption) | ((first | refine WPA.ifBnt ?_ ?_ | refine WPA.ifBf ?_ ?_); assumption) | ((first | refine WPA.ifs ?_ ?_ | refine WPA.ifB ?_ ?_) <;> intro hc))
    exact QQ.end_ rfl () (congrArg Value.bool (decide_eq_false fun e => hl (by rw [e])).symm) fun w h => h
end
end Go.Proofs.YtamnobjdgjbmbaaGreat
namespace Go.Proofs.YtamnobjdgjbmbaaGreat
open Go Go.Fw Go.RowKit
set_option linter.unusedVariables false
set_option linter.unusedSimpArgs false
set_option maxRecDepth 100000
set_option maxHeartbeats 16000000
set_option synthInstance.maxHeartbeats 200000
set_option synthInstance.maxSize 100000
attribute [local irreducible] WPA WLA WDA WDQ WDE QQ seqQ blockQ loopQ fnQ OpP OpT Tr TrP SL SLd OwnS LitS Bk BkE Ob
theorem Clone_tr {a : SV} {xs : List Int} {L : List HP} {w0 : World} {I : Foot} [ha : RdS I L a Int inferInstance xs] (hn : xs.length ≤ 1000000) : Tr Tryz.prog 46 #[.slice a.a a.n a.cap] (SL w0 I L) (fun r : SV => .slice r.a r.n r.cap) (fun r => SL w0 I (OwnS 3 r xs :: L)) := by
  refine Tr.intro Tryz.func46 rfl Tryz.ntmps46 rfl ?_
  repeat' (first | ((first | refine WLA.m rfl rfl ?_ ?_ | refine WLA.st rfl ?_ ?_ | refine WLA.x rfl rfl ?_ (fun x => ?_) | refine WLA.x0 rfl ?_ (fun x => ?_)); first | exact trivial | exact rfl | assumption | omega | (refine ⟨?_, ?_⟩ <;> omega) | (simp only [Room, lenS]; omega) | decide | skip) | (refine Stp.go ?_) | (refine WPA.ifT ?_) | (refine WPA.ifF ?_) | ((first | refine WPA.dec ?_); first | refine .inl ⟨by first | assumption | omega | with_reducible rfl | (refine fun h => h ?_; first | assumption | with_reducible rfl) | (simp only [lenS] <;> omega) | decide, ?_⟩ | refine .inr ⟨by first | assumption | omega | with_reducible rfl | (refine fun h => h ?_; first | assumption | with_reducible rfl) | (simp only [lenS] <;> omega) | decide, ?_⟩) | ((first | refine WPA.ifBt ?_ ?_ | refine WPA.ifBnf ?_ ?_); assumption) | ((first | refine WPA.ifBnt ?_ ?_ | refine WPA.ifBf ?_ ?_); assumption) | ((first | refine WPA.ifs ?_ ?_ | refine WPA.ifB ?_ ?_) <;> intro hc))
  · refine QQ.end_ rfl SV.nil rfl fun w h => ?_
    have hr := ha.out w0 w h
    have h0 : xs = [] := by
      have hn := hr.len
      rcases hr.plain with h0 | ⟨b, o, e⟩
      · exact List.eq_nil_of_length_eq_zero (by omega)
      · rw [e] at hc; cases hc
    rw [h0]
    exact h.to
  · exact QQ.end_ rfl x rfl fun w h => h.to
end Go.Proofs.YtamnobjdgjbmbaaGreat
namespace Go.Proofs.YtamnobjdgjbmbaaGreat
open Go Go.Fw Go.RowKit
set_option linter.unusedVariables false
set_option linter.unusedSimpArgs false
set_option maxRecDepth 100000
set_option maxHeartbeats 16000000
set_option synthInstance.maxHeartbeats 200000
set_option synthInstance.maxSize 100000
attribute [local irreducible] WPA WLA WDA WDQ WDE QQ seqQ blockQ loopQ fnQ OpP OpT Tr TrP SL SLd OwnS LitS Bk BkE Ob
def cmpL : List Int → List Int → Int
  | [], [] => 0
  | [], _ :: _ => -1
  | _ :: _, [] => 1
  | a :: l, b :: m => if a < b then -1 else if b < a then 1 else cmpL l m
theorem Compare_tr {a b : SV} {xs ys : List Int} {L : List HP} {w0 : World} {I : Foot} [ha : RdS I L a Int inferInstance xs] [hb : RdS I L b Int inferInstance ys] (hn : xs.length ≤ 1000000000) (hm : ys.length ≤ 1000000000) : TrP Tryz.prog 39 #[.slice a.a a.n a.cap, .slice b.a b.n b.cap] (SL w0 I L) (.int .i64 (cmpL xs ys)) := by
  refine TrP.ofD fun u => Tr.intro Tryz.func39 rfl Tryz.ntmps39 rfl ?_
  repeat' (first | ((first | refine WLA.m rfl rfl ?_ ?_ | refine WLA.st rfl ?_ ?_ | refine WLA.x rfl rfl ?_ (fun x => ?_) | refine WLA.x0 rfl ?_ (fun x => ?_)); first | exact trivial | exact rfl | assumption | omega | (refine ⟨?_, ?_⟩ <;> omega) | (simp only [Room, lenS]; omega) | decide | skip) | (refine Stp.go ?_) | (refine WPA.ifT ?_) | (refine WPA.ifF ?_) | ((first | refine WPA.dec ?_); first | refine .inl ⟨by first | assumption | omega | with_reducible rfl | (refine fun h => h ?_; first | assumption | with_reducible rfl) | (simp only [lenS] <;> omega) | decide, ?_⟩ | refine .inr ⟨by first | assumption | omega | with_reducible rfl | (refine fun h => h ?_; first | assumption | with_reducible rfl) | (simp only [lenS] <;> omega) | decide, ?_⟩) | ((first | refine WPA.ifBt ?_ ?_ | refine WPA.ifBnf ?_ ?_); assumption) | ((first | refine WPA.ifBnt ?_ ?_ | refine WPA.ifBf ?_ ?_); assumption) | ((first | refine WPA.ifs ?_ ?_ | refine WPA.ifB ?_ ?_) <;> intro hc))
  refine WPA.loopS (σ := Nat) (fun i => [(0, .slice a.a a.n a.cap), (1, .slice b.a b.n b.cap), (5, .int .i64 i)]) (fun i => (i ≤ xs.length ∧ i ≤ ys.length) ∧ cmpL (xs.drop i) (ys.drop i) = cmpL xs ys)
    (fun i => SLd w0 I L u) (fun i => xs.length - i) 0 ⟨rfl, rfl, rfl, trivial⟩ ⟨⟨Nat.zero_le _, Nat.zero_le _⟩, rfl⟩ (fun w h => h) ?_
  rintro i ρ ⟨⟨hi, hj⟩, he⟩
  by_cases hx : i < xs.length
  · have hx' : (i : Int) < xs.length := by omega
    by_cases hy : i < ys.length
    · have hy' : (i : Int) < ys.length := by omega
      rw [List.drop_eq_getElem_cons hx, List.drop_eq_getElem_cons hy, cmpL, ← at_nat xs i hx, ← at_nat ys i hy] at he
      by_cases h1 : at_ xs (i : Int) < at_ ys (i : Int)
      · rw [if_pos h1] at he
        repeat' (first | ((first | refine WLA.m rfl rfl ?_ ?_ | refine WDQ.m rfl rfl ?_ ?_ | refine WLA.st rfl ?_ ?_ | refine WLA.x rfl rfl ?_ (fun x => ?_) | refine WLA.x0 rfl ?_ (fun x => ?_)); first | exact trivial | exact rfl | assumption | omega | (refine ⟨?_, ?_⟩ <;> omega) | (simp only [Room, lenS]; omega) | decide | skip) | (refine Stp.go ?_) | (refine WPA.ifT ?_) | (refine WPA.ifF ?_) | (refine WLA.no rfl rfl ?_) | ((first | refine WPA.dec ?_ | ((fail_if_success (guard_target =~ WLA _ _ _ _ _ _ (put1 _ _ (.bool true)) _)); (fail_if_success (guard_target =~ WLA _ _ _ _ _ _ (put1 _ _ (.bool false)) _)); refine WLA.dec rfl rfl ?_) | refine WLA.pk ?_); first | refine .inl ⟨by first | assumption | omega | with_reducible rfl | (refine fun h => h ?_; first | assumption | with_reducible rfl) | (simp only [lenS] <;> omega) | decide, ?_⟩ | refine .inr ⟨by first | assumption | omega | with_reducible rfl | (refine fun h => h ?_; first | assumption | with_reducible rfl) | (simp only [lenS] <;> omega) | decide, ?_⟩) | ((first | refine WPA.ifBt ?_ ?_ | refine WPA.ifBnf ?_ ?_); assumption) | ((first | refine WPA.ifBnt ?_ ?_ | refine WPA.ifBf ?_ ?_); assumption) | ((first | refine WPA.ifs ?_ ?_ | refine WPA.ifB ?_ ?_) <;> intro hc) | ((fail_if_success (guard_target =~ WLA _ _ _ _ _ _ (put1 _ _ (.bool true)) _)); (fail_if_success (guard_target =~ WLA _ _ _ _ _ _ (put1 _ _ (.bool false)) _)); (first | refine WLA.both rfl rfl ?_ ?_ | refine WLA.bothB rfl rfl ?_ ?_) <;> intro hg) | (guard_target =~ WPA _ _ _ (.region 4 _ true) _ _ _; refine WPA.drawT 8 (.q 0 (.q 1 (.q 2 (.q 3 (.q 4 (.q 5 (.q 6 (.q 7 .fin)))))))) mixed ?_ ?_; kernel_rfl) | (refine WDA.finish (tl := [⟨_, _, _, _, _, _⟩]) rfl ?_) | (refine WDQ.see rfl ?_))
        rw [← he]
        exact QQ.end_ rfl () rfl fun w h => h
      · rw [if_neg h1] at he
        by_cases h2 : at_ ys (i : Int) < at_ xs (i : Int)
        · rw [if_pos h2] at he
          repeat' (first | ((first | refine WLA.m rfl rfl ?_ ?_ | refine WDQ.m rfl rfl ?_ ?_ | refine WLA.st rfl ?_ ?_ | refine WLA.x rfl rfl ?_ (fun x => ?_) | refine WLA.x0 rfl ?_ (fun x => ?_)); first | exact trivial | exact rfl | assumption | omega | (refine ⟨?_, ?_⟩ <;> omega) | (simp only [Room, lenS]; omega) | decide | skip) | (refine Stp.go ?_) | (refine WPA.ifT ?_) | (refine WPA.ifF ?_) | (refine WLA.no rfl rfl ?_) | ((first | refine WPA.dec ?_ | ((fail_if_success (guard_target =~ WLA _ _ _ _ _ _ (put1 _ _ (.bool true)) _)); (fail_if_success (guard_target =~ WLA _ _ _ _ _ _ (put1 _ _ (.bool false)) _)); refine WLA.dec rfl rfl ?_) | refine WLA.pk ?_); first | refine .inl ⟨by first | assumption | omega | with_reducible rfl | (refine fun h => h ?_; first | assumption | with_reducible rfl) | (simp only [lenS] <;> omega) | decide, ?_⟩ | refine .inr ⟨by first | assumption | omega | with_reducible rfl | (refine fun h => h ?_; first | assumption | with_reducible rfl) | (simp only [lenS] <;> omega) | decide, ?_⟩) | ((first | refine WPA.ifBt ?_ ?_ | refine WPA.ifBnf ?_ ?_); assumption) | ((first | refine WPA.ifBnt ?_ ?_ | refine WPA.ifBf ?_ ?_); assumption) | ((first | refine WPA.ifs ?_ ?_ | refine WPA.ifB ?_ ?_) <;> intro hc) | ((fail_if_success (guard_target =~ WLA _ _ _ _ _ _ (put1 _ _ (.bool true)) _)); (fail_if_success (guard_target =~ WLA _ _ _ _ _ _ (put1 _ _ (.bool false)) _)); (first | refine WLA.both rfl rfl ?_ ?_ | refine WLA.bothB rfl rfl ?_ ?_) <;> intro hg) | (guard_target =~ WPA _ _ _ (.region 4 _ true) _ _ _; refine WPA.drawT 8 (.q 0 (.q 1 (.q 2 (.q 3 (.q 4 (.q 5 (.q 6 (.q 7 .fin)))))))) mixed ?_ ?_; kernel_rfl) | (guard_target =~ WPA _ _ _ (.region 6 _ true) _ _ _; refine WPA.drawT 8 (.q 0 (.q 1 (.q 2 (.q 3 (.q 4 (.q 5 (.q 6 (.q 7 .fin)))))))) mixed ?_ ?_; kernel_rfl) | (refine WDA.finish (tl := [⟨_, _, _, _, _, _⟩]) rfl ?_) | (refine WDQ.see rfl ?_))
          rw [← he]
          exact QQ.end_ rfl () rfl fun w h => h
        · rw [if_neg h2] at he
          repeat' (first | ((first | refine WLA.m rfl rfl ?_ ?_ | refine WDQ.m rfl rfl ?_ ?_ | refine WLA.st rfl ?_ ?_ | refine WLA.x rfl rfl ?_ (fun x => ?_) | refine WLA.x0 rfl ?_ (fun x => ?_)); first | exact trivial | exact rfl | assumption | omega | (refine ⟨?_, ?_⟩ <;> omega) | (simp only [Room, lenS]; omega) | decide | skip) | (refine Stp.go ?_) | (refine WPA.ifT ?_) | (refine WPA.ifF ?_) | (refine WLA.no rfl rfl ?_) | ((first | refine WPA.dec ?_ | ((fail_if_success (guard_target =~ WLA _ _ _ _ _ _ (put1 _ _ (.bool true)) _)); (fail_if_success (guard_target =~ WLA _ _ _ _ _ _ (put1 _ _ (.bool false)) _)); refine WLA.dec rfl rfl ?_) | refine WLA.pk ?_); first | refine .inl ⟨by first | assumption | omega | with_reducible rfl | (refine fun h => h ?_; first | assumption | with_reducible rfl) | (simp only [lenS] <;> omega) | decide, ?_⟩ | refine .inr ⟨by first | assumption | omega | with_reducible rfl | (refine fun h => h ?_; first | assumption | with_reducible rfl) | (simp only [lenS] <;> omega) | decide, ?_⟩) | ((first | refine WPA.ifBt ?_ ?_ | refine WPA.ifBnf ?_ ?_); assumption) | ((first | refine WPA.ifBnt ?_ ?_ | refine WPA.ifBf ?_ ?_); assumption) | ((first | refine WPA.ifs ?_ ?_ | refine WPA.ifB ?_ ?_) <;> intro hc) | ((fail_if_success (guard_target =~ WLA _ _ _ _ _ _ (put1 _ _ (.bool true)) _)); (fail_if_success (guard_target =~ WLA _ _ _ _ _ _ (put1 _ _ (.bool false)) _)); (first | refine WLA.both rfl rfl ?_ ?_ | refine WLA.bothB rfl rfl ?_ ?_) <;> intro hg) | (guard_target =~ WPA _ _ _ (.region 4 _ true) _ _ _; refine WPA.drawT 8 (.q 0 (.q 1 (.q 2 (.q 3 (.q 4 (.q 5 (.q 6 (.q 7 .fin)))))))) mixed ?_ ?_; kernel_rfl) | (guard_target =~ WPA _ _ _ (.region 6 _ true) _ _ _; refine WPA.drawT 8 (.q 0 (.q 1 (.q 2 (.q 3 (.q 4 (.q 5 (.q 6 (.q 7 .fin)))))))) mixed ?_ ?_; kernel_rfl) | (refine WDA.finish (tl := [⟨_, _, _, _, _, _⟩]) rfl ?_) | (refine WDQ.see rfl ?_))
          exact QQ.loopS (i + 1) ⟨rfl, rfl, rfl, trivial⟩ ⟨⟨hx, hy⟩, he⟩ (by omega) (fun w h => h)
    · have hy' : ¬ (i : Int) < ys.length := by omega
      have hl : ¬ (xs.length : Int) < ys.length := by omega
      have hl2 : (ys.length : Int) < xs.length := by omega
      rw [List.drop_eq_getElem_cons hx, List.drop_of_length_le (by omega : ys.length ≤ i), cmpL] at he
      repeat' (first | ((first | refine WLA.m rfl rfl ?_ ?_ | refine WDQ.m rfl rfl ?_ ?_ | refine WLA.st rfl ?_ ?_ | refine WLA.x rfl rfl ?_ (fun x => ?_) | refine WLA.x0 rfl ?_ (fun x => ?_)); first | exact trivial | exact rfl | assumption | omega | (refine ⟨?_, ?_⟩ <;> omega) | (simp only [Room, lenS]; omega) | decide | skip) | (refine Stp.go ?_) | (refine WPA.ifT ?_) | (refine WPA.ifF ?_) | (refine WLA.no rfl rfl ?_) | ((first | refine WPA.dec ?_ | ((fail_if_success (guard_target =~ WLA _ _ _ _ _ _ (put1 _ _ (.bool true)) _)); (fail_if_success (guard_target =~ WLA _ _ _ _ _ _ (put1 _ _ (.bool false)) _)); refine WLA.dec rfl rfl ?_) | refine WLA.pk ?_); first | refine .inl ⟨by first | assumption | omega | with_reducible rfl | (refine fun h => h ?_; first | assumption | with_reducible rfl) | (simp only [lenS] <;> omega) | decide, ?_⟩ | refine .inr ⟨by first | assumption | omega | with_reducible rfl | (refine fun h => h ?_; first | assumption | with_reducible rfl) | (simp only [lenS] <;> omega) | decide, ?_⟩) | ((first | refine WPA.ifBt ?_ ?_ | refine WPA.ifBnf ?_ ?_); assumption) | ((first | refine WPA.ifBnt ?_ ?_ | refine WPA.ifBf ?_ ?_); assumption) | ((first | refine WPA.ifs ?_ ?_ | refine WPA.ifB ?_ ?_) <;> intro hc) | ((fail_if_success (guard_target =~ WLA _ _ _ _ _ _ (put1 _ _ (.bool true)) _)); (fail_if_success (guard_target =~ WLA _ _ _ _ _ _ (put1 _ _ (.bool false)) _)); (first | refine WLA.both rfl rfl ?_ ?_ | refine WLA.bothB rfl rfl ?_ ?_) <;> intro hg) | (guard_target =~ WPA _ _ _ (.region 4 _ true) _ _ _; refine WPA.drawT 8 (.q 0 (.q 1 (.q 2 (.q 3 (.q 4 (.q 5 (.q 6 (.q 7 .fin)))))))) mixed ?_ ?_; kernel_rfl) | (guard_target =~ WPA _ _ _ (.region 6 _ true) _ _ _; refine WPA.drawT 8 (.q 0 (.q 1 (.q 2 (.q 3 (.q 4 (.q 5 (.q 6 (.q 7 .fin)))))))) mixed ?_ ?_; kernel_rfl) | (refine WDA.finish (tl := [⟨_, _, _, _, _, _⟩]) rfl ?_) | (refine WDQ.see rfl ?_))
      rw [← he]
      exact QQ.end_ rfl () rfl fun w h => h
  · have hx' : ¬ (i : Int) < xs.length := by omega
    have hl2 : ¬ (ys.length : Int) < xs.length := by omega
    rw [List.drop_of_length_le (by omega : xs.length ≤ i)] at he
    by_cases hy : i < ys.length
    · have hl : (xs.length : Int) < ys.length := by omega
      rw [List.drop_eq_getElem_cons hy, cmpL] at he
      repeat' (first | ((first | refine WLA.m rfl rfl ?_ ?_ | refine WDQ.m rfl rfl ?_ ?_ | refine WLA.st rfl ?_ ?_ | refine WLA.x rfl rfl ?_ (fun x => ?_) | refine WLA.x0 rfl ?_ (fun x => ?_)); first | exact trivial | exact rfl | assumption | omega | (refine ⟨?_, ?_⟩ <;> omega) | (simp only [Room, lenS]; omega) | decide | skip) | (refine Stp.go ?_) | (refine WPA.ifT ?_) | (refine WPA.ifF ?_) | (refine WLA.no rfl rfl ?_) | ((first | refine WPA.dec ?_ | ((fail_if_success (guard_target =~ WLA _ _ _ _ _ _ (put1 _ _ (.bool true)) _)); (fail_if_success (guard_target =~ WLA _ _ _ _ _ _ (put1 _ _ (.bool false)) _)); refine WLA.dec rfl rfl ?_) | refine WLA.pk ?_); first | refine .inl ⟨by first | assumption | omega | with_reducible rfl | (refine fun h => h ?_; first | assumption | with_reducible rfl) | (simp only [lenS] <;> omega) | decide, ?_⟩ | refine .inr ⟨by first | assumption | omega | with_reducible rfl | (refine fun h => h ?_; first | assumption | with_reducible rfl) | (simp only [lenS] <;> omega) | decide, ?_⟩) | ((first | refine WPA.ifBt ?_ ?_ | refine WPA.ifBnf ?_ ?_); assumption) | ((first | refine WPA.ifBnt ?_ ?_ | refine WPA.ifBf ?_ ?_); assumption) | ((first | refine WPA.ifs ?_ ?_ | refine WPA.ifB ?_ ?_) <;> intro hc) | ((fail_if_success (guard_target =~ WLA _ _ _ _ _ _ (put1 _ _ (.bool true)) _)); (fail_if_success (guard_target =~ WLA _ _ _ _ _ _ (put1 _ _ (.bool false)) _)); (first | refine WLA.both rfl rfl ?_ ?_ | refine WLA.bothB rfl rfl ?_ ?_) <;> intro hg) | (guard_target =~ WPA _ _ _ (.region 4 _ true) _ _ _; refine WPA.drawT 8 (.q 0 (.q 1 (.q 2 (.q 3 (.q 4 (.q 5 (.q 6 (.q 7 .fin)))))))) mixed ?_ ?_; kernel_rfl) | (guard_target =~ WPA _ _ _ (.region 6 _ true) _ _ _; refine WPA.drawT 8 (.q 0 (.q 1 (.q 2 (.q 3 (.q 4 (.q 5 (.q 6 (.q 7 .fin)))))))) mixed ?_ ?_; kernel_rfl) | (refine WDA.finish (tl := [⟨_, _, _, _, _, _⟩]) rfl ?_) | (refine WDQ.see rfl ?_))
      rw [← he]
      exact QQ.end_ rfl () rfl fun w h => h
    · have hl : ¬ (xs.length : Int) < ys.length := by omega
      rw [List.drop_of_length_le (by omega : ys.length ≤ i), cmpL] at he
      repeat' (first | ((first | refine WLA.m rfl rfl ?_ ?_ | refine WDQ.m rfl rfl ?_ ?_ | refine WLA.st rfl ?_ ?_ | refine WLA.x rfl rfl ?_ (fun x => ?_) | refine WLA.x0 rfl ?_ (fun x => ?_)); first | exact trivial | exact rfl | assumption | omega | (refine ⟨?_, ?_⟩ <;> omega) | (simp only [Room, lenS]; omega) | decide | skip) | (refine Stp.go ?_) | (refine WPA.ifT ?_) | (refine WPA.ifF ?_) | (refine WLA.no rfl rfl ?_) | ((first | refine WPA.dec ?_ | ((fail_if_success (guard_target =~ WLA _ _ _ _ _ _ (put1 _ _ (.bool true)) _)); (fail_if_success (guard_target =~ WLA _ _ _ _ _ _ (put1 _ _ (.bool false)) _)); refine WLA.dec rfl rfl ?_) | refine WLA.pk ?_); first | refine .inl ⟨by first | assumption | omega | with_reducible rfl | (refine fun h => h ?_; first | assumption | with_reducible rfl) | (simp only [lenS] <;> omega) | decide, ?_⟩ | refine .inr ⟨by first | assumption | omega | with_reducible rfl | (refine fun h => h ?_; first | assumption | with_reducible rfl) | (simp only [lenS] <;> omega) | decide, ?_⟩) | ((first | refine WPA.ifBt ?_ ?_ | refine WPA.ifBnf ?_ ?_); assumption) | ((first | refine WPA.ifBnt ?_ ?_ | refine WPA.ifBf ?_ ?_); assumption) | ((first | refine WPA.ifs ?_ ?_ | refine WPA.ifB ?_ ?_) <;> intro hc) | ((fail_if_success (guard_target =~ WLA _ _ _ _ _ _ (put1 _ _ (.bool true)) _)); (fail_if_success (guard_target =~ WLA _ _ _ _ _ _ (put1 _ _ (.bool false)) _)); (first | refine WLA.both rfl rfl ?_ ?_ | refine WLA.bothB rfl rfl ?_ ?_) <;> intro hg) | (guard_target =~ WPA _ _ _ (.region 4 _ true) _ _ _; refine WPA.drawT 8 (.q 0 (.q 1 (.q 2 (.q 3 (.q 4 (.q 5 (.q 6 (.q 7 .fin)))))))) mixed ?_ ?_; kernel_rfl) | (guard_target =~ WPA _ _ _ (.region 6 _ true) _ _ _; refine WPA.drawT 8 (.q 0 (.q 1 (.q 2 (.q 3 (.q 4 (.q 5 (.q 6 (.q 7 .fin)))))))) mixed ?_ ?_; kernel_rfl) | (refine WDA.finish (tl := [⟨_, _, _, _, _, _⟩]) rfl ?_) | (refine WDQ.see rfl ?_))
      rw [← he]
      exact QQ.end_ rfl () rfl fun w h => h
end Go.Proofs.YtamnobjdgjbmbaaGreat
namespace Go.Proofs.YtamnobjdgjbmbaaGreat
open Go Go.Fw
set_option linter.unusedVariables false
set_option linter.unusedSimpArgs false
theorem cmpL_refl : ∀ a : List Int, cmpL a a = 0
  | [] => rfl
  | x :: a => by rw [cmpL, if_neg (by omega), if_neg (by omega)]; exact cmpL_refl a
theorem cmpL_eq : ∀ {a b : List Int}, cmpL a b = 0 → a = b
  | [], [], _ => rfl
  | [], _ :: _, h => by simp [cmpL] at h
  | _ :: _, [], h => by simp [cmpL] at h
  | x :: a, y :: b, h => by
    rw [cmpL] at h
    split at h
    · omega
    · split at h
      · omega
      · rw [cmpL_eq h, show x = y by omega]
theorem cmpL_swap : ∀ a b : List Int, cmpL b a = - cmpL a b
  | [], [] => rfl
  | [], _ :: _ => rfl
  | _ :: _, [] => rfl
  | x :: a, y :: b => by
    rw [cmpL, cmpL]
    by_cases h1 : x < y
    · rw [if_neg (by omega), if_pos h1, if_pos h1]; rfl
    · by_cases h2 : y < x
      · rw [if_pos h2, if_neg h1, if_pos h2]
      · rw [if_neg h2, if_neg h1, if_neg h1, if_neg h2]; exact cmpL_swap a b
theorem cmpL_tt : ∀ {a b c : List Int}, cmpL a b < 0 → cmpL b c < 0 → cmpL a c < 0
  | [], [], _, h, _ => by simp [cmpL] at h
  | [], _ :: _, [], _, h => by simp [cmpL] at h
  | [], _ :: _, _ :: _, _, _ => by simp [cmpL]
  | _ :: _, [], _, h, _ => by simp [cmpL] at h
  | _ :: _, _ :: _, [], _, h => by simp [cmpL] at h
  | x :: a, y :: b, z :: c, h, k => by
    rw [cmpL] at h k ⊢
    by_cases h1 : x < y
    · by_cases h2 : y < z
      · rw [if_pos (by omega)]; omega
      · rw [if_neg h2] at k
        by_cases h3 : z < y
        · rw [if_pos h3] at k; omega
        · rw [if_pos (by omega)]; omega
    · rw [if_neg h1] at h
      by_cases h2 : y < x
      · rw [if_pos h2] at h; omega
      · rw [if_neg h2] at h
        by_cases h3 : y < z
        · rw [if_pos (by omega)]; omega
        · rw [if_neg h3] at k
          by_cases h4 : z < y
          · rw [if_pos h4] at k; omega
          · rw [if_neg h4] at k
            rw [if_neg (by omega), if_neg (by omega)]
            exact cmpL_tt h k
def ltL (a b : List Int) : Prop := cmpL a b < 0
theorem ltL_irr (a : List Int) : ¬ ltL a a := by unfold ltL; rw [cmpL_refl]; omega
theorem ltL_tt {a b c : List Int} (h : ltL a b) (k : ltL b c) : ltL a c := cmpL_tt h k
theorem ltL_as {a b : List Int} (h : ltL a b) : ¬ ltL b a := fun k => ltL_irr a (ltL_tt h k)
theorem ltL_tri {a b : List Int} (h : ¬ ltL a b) (k : ¬ ltL b a) : a = b := by
  unfold ltL at h k
  rw [cmpL_swap a b] at k
  exact cmpL_eq (by omega)
theorem leL_tr {a b c : List Int} (h : ¬ ltL b a) (k : ¬ ltL c b) : ¬ ltL c a := fun hc => by
  by_cases h1 : ltL a b
  · exact k (ltL_tt hc h1)
  · rw [ltL_tri h1 h] at hc; exact k hc
theorem ltL_le {a b c : List Int} (h : ltL a b) (k : ¬ ltL c b) : ltL a c := Classical.byContradiction fun hc => by
  by_cases h1 : ltL c a
  · exact k (ltL_tt h1 h)
  · rw [ltL_tri hc h1] at h; exact k h
theorem leL_lt {a b c : List Int} (h : ¬ ltL b a) (k : ltL b c) : ltL a c := Classical.byContradiction fun hc => by
  by_cases h1 : ltL c a
  · exact h (ltL_tt k h1)
  · rw [ltL_tri hc h1] at h; exact h k
theorem cmp_pos {a b : List Int} : 0 < cmpL a b ↔ ltL b a := by unfold ltL; rw [cmpL_swap a b]; omega
theorem cmp_zero {a b : List Int} : cmpL a b = 0 ↔ a = b := ⟨cmpL_eq, fun h => by rw [h, cmpL_refl]⟩
section
variable {κ : Type} (f : κ → List Int)
abbrev addN (a b : Int) : Int := IntKind.i64.wrap (a + b)
def putL : List (κ × Int) → κ × Int → List (κ × Int)
  | [], x => [x]
  | y :: l, x => if 0 < cmpL (f y.1) (f x.1) then x :: y :: l else if cmpL (f y.1) (f x.1) = 0 then (y.1, addN y.2 x.2) :: l else y :: putL l x
def putG (x : κ × Int) : Bool → List (κ × Int) → List (κ × Int) × Bool
  | laid, [] => ([], laid)
  | laid, y :: l =>
    let c := cmpL (f y.1) (f x.1)
    let r := putG x (laid || decide (0 ≤ c)) l
    ((if 0 < c ∧ laid = false then [x] else []) ++ (if c = 0 then (y.1, addN y.2 x.2) else y) :: r.1, r.2)
def Ris (l : List (κ × Int)) : Prop := l.Pairwise fun a b => ltL (f a.1) (f b.1)
variable {f}
theorem putG_rest {x : κ × Int} : ∀ {l : List (κ × Int)}, (∀ y ∈ l, ltL (f x.1) (f y.1)) → putG f x true l = (l, true)
  | [], _ => rfl
  | y :: l, h => by
    have h1 := h y (List.mem_cons_self ..)
    have h2 : 0 < cmpL (f y.1) (f x.1) := cmp_pos.2 h1
    have ih := putG_rest (x := x) (l := l) fun z hz => h z (List.mem_cons_of_mem _ hz)
    simp only [putG, Bool.true_or, ih, if_neg (show ¬ (0 < cmpL (f y.1) (f x.1) ∧ true = false) from fun h => by cases h.2), if_neg (show ¬ cmpL (f y.1) (f x.1) = 0 by omega), List.nil_append]
theorem putG_put {x : κ × Int} : ∀ {l : List (κ × Int)}, Ris f l → (putG f x false l).1 ++ (if (putG f x false l).2 = true then [] else [x]) = putL f l x
  | [], _ => rfl
  | y :: l, h => by
    obtain ⟨h1, h2⟩ := List.pairwise_cons.1 h
    simp only [putG, putL, Bool.false_or]
    by_cases hp : 0 < cmpL (f y.1) (f x.1)
    · have := putG_rest (f := f) (x := x) (l := l) fun z hz => ltL_tt (cmp_pos.1 hp) (h1 z hz)
      rw [if_pos ⟨hp, trivial⟩, if_pos hp, if_neg (by omega), decide_eq_true (by omega), this]
      simp
    · rw [if_neg (fun h => hp h.1), if_neg hp]
      by_cases hz : cmpL (f y.1) (f x.1) = 0
      · have := putG_rest (f := f) (x := x) (l := l) fun z hz' => by rw [← cmp_zero.1 hz]; exact h1 z hz'
        rw [if_pos hz, if_pos hz, decide_eq_true (by omega), this]
        simp
      · rw [if_neg hz, if_neg hz, decide_eq_false (by omega), ← putG_put h2]
        simp
theorem putL_mem {x : κ × Int} : ∀ {l : List (κ × Int)}, ∀ z ∈ putL f l x, f z.1 = f x.1 ∨ ∃ y ∈ l, z.1 = y.1
  | [], z, h => by simp only [putL, List.mem_singleton] at h; subst h; exact .inl rfl
  | y :: l, z, h => by
    unfold putL at h
    split at h
    · rcases List.mem_cons.1 h with rfl | h
      · exact .inl rfl
      · exact .inr ⟨z, h, rfl⟩
    · split at h
      · rcases List.mem_cons.1 h with rfl | h
        · exact .inr ⟨y, List.mem_cons_self .., rfl⟩
        · exact .inr ⟨z, List.mem_cons_of_mem _ h, rfl⟩
      · rcases List.mem_cons.1 h with rfl | h
        · exact .inr ⟨z, List.mem_cons_self .., rfl⟩
        · rcases putL_mem z h with h | ⟨w, hw, e⟩
          · exact .inl h
          · exact .inr ⟨w, List.mem_cons_of_mem _ hw, e⟩
theorem putL_fst {x : κ × Int} : ∀ {l : List (κ × Int)}, ∀ z ∈ putL f l x, z.1 = x.1 ∨ ∃ y ∈ l, z.1 = y.1
  | [], z, h => by simp only [putL, List.mem_singleton] at h; subst h; exact .inl rfl
  | y :: l, z, h => by
    unfold putL at h
    split at h
    · rcases List.mem_cons.1 h with rfl | h
      · exact .inl rfl
      · exact .inr ⟨z, h, rfl⟩
    · split at h
      · rcases List.mem_cons.1 h with rfl | h
        · exact .inr ⟨y, List.mem_cons_self .., rfl⟩
        · exact .inr ⟨z, List.mem_cons_of_mem _ h, rfl⟩
      · rcases List.mem_cons.1 h with rfl | h
        · exact .inr ⟨z, List.mem_cons_self .., rfl⟩
        · rcases putL_fst z h with h | ⟨w, hw, e⟩
          · exact .inl h
          · exact .inr ⟨w, List.mem_cons_of_mem _ hw, e⟩
theorem putL_ris {x : κ × Int} : ∀ {l : List (κ × Int)}, Ris f l → Ris f (putL f l x)
  | [], _ => List.pairwise_singleton ..
  | y :: l, h => by
    obtain ⟨h1, h2⟩ := List.pairwise_cons.1 h
    unfold putL
    split
    · rename_i hp
      refine List.pairwise_cons.2 ⟨fun z hz => ?_, h⟩
      rcases List.mem_cons.1 hz with rfl | hz
      · exact cmp_pos.1 hp
      · exact ltL_tt (cmp_pos.1 hp) (h1 z hz)
    · rename_i hp
      split
      · rename_i hz
        exact List.pairwise_cons.2 ⟨h1, h2⟩
      · rename_i hz
        refine List.pairwise_cons.2 ⟨fun z hz' => ?_, putL_ris h2⟩
        rcases putL_mem z hz' with e | ⟨w, hw, e⟩
        · rw [e]; unfold ltL; omega
        · rw [e]; exact h1 w hw
theorem putL_len {x : κ × Int} : ∀ (l : List (κ × Int)), (putL f l x).length ≤ l.length + 1
  | [] => Nat.le_refl _
  | y :: l => by
    unfold putL
    split
    · simp
    · split
      · simp
      · have := putL_len (x := x) l; simp; omega
theorem addN_mod (a b : Int) : ∃ k : Int, addN a b = a + b + k * 18446744073709551616 ∧ -9223372036854775808 ≤ addN a b ∧ addN a b ≤ 9223372036854775807 := by
  have e : addN a b = if 9223372036854775808 ≤ (a + b) % 18446744073709551616 then (a + b) % 18446744073709551616 - 18446744073709551616 else (a + b) % 18446744073709551616 := by
    simp [addN, IntKind.wrap, IntKind.bits, IntKind.signed]
  rw [e]
  split
  · exact ⟨-((a + b) / 18446744073709551616) - 1, by omega, by omega, by omega⟩
  · exact ⟨-((a + b) / 18446744073709551616), by omega, by omega, by omega⟩
theorem addN_rot (a b c : Int) : addN (addN a b) c = addN (addN a c) b := by
  obtain ⟨k1, h1, h2, h3⟩ := addN_mod a b
  obtain ⟨k2, h4, h5, h6⟩ := addN_mod (addN a b) c
  obtain ⟨k3, h7, h8, h9⟩ := addN_mod a c
  obtain ⟨k4, h10, h11, h12⟩ := addN_mod (addN a c) b
  omega
theorem addN_comm (a b : Int) : addN a b = addN b a := by unfold addN; rw [Int.add_comm]
end
abbrev Ct := List Int × Int
abbrev putM (l : List Ct) (x : Ct) : List Ct := putL id l x
theorem map_put {κ : Type} {f : κ → List Int} {x : κ × Int} : ∀ (l : List (κ × Int)), (putL f l x).map (fun p => (f p.1, p.2)) = putM (l.map fun p => (f p.1, p.2)) (f x.1, x.2)
  | [] => rfl
  | y :: l => by
    simp only [putM, putL, List.map_cons, id]
    split
    · rfl
    · split
      · rfl
      · rw [List.map_cons, map_put l]
def lk (g : List Int) : List Ct → Option Int
  | [] => none
  | y :: l => if y.1 = g then some y.2 else lk g l
theorem lk_none {g : List Int} : ∀ {l : List Ct}, (∀ y ∈ l, y.1 ≠ g) → lk g l = none
  | [], _ => rfl
  | y :: l, h => by rw [lk, if_neg (h y (List.mem_cons_self ..))]; exact lk_none fun z hz => h z (List.mem_cons_of_mem _ hz)
theorem lk_mem {g : List Int} {n : Int} : ∀ {l : List Ct}, lk g l = some n → ∃ y ∈ l, y.1 = g
  | [], h => by simp [lk] at h
  | y :: l, h => by
    rw [lk] at h
    split at h
    · rename_i e; exact ⟨y, List.mem_cons_self .., e⟩
    · obtain ⟨z, hz, e⟩ := lk_mem h; exact ⟨z, List.mem_cons_of_mem _ hz, e⟩
theorem lk_put {g : List Int} {x : Ct} : ∀ {l : List Ct}, Ris id l → lk g (putM l x) = if x.1 = g then some (match lk g l with | none => x.2 | some n => addN n x.2) else lk g l
  | [], _ => by simp [putM, putL, lk]
  | y :: l, h => by
    obtain ⟨h1, h2⟩ := List.pairwise_cons.1 h
    simp only [putM, putL, id]
    by_cases hp : 0 < cmpL y.1 x.1
    · rw [if_pos hp]
      have hn : lk x.1 (y :: l) = none := lk_none fun z hz e => by
        rcases List.mem_cons.1 hz with rfl | hz
        · have := cmp_pos.1 hp; rw [e] at this; exact ltL_irr x.1 this
        · have := ltL_tt (cmp_pos.1 hp) (h1 z hz); unfold id at this; rw [e] at this; exact ltL_irr x.1 this
      rw [lk]
      by_cases hg : x.1 = g
      · subst hg; rw [if_pos rfl, if_pos rfl, hn]
      · rw [if_neg hg, if_neg hg]
    · rw [if_neg hp]
      by_cases hz : cmpL y.1 x.1 = 0
      · have e := cmp_zero.1 hz
        rw [if_pos hz, lk, lk]
        simp only [e]
        by_cases hg : x.1 = g
        · simp [hg]
        · simp [hg]
      · rw [if_neg hz, lk]
        have hne : y.1 ≠ x.1 := fun e => hz (cmp_zero.2 e)
        have ih := lk_put (g := g) (x := x) h2
        unfold putM at ih
        rw [ih, lk]
        by_cases hg : x.1 = g
        · rw [if_pos hg, if_pos hg, if_neg (fun e => hne (e.trans hg.symm)), if_neg (fun e => hne (e.trans hg.symm))]
        · rw [if_neg hg, if_neg hg]
theorem lk_ext : ∀ {a b : List Ct}, Ris id a → Ris id b → (∀ g, lk g a = lk g b) → a = b
  | [], [], _, _, _ => rfl
  | [], q :: b, _, _, h => by have := h q.1; simp [lk] at this
  | p :: a, [], _, _, h => by have := h p.1; simp [lk] at this
  | p :: a, q :: b, ha, hb, h => by
    obtain ⟨a1, a2⟩ := List.pairwise_cons.1 ha
    obtain ⟨b1, b2⟩ := List.pairwise_cons.1 hb
    have e1 : p.1 = q.1 := by
      have h1 := h p.1
      have h2 := h q.1
      rw [lk, if_pos rfl] at h1
      rw [lk, lk, if_pos rfl] at h2
      obtain ⟨y, hy, ey⟩ := lk_mem h1.symm
      rcases List.mem_cons.1 hy with rfl | hy
      · exact ey.symm
      · have l1 : ltL q.1 p.1 := by have := b1 y hy; unfold id at this; rw [ey] at this; exact this
        rw [if_neg (show ¬ p.1 = q.1 from fun e => by rw [e] at l1; exact ltL_irr q.1 l1)] at h2
        obtain ⟨z, hz, ez⟩ := lk_mem h2
        have l2 : ltL p.1 q.1 := by have := a1 z hz; unfold id at this; rw [ez] at this; exact this
        exact absurd l2 (ltL_as l1)
    have e2 : p.2 = q.2 := by
      have h1 := h p.1
      rw [lk, if_pos rfl, lk, if_pos e1.symm] at h1
      injection h1
    have e3 : a = b := lk_ext a2 b2 fun g => by
      by_cases hg : p.1 = g
      · rw [lk_none fun z hz e => ltL_irr p.1 (by have := a1 z hz; unfold id at this; rw [e, ← hg] at this; exact this), lk_none fun z hz e => ltL_irr q.1 (by have := b1 z hz; unfold id at this; rw [e, ← hg, e1] at this; exact this)]
      · have := h g
        rwa [lk, lk, if_neg hg, if_neg (e1 ▸ hg)] at this
    rw [e3, Prod.ext e1 e2]
theorem put_comm {l : List Ct} {x y : Ct} (h : Ris id l) : putM (putM l x) y = putM (putM l y) x := by
  refine lk_ext (putL_ris (putL_ris h)) (putL_ris (putL_ris h)) fun g => ?_
  rw [lk_put (putL_ris h), lk_put (putL_ris h), lk_put h, lk_put h]
  by_cases h1 : x.1 = g <;> by_cases h2 : y.1 = g
  · simp only [h1, h2, if_true]
    cases lk g l with
    | none => simp only; rw [addN_comm]
    | some n => simp only; rw [addN_rot]
  · simp only [h1, h2, if_true, if_false]
  · simp only [h1, h2, if_true, if_false]
  · simp only [h1, h2, if_false]
theorem foldl_perm {l m : List Ct} (hp : l.Perm m) : ∀ {a : List Ct}, Ris id a → l.foldl putM a = m.foldl putM a := by
  induction hp with
  | nil => intro a _; rfl
  | cons x _ ih => intro a ha; exact ih (putL_ris ha)
  | swap x y l => intro a ha; simp only [List.foldl_cons]; rw [put_comm ha]
  | trans _ _ ih1 ih2 => intro a ha; rw [ih1 ha, ih2 ha]
theorem fold_ris {l : List Ct} : ∀ {a : List Ct}, Ris id a → Ris id (l.foldl putM a) := by
  induction l with
  | nil => intro a h; exact h
  | cons x l ih => intro a h; exact ih (putL_ris h)
theorem put_last {x : Ct} : ∀ {l : List Ct}, Ris id l → (∀ y ∈ l, ¬ ltL x.1 y.1) → putM l x = if h : l ≠ [] ∧ (l.getD (l.length - 1) ([], 0)).1 = x.1 then l.set (l.length - 1) (x.1, addN (l.getD (l.length - 1) ([], 0)).2 x.2) else l ++ [x]
  | [], _, _ => rfl
  | [y], _, hx => by
    have h1 := hx y (List.mem_cons_self ..)
    simp only [putM, putL, id]
    rw [if_neg (fun h => h1 (cmp_pos.1 h))]
    by_cases e : y.1 = x.1
    · rw [if_pos (cmp_zero.2 e), dif_pos ⟨by simp, by simpa using e⟩]; simp [e]
    · rw [if_neg (fun h => e (cmp_zero.1 h)), dif_neg (fun h => e (by simpa using h.2))]; rfl
  | y :: z :: l, h, hx => by
    obtain ⟨h1, h2⟩ := List.pairwise_cons.1 h
    have h3 := hx y (List.mem_cons_self ..)
    have h4 := hx z (List.mem_cons_of_mem _ (List.mem_cons_self ..))
    have h5 : ltL y.1 z.1 := h1 z (List.mem_cons_self ..)
    have ih := put_last (x := x) (l := z :: l) h2 fun w hw => hx w (List.mem_cons_of_mem _ hw)
    have e0 : putM (y :: z :: l) x = y :: putM (z :: l) x := by
      unfold putM
      rw [putL]
      rw [if_neg (show ¬ 0 < cmpL (id y.1) (id x.1) from fun h => h3 (cmp_pos.1 h)), if_neg (show ¬ cmpL (id y.1) (id x.1) = 0 from fun e => h4 (by have e' : y.1 = x.1 := cmp_zero.1 e; rw [← e']; exact h5))]
    have e1 : (y :: z :: l).length - 1 = (z :: l).length - 1 + 1 := by simp
    rw [e0, ih, e1]
    by_cases hc : (z :: l) ≠ [] ∧ ((z :: l).getD ((z :: l).length - 1) ([], 0)).1 = x.1
    · rw [dif_pos hc, dif_pos ⟨by simp, by simpa using hc.2⟩]; simp
    · rw [dif_neg hc, dif_neg (fun h => hc ⟨by simp, by simpa using h.2⟩)]; rfl
end Go.Proofs.YtamnobjdgjbmbaaGreat
namespace Go.Proofs.YtamnobjdgjbmbaaGreat
open Go Go.Fw Go.RowKit
set_option linter.unusedVariables false
set_option linter.unusedSimpArgs false
set_option maxRecDepth 100000
set_option maxHeartbeats 16000000
set_option synthInstance.maxHeartbeats 200000
set_option synthInstance.maxSize 100000
attribute [local irreducible] WPA WLA WDA WDQ WDE QQ seqQ blockQ loopQ fnQ OpP OpT Tr TrP SL SLd OwnS LitS Bk BkE Ob
section
variable {L : List HP} {w0 : World} {I : Foot}
theorem isNaN_tr {a : Int} : TrP Tryz.prog 125 #[.int .i64 a] (SL w0 I L) (.bool false) := by
  refine TrP.ofD fun u => Tr.intro Tryz.func125 rfl Tryz.ntmps125 rfl ?_
  repeat' (first | ((first | refine WLA.m rfl rfl ?_ ?_ | refine WLA.st rfl ?_ ?_ | refine WLA.x rfl rfl ?_ (fun x => ?_) | refine WLA.x0 rfl ?_ (fun x => ?_)); first | exact trivial | exact rfl | assumption | omega | (refine ⟨?_, ?_⟩ <;> omega) | (simp only [Room, lenS]; omega) | decide | skip) | (refine Stp.go ?_) | (refine WPA.ifT ?_) | (refine WPA.ifF ?_) | ((first | refine WPA.dec ?_); first | refine .inl ⟨by first | assumption | omega | with_reducible rfl | (refine fun h => h ?_; first | assumption | with_reducible rfl) | (simp only [lenS] <;> omega) | decide, ?_⟩ | refine .inr ⟨by first | assumption | omega | with_reducible rfl | (refine fun h => h ?_; first | assumption | with_reducible rfl) | (simp only [lenS] <;> omega) | decide, ?_⟩) | ((first | refine WPA.ifBt ?_ ?_ | refine WPA.ifBnf ?_ ?_); assumption) | ((first | refine WPA.ifBnt ?_ ?_ | refine WPA.ifBf ?_ ?_); assumption) | ((first | refine WPA.ifs ?_ ?_ | refine WPA.ifB ?_ ?_) <;> intro hc))
  exact QQ.end_ rfl () (by simp) fun w h => h
def cmpI (a b : Int) : Int := if a < b then -1 else if b < a then 1 else 0
theorem cmpC_tr {a b : Int} : TrP Tryz.prog 119 #[.int .i64 a, .int .i64 b] (SL w0 I L) (.int .i64 (cmpI a b)) := by
  refine TrP.ofD fun u => Tr.intro Tryz.func119 rfl Tryz.ntmps119 rfl ?_
  by_cases h1 : a < b
  · skip
    repeat' (first | ((first | refine WLA.m rfl rfl ?_ ?_ | refine WLA.st rfl ?_ ?_ | refine WLA.x rfl rfl ?_ (fun x => ?_) | refine WLA.x0 rfl ?_ (fun x => ?_)); first | exact trivial | exact rfl | assumption | omega | (refine ⟨?_, ?_⟩ <;> omega) | (simp only [Room, lenS]; omega) | decide | skip) | (refine Stp.go ?_) | (guard_target =~ WLA _ _ _ _ _ (⟨_, .call ⟨.value (.func 125), _, _⟩, _, _, _, _⟩ :: _) _ _; refine WLA.cq rfl rfl (isNaN_tr) ?_) | (refine WPA.ifT ?_) | (refine WPA.ifF ?_) | ((first | refine WPA.dec ?_); first | refine .inl ⟨by first | assumption | omega | with_reducible rfl | (refine fun h => h ?_; first | assumption | with_reducible rfl) | (simp only [lenS] <;> omega) | decide, ?_⟩ | refine .inr ⟨by first | assumption | omega | with_reducible rfl | (refine fun h => h ?_; first | assumption | with_reducible rfl) | (simp only [lenS] <;> omega) | decide, ?_⟩) | ((first | refine WPA.ifBt ?_ ?_ | refine WPA.ifBnf ?_ ?_); assumption) | ((first | refine WPA.ifBnt ?_ ?_ | refine WPA.ifBf ?_ ?_); assumption) | ((first | refine WPA.ifs ?_ ?_ | refine WPA.ifB ?_ ?_) <;> intro hc))
    exact QQ.end_ rfl () (by rw [cmpI, if_pos h1]) fun w h => h
  · by_cases h2 : b < a
    · skip
      repeat' (first | ((first | refine WLA.m rfl rfl ?_ ?_ | refine WLA.st rfl ?_ ?_ | refine WLA.x rfl rfl ?_ (fun x => ?_) | refine WLA.x0 rfl ?_ (fun x => ?_)); first | exact trivial | exact rfl | assumption | omega | (refine ⟨?_, ?_⟩ <;> omega) | (simp only [Room, lenS]; omega) | decide | skip) | (refine Stp.go ?_) | (guard_target =~ WLA _ _ _ _ _ (⟨_, .call ⟨.value (.func 125), _, _⟩, _, _, _, _⟩ :: _) _ _; refine WLA.cq rfl rfl (isNaN_tr) ?_) | (refine WPA.ifT ?_) | (refine WPA.ifF ?_) | ((first | refine WPA.dec ?_); first | refine .inl ⟨by first | assumption | omega | with_reducible rfl | (refine fun h => h ?_; first | assumption | with_reducible rfl) | (simp only [lenS] <;> omega) | decide, ?_⟩ | refine .inr ⟨by first | assumption | omega | with_reducible rfl | (refine fun h => h ?_; first | assumption | with_reducible rfl) | (simp only [lenS] <;> omega) | decide, ?_⟩) | ((first | refine WPA.ifBt ?_ ?_ | refine WPA.ifBnf ?_ ?_); assumption) | ((first | refine WPA.ifBnt ?_ ?_ | refine WPA.ifBf ?_ ?_); assumption) | ((first | refine WPA.ifs ?_ ?_ | refine WPA.ifB ?_ ?_) <;> intro hc))
      exact QQ.end_ rfl () (by rw [cmpI, if_neg h1, if_pos h2]) fun w h => h
    · skip
      repeat' (first | ((first | refine WLA.m rfl rfl ?_ ?_ | refine WLA.st rfl ?_ ?_ | refine WLA.x rfl rfl ?_ (fun x => ?_) | refine WLA.x0 rfl ?_ (fun x => ?_)); first | exact trivial | exact rfl | assumption | omega | (refine ⟨?_, ?_⟩ <;> omega) | (simp only [Room, lenS]; omega) | decide | skip) | (refine Stp.go ?_) | (guard_target =~ WLA _ _ _ _ _ (⟨_, .call ⟨.value (.func 125), _, _⟩, _, _, _, _⟩ :: _) _ _; refine WLA.cq rfl rfl (isNaN_tr) ?_) | (refine WPA.ifT ?_) | (refine WPA.ifF ?_) | ((first | refine WPA.dec ?_); first | refine .inl ⟨by first | assumption | omega | with_reducible rfl | (refine fun h => h ?_; first | assumption | with_reducible rfl) | (simp only [lenS] <;> omega) | decide, ?_⟩ | refine .inr ⟨by first | assumption | omega | with_reducible rfl | (refine fun h => h ?_; first | assumption | with_reducible rfl) | (simp only [lenS] <;> omega) | decide, ?_⟩) | ((first | refine WPA.ifBt ?_ ?_ | refine WPA.ifBnf ?_ ?_); assumption) | ((first | refine WPA.ifBnt ?_ ?_ | refine WPA.ifBf ?_ ?_); assumption) | ((first | refine WPA.ifs ?_ ?_ | refine WPA.ifB ?_ ?_) <;> intro hc))
      exact QQ.end_ rfl () (by rw [cmpI, if_neg h1, if_neg h2]) fun w h => h
theorem sCompare_tr {a b : SV} {xs ys : List Int} [ha : RdS I L a Int inferInstance xs] [hb : RdS I L b Int inferInstance ys] (hn : xs.length ≤ 1000000000) (hm : ys.length ≤ 1000000000) : TrP Tryz.prog 107 #[.slice a.a a.n a.cap, .slice b.a b.n b.cap] (SL w0 I L) (.int .i64 (cmpL xs ys)) := by
  refine TrP.ofD fun u => Tr.intro Tryz.func107 rfl Tryz.ntmps107 rfl ?_
  repeat' (first | ((first | refine WLA.m rfl rfl ?_ ?_ | refine WLA.st rfl ?_ ?_ | refine WLA.x rfl rfl ?_ (fun x => ?_) | refine WLA.x0 rfl ?_ (fun x => ?_)); first | exact trivial | exact rfl | assumption | omega | (refine ⟨?_, ?_⟩ <;> omega) | (simp only [Room, lenS]; omega) | decide | skip) | (refine Stp.go ?_) | (refine WPA.ifT ?_) | (refine WPA.ifF ?_) | ((first | refine WPA.dec ?_); first | refine .inl ⟨by first | assumption | omega | with_reducible rfl | (refine fun h => h ?_; first | assumption | with_reducible rfl) | (simp only [lenS] <;> omega) | decide, ?_⟩ | refine .inr ⟨by first | assumption | omega | with_reducible rfl | (refine fun h => h ?_; first | assumption | with_reducible rfl) | (simp only [lenS] <;> omega) | decide, ?_⟩) | ((first | refine WPA.ifBt ?_ ?_ | refine WPA.ifBnf ?_ ?_); assumption) | ((first | refine WPA.ifBnt ?_ ?_ | refine WPA.ifBf ?_ ?_); assumption) | ((first | refine WPA.ifs ?_ ?_ | refine WPA.ifB ?_ ?_) <;> intro hc))
  refine WPA.loopS (σ := Nat) (fun i => [(0, .slice a.a a.n a.cap), (1, .slice b.a b.n b.cap), (9, .slice a.a a.n a.cap), (10, .int .i64 xs.length), (11, .int .i64 i)]) (fun i => (i ≤ xs.length ∧ i ≤ ys.length) ∧ cmpL (xs.drop i) (ys.drop i) = cmpL xs ys)
    (fun i => SLd w0 I L u) (fun i => xs.length - i) 0 ⟨rfl, rfl, rfl, rfl, rfl, trivial⟩ ⟨⟨Nat.zero_le _, Nat.zero_le _⟩, rfl⟩ (fun w h => h) ?_
  rintro i ρ ⟨⟨hi, hj⟩, he⟩
  by_cases hx : i < xs.length
  · have hx' : (i : Int) < xs.length := by omega
    by_cases hy : i < ys.length
    · have hy' : (i : Int) < ys.length := by omega
      have hy'' : ¬ (ys.length : Int) ≤ i := by omega
      rw [List.drop_eq_getElem_cons hx, List.drop_eq_getElem_cons hy, cmpL, ← at_nat xs i hx, ← at_nat ys i hy] at he
      by_cases h1 : at_ xs (i : Int) < at_ ys (i : Int)
      · rw [if_pos h1] at he
        have hc : cmpI (at_ xs (i : Int)) (at_ ys (i : Int)) = -1 := by rw [cmpI, if_pos h1]
        have hne : cmpI (at_ xs (i : Int)) (at_ ys (i : Int)) ≠ 0 := by rw [hc]; decide
        repeat' (first | ((first | refine WLA.m rfl rfl ?_ ?_ | refine WLA.st rfl ?_ ?_ | refine WLA.x rfl rfl ?_ (fun x => ?_) | refine WLA.x0 rfl ?_ (fun x => ?_)); first | exact trivial | exact rfl | assumption | omega | (refine ⟨?_, ?_⟩ <;> omega) | (simp only [Room, lenS]; omega) | decide | skip) | (refine Stp.go ?_) | (guard_target =~ WLA _ _ _ _ _ (⟨_, .call ⟨.value (.func 119), _, _⟩, _, _, _, _⟩ :: _) _ _; refine WLA.cq rfl rfl (cmpC_tr) ?_) | (refine WPA.ifT ?_) | (refine WPA.ifF ?_) | ((first | refine WPA.dec ?_); first | refine .inl ⟨by first | assumption | omega | with_reducible rfl | (refine fun h => h ?_; first | assumption | with_reducible rfl) | (simp only [lenS] <;> omega) | decide, ?_⟩ | refine .inr ⟨by first | assumption | omega | with_reducible rfl | (refine fun h => h ?_; first | assumption | with_reducible rfl) | (simp only [lenS] <;> omega) | decide, ?_⟩) | ((first | refine WPA.ifBt ?_ ?_ | refine WPA.ifBnf ?_ ?_); assumption) | ((first | refine WPA.ifBnt ?_ ?_ | refine WPA.ifBf ?_ ?_); assumption) | ((first | refine WPA.ifs ?_ ?_ | refine WPA.ifB ?_ ?_) <;> intro hc))
        rw [← he, hc]
        exact QQ.end_ rfl () rfl fun w h => h
      · rw [if_neg h1] at he
        by_cases h2 : at_ ys (i : Int) < at_ xs (i : Int)
        · rw [if_pos h2] at he
          have hc : cmpI (at_ xs (i : Int)) (at_ ys (i : Int)) = 1 := by rw [cmpI, if_neg h1, if_pos h2]
          have hne : cmpI (at_ xs (i : Int)) (at_ ys (i : Int)) ≠ 0 := by rw [hc]; decide
          repeat' (first | ((first | refine WLA.m rfl rfl ?_ ?_ | refine WLA.st rfl ?_ ?_ | refine WLA.x rfl rfl ?_ (fun x => ?_) | refine WLA.x0 rfl ?_ (fun x => ?_)); first | exact trivial | exact rfl | assumption | omega | (refine ⟨?_, ?_⟩ <;> omega) | (simp only [Room, lenS]; omega) | decide | skip) | (refine Stp.go ?_) | (guard_target =~ WLA _ _ _ _ _ (⟨_, .call ⟨.value (.func 119), _, _⟩, _, _, _, _⟩ :: _) _ _; refine WLA.cq rfl rfl (cmpC_tr) ?_) | (refine WPA.ifT ?_) | (refine WPA.ifF ?_) | ((first | refine WPA.dec ?_); first | refine .inl ⟨by first | assumption | omega | with_reducible rfl | (refine fun h => h ?_; first | assumption | with_reducible rfl) | (simp only [lenS] <;> omega) | decide, ?_⟩ | refine .inr ⟨by first | assumption | omega | with_reducible rfl | (refine fun h => h ?_; first | assumption | with_reducible rfl) | (simp only [lenS] <;> omega) | decide, ?_⟩) | ((first | refine WPA.ifBt ?_ ?_ | refine WPA.ifBnf ?_ ?_); assumption) | ((first | refine WPA.ifBnt ?_ ?_ | refine WPA.ifBf ?_ ?_); assumption) | ((first | refine WPA.ifs ?_ ?_ | refine WPA.ifB ?_ ?_) <;> intro hc))
          rw [← he, hc]
          exact QQ.end_ rfl () rfl fun w h => h
        · rw [if_neg h2] at he
          have hc : ¬ cmpI (at_ xs (i : Int)) (at_ ys (i : Int)) ≠ 0 := by rw [cmpI, if_neg h1, if_neg h2]; decide
          repeat' (first | ((first | refine WLA.m rfl rfl ?_ ?_ | refine WLA.st rfl ?_ ?_ | refine WLA.x rfl rfl ?_ (fun x => ?_) | refine WLA.x0 rfl ?_ (fun x => ?_)); first | exact trivial | exact rfl | assumption | omega | (refine ⟨?_, ?_⟩ <;> omega) | (simp only [Room, lenS]; omega) | decide | skip) | (refine Stp.go ?_) | (guard_target =~ WLA _ _ _ _ _ (⟨_, .call ⟨.value (.func 119), _, _⟩, _, _, _, _⟩ :: _) _ _; refine WLA.cq rfl rfl (cmpC_tr) ?_) | (refine WPA.ifT ?_) | (refine WPA.ifF ?_) | ((first | refine WPA.dec ?_); first | refine .inl ⟨by first | assumption | omega | with_reducible rfl | (refine fun h => h ?_; first | assumption | with_reducible rfl) | (simp only [lenS] <;> omega) | decide, ?_⟩ | refine .inr ⟨by first | assumption | omega | with_reducible rfl | (refine fun h => h ?_; first | assumption | with_reducible rfl) | (simp only [lenS] <;> omega) | decide, ?_⟩) | ((first | refine WPA.ifBt ?_ ?_ | refine WPA.ifBnf ?_ ?_); assumption) | ((first | refine WPA.ifBnt ?_ ?_ | refine WPA.ifBf ?_ ?_); assumption) | ((first | refine WPA.ifs ?_ ?_ | refine WPA.ifB ?_ ?_) <;> intro hc))
          exact QQ.loopS (i + 1) ⟨rfl, rfl, rfl, rfl, rfl, trivial⟩ ⟨⟨hx, hy⟩, he⟩ (by omega) (fun w h => h)
    · have hy' : (ys.length : Int) ≤ i := by omega
      rw [List.drop_eq_getElem_cons hx, List.drop_of_length_le (by omega : ys.length ≤ i), cmpL] at he
      repeat' (first | ((first | refine WLA.m rfl rfl ?_ ?_ | refine WLA.st rfl ?_ ?_ | refine WLA.x rfl rfl ?_ (fun x => ?_) | refine WLA.x0 rfl ?_ (fun x => ?_)); first | exact trivial | exact rfl | assumption | omega | (refine ⟨?_, ?_⟩ <;> omega) | (simp only [Room, lenS]; omega) | decide | skip) | (refine Stp.go ?_) | (refine WPA.ifT ?_) | (refine WPA.ifF ?_) | ((first | refine WPA.dec ?_); first | refine .inl ⟨by first | assumption | omega | with_reducible rfl | (refine fun h => h ?_; first | assumption | with_reducible rfl) | (simp only [lenS] <;> omega) | decide, ?_⟩ | refine .inr ⟨by first | assumption | omega | with_reducible rfl | (refine fun h => h ?_; first | assumption | with_reducible rfl) | (simp only [lenS] <;> omega) | decide, ?_⟩) | ((first | refine WPA.ifBt ?_ ?_ | refine WPA.ifBnf ?_ ?_); assumption) | ((first | refine WPA.ifBnt ?_ ?_ | refine WPA.ifBf ?_ ?_); assumption) | ((first | refine WPA.ifs ?_ ?_ | refine WPA.ifB ?_ ?_) <;> intro hc))
      rw [← he]
      exact QQ.end_ rfl () rfl fun w h => h
  · have hx' : ¬ (i : Int) < xs.length := by omega
    rw [List.drop_of_length_le (by omega : xs.length ≤ i)] at he
    by_cases hy : i < ys.length
    · have hl : (xs.length : Int) < ys.length := by omega
      rw [List.drop_eq_getElem_cons hy, cmpL] at he
      repeat' (first | ((first | refine WLA.m rfl rfl ?_ ?_ | refine WLA.st rfl ?_ ?_ | refine WLA.x rfl rfl ?_ (fun x => ?_) | refine WLA.x0 rfl ?_ (fun x => ?_)); first | exact trivial | exact rfl | assumption | omega | (refine ⟨?_, ?_⟩ <;> omega) | (simp only [Room, lenS]; omega) | decide | skip) | (refine Stp.go ?_) | (guard_target =~ WLA _ _ _ _ _ (⟨_, .call ⟨.value (.func 119), _, _⟩, _, _, _, _⟩ :: _) _ _; refine WLA.cq rfl rfl (cmpC_tr) ?_) | (refine WPA.ifT ?_) | (refine WPA.ifF ?_) | ((first | refine WPA.dec ?_); first | refine .inl ⟨by first | assumption | omega | with_reducible rfl | (refine fun h => h ?_; first | assumption | with_reducible rfl) | (simp only [lenS] <;> omega) | decide, ?_⟩ | refine .inr ⟨by first | assumption | omega | with_reducible rfl | (refine fun h => h ?_; first | assumption | with_reducible rfl) | (simp only [lenS] <;> omega) | decide, ?_⟩) | ((first | refine WPA.ifBt ?_ ?_ | refine WPA.ifBnf ?_ ?_); assumption) | ((first | refine WPA.ifBnt ?_ ?_ | refine WPA.ifBf ?_ ?_); assumption) | ((first | refine WPA.ifs ?_ ?_ | refine WPA.ifB ?_ ?_) <;> intro hc))
      rw [← he]
      exact QQ.end_ rfl () rfl fun w h => h
    · have hl : ¬ (xs.length : Int) < ys.length := by omega
      rw [List.drop_of_length_le (by omega : ys.length ≤ i), cmpL] at he
      repeat' (first | ((first | refine WLA.m rfl rfl ?_ ?_ | refine WLA.st rfl ?_ ?_ | refine WLA.x rfl rfl ?_ (fun x => ?_) | refine WLA.x0 rfl ?_ (fun x => ?_)); first | exact trivial | exact rfl | assumption | omega | (refine ⟨?_, ?_⟩ <;> omega) | (simp only [Room, lenS]; omega) | decide | skip) | (refine Stp.go ?_) | (guard_target =~ WLA _ _ _ _ _ (⟨_, .call ⟨.value (.func 119), _, _⟩, _, _, _, _⟩ :: _) _ _; refine WLA.cq rfl rfl (cmpC_tr) ?_) | (refine WPA.ifT ?_) | (refine WPA.ifF ?_) | ((first | refine WPA.dec ?_); first | refine .inl ⟨by first | assumption | omega | with_reducible rfl | (refine fun h => h ?_; first | assumption | with_reducible rfl) | (simp only [lenS] <;> omega) | decide, ?_⟩ | refine .inr ⟨by first | assumption | omega | with_reducible rfl | (refine fun h => h ?_; first | assumption | with_reducible rfl) | (simp only [lenS] <;> omega) | decide, ?_⟩) | ((first | refine WPA.ifBt ?_ ?_ | refine WPA.ifBnf ?_ ?_); assumption) | ((first | refine WPA.ifBnt ?_ ?_ | refine WPA.ifBf ?_ ?_); assumption) | ((first | refine WPA.ifs ?_ ?_ | refine WPA.ifB ?_ ?_) <;> intro hc))
      rw [← he]
      exact QQ.end_ rfl () rfl fun w h => h
theorem gCompare_tr {a b : SV} {xs ys : List Int} [ha : RdS I L a Int inferInstance xs] [hb : RdS I L b Int inferInstance ys] (hn : xs.length ≤ 1000000000) (hm : ys.length ≤ 1000000000) : TrP Tryz.prog 85 #[.slice a.a a.n a.cap, .slice b.a b.n b.cap] (SL w0 I L) (.int .i64 (cmpL xs ys)) := by
  refine TrP.ofD fun u => Tr.intro Tryz.func85 rfl Tryz.ntmps85 rfl ?_
  repeat' (first | ((first | refine WLA.m rfl rfl ?_ ?_ | refine WLA.st rfl ?_ ?_ | refine WLA.x rfl rfl ?_ (fun x => ?_) | refine WLA.x0 rfl ?_ (fun x => ?_)); first | exact trivial | exact rfl | assumption | omega | (refine ⟨?_, ?_⟩ <;> omega) | (simp only [Room, lenS]; omega) | decide | skip) | (refine Stp.go ?_) | (guard_target =~ WLA _ _ _ _ _ (⟨_, .call ⟨.value (.func 107), _, _⟩, _, _, _, _⟩ :: _) _ _; refine WLA.cq rfl rfl (sCompare_tr hn hm) ?_) | (refine WPA.ifT ?_) | (refine WPA.ifF ?_) | ((first | refine WPA.dec ?_); first | refine .inl ⟨by first | assumption | omega | with_reducible rfl | (refine fun h => h ?_; first | assumption | with_reducible rfl) | (simp only [lenS] <;> omega) | decide, ?_⟩ | refine .inr ⟨by first | assumption | omega | with_reducible rfl | (refine fun h => h ?_; first | assumption | with_reducible rfl) | (simp only [lenS] <;> omega) | decide, ?_⟩) | ((first | refine WPA.ifBt ?_ ?_ | refine WPA.ifBnf ?_ ?_); assumption) | ((first | refine WPA.ifBnt ?_ ?_ | refine WPA.ifBf ?_ ?_); assumption) | ((first | refine WPA.ifs ?_ ?_ | refine WPA.ifB ?_ ?_) <;> intro hc))
  exact QQ.end_ rfl () rfl fun w h => h
end
end Go.Proofs.YtamnobjdgjbmbaaGreat
namespace Go.Proofs.YtamnobjdgjbmbaaGreat
open Go Go.Fw Go.RowKit
set_option linter.unusedVariables false
set_option linter.unusedSimpArgs false
set_option maxRecDepth 100000
set_option maxHeartbeats 16000000
set_option synthInstance.maxHeartbeats 200000
set_option synthInstance.maxSize 100000
attribute [local irreducible] WPA WLA WDA WDQ WDE QQ seqQ blockQ loopQ fnQ OpP OpT Tr TrP SL SLd OwnS LitS Bk BkE Ob
abbrev Cu := SV × Int
abbrev E := Cu × Int
def CurAt (I : Foot) (c : Cu) (k : List Int) : Prop := ∃ ps : List (SV × Int), SlI I c.1 (SV × Int) inferInstance ps ∧ (0 ≤ c.2 ∧ c.2 < ps.length) ∧ SlI I (at_ ps c.2).1 Int inferInstance k ∧ k.length ≤ 1000000000
def PileR (p : Nat) (x : List E × Int) : HP := exH fun s : SV => star (Bk p 174 [.slice s.a s.n s.cap, .int .i64 x.2]) (OwnS 176 s x.1)
theorem PileR.fold {p : Nat} {c : Int} {s : SV} {es : List E} {L : List HP} : Ent (Bk p 174 [.slice s.a s.n s.cap, .int .i64 c] :: OwnS 176 s es :: L) (PileR p (es, c) :: L) := Ent.ex s (Ent.star Ent.refl)
instance (priority := 800) {p : Nat} {c : Int} {s : SV} {es : List E} {L L1 L2 : List HP} [h1 : FindBk L p 174 [.slice s.a s.n s.cap, .int .i64 c] L1] [h2 : FindOwn L1 s 176 E inferInstance es L2] : FindK L PileR p (es, c) L2 :=
  ⟨h1.out.trans ((Ent.cons h2.out).trans PileR.fold)⟩
instance {p : Nat} {c : Int} {es : List E} : Opn (PileR p (es, c)) SV (fun s L => Bk p 174 [.slice s.a s.n s.cap, .int .i64 c] :: OwnS 176 s es :: L) := ⟨fun w0 I L w h => by
  obtain ⟨s, h⟩ := h.exH; exact ⟨s, Ent.unstar.sl h⟩⟩
section
variable (ky : Cu → List Int)
def ltE (a b : E) : Prop := ltL (ky a.1) (ky b.1) ∨ (¬ ltL (ky b.1) (ky a.1) ∧ a.2 < b.2)
instance (a b : E) : Decidable (ltE ky a b) := inferInstanceAs (Decidable (cmpL _ _ < 0 ∨ (¬ cmpL _ _ < 0 ∧ _)))
end
instance {a b : Value} : Meth Tryz.prog 136 (.agg #[a, b]) "Less" 171 (.agg #[a, b]) := ⟨fun w => by kernel_rfl⟩
section
variable {L L' : List HP} {w0 : World} {I : Foot}
theorem head_tr {s : SV} {i : Int} {ps : List (SV × Int)} [hr : RdS I L s (SV × Int) inferInstance ps] (hi : 0 ≤ i ∧ i < ps.length) : Tr Tryz.prog 67 #[.agg #[.slice s.a s.n s.cap, .int .i64 i]] (SL w0 I L) (fun _ : Unit => .agg #[.slice (at_ ps i).1.a (at_ ps i).1.n (at_ ps i).1.cap, .int .i64 (at_ ps i).2]) (fun _ => SL w0 I L) := by
  refine Tr.intro Tryz.func67 rfl Tryz.ntmps67 rfl ?_
  repeat' (first | ((first | refine WLA.m rfl rfl ?_ ?_ | refine WLA.st rfl ?_ ?_ | refine WLA.x rfl rfl ?_ (fun x => ?_) | refine WLA.x0 rfl ?_ (fun x => ?_)); first | exact trivial | exact rfl | assumption | omega | (refine ⟨?_, ?_⟩ <;> omega) | (simp only [Room, lenS]; omega) | decide | skip) | (refine Stp.go ?_) | (refine WPA.ifT ?_) | (refine WPA.ifF ?_) | ((first | refine WPA.dec ?_); first | refine .inl ⟨by first | assumption | omega | with_reducible rfl | (refine fun h => h ?_; first | assumption | with_reducible rfl) | (simp only [lenS] <;> omega) | decide, ?_⟩ | refine .inr ⟨by first | assumption | omega | with_reducible rfl | (refine fun h => h ?_; first | assumption | with_reducible rfl) | (simp only [lenS] <;> omega) | decide, ?_⟩) | ((first | refine WPA.ifBt ?_ ?_ | refine WPA.ifBnf ?_ ?_); assumption) | ((first | refine WPA.ifBnt ?_ ?_ | refine WPA.ifBf ?_ ?_); assumption) | ((first | refine WPA.ifs ?_ ?_ | refine WPA.ifB ?_ ?_) <;> intro hc))
  exact QQ.endc rfl () rfl fun w h => h.to
theorem Less_tr {a b : Cu} {ka kb : List Int} (ha : CurAt I a ka) (hb : CurAt I b kb) : Tr Tryz.prog 171 #[.agg #[.slice a.1.a a.1.n a.1.cap, .int .i64 a.2], .agg #[.slice b.1.a b.1.n b.1.cap, .int .i64 b.2]] (SL w0 I L) (fun _ : Unit => .bool (decide (cmpL ka kb < 0))) (fun _ => SL w0 I L) := by
  obtain ⟨ps, h1, h2, h3, h4⟩ := ha
  obtain ⟨qs, g1, g2, g3, g4⟩ := hb
  refine Tr.intro Tryz.func171 rfl Tryz.ntmps171 rfl ?_
  repeat' (first | ((first | refine WLA.m rfl rfl ?_ ?_ | refine WDQ.m rfl rfl ?_ ?_ | refine WLA.st rfl ?_ ?_ | refine WLA.x rfl rfl ?_ (fun x => ?_) | refine WLA.x0 rfl ?_ (fun x => ?_)); first | exact trivial | exact rfl | assumption | omega | (refine ⟨?_, ?_⟩ <;> omega) | (simp only [Room, lenS]; omega) | decide | skip) | (refine Stp.go ?_) | (guard_target =~ WLA _ _ _ _ _ (⟨_, .call ⟨.value (.func 67), _, _⟩, _, _, _, _⟩ :: _) _ _; refine WLA.call rfl rfl (head_tr (by assumption)) ?_; rintro ⟨⟩) | (guard_target =~ WLA _ _ _ _ _ (⟨_, .call ⟨.value (.func 85), _, _⟩, _, _, _, _⟩ :: _) _ _; refine WLA.cq rfl rfl (gCompare_tr (by assumption) (by assumption)) ?_) | (refine WPA.ifT ?_) | (refine WPA.ifF ?_) | ((first | refine WPA.dec ?_); first | refine .inl ⟨by first | assumption | omega | with_reducible rfl | (refine fun h => h ?_; first | assumption | with_reducible rfl) | (simp only [lenS] <;> omega) | decide, ?_⟩ | refine .inr ⟨by first | assumption | omega | with_reducible rfl | (refine fun h => h ?_; first | assumption | with_reducible rfl) | (simp only [lenS] <;> omega) | decide, ?_⟩) | ((first | refine WPA.ifBt ?_ ?_ | refine WPA.ifBnf ?_ ?_); assumption) | ((first | refine WPA.ifBnt ?_ ?_ | refine WPA.ifBf ?_ ?_); assumption) | ((first | refine WPA.ifs ?_ ?_ | refine WPA.ifB ?_ ?_) <;> intro hc) | (guard_target =~ WPA _ _ _ (.region 1 _ true) _ _ _; refine WPA.drawT 6 (.q 0 (.q 3 (.e 1 (.q 2 (.e 4 (.q 5 .fin)))))) mixed ?_ ?_; kernel_rfl) | (refine WDA.finish (tl := [⟨_, _, _, _, _, _⟩, ⟨_, _, _, _, _, _⟩, ⟨_, _, _, _, _, _⟩]) rfl ?_) | (refine WDQ.see rfl ?_) | (refine WDE.see rfl ?_) | (refine WDE.alloc rfl rfl (fun w h => h) (fun x => ?_)) | (refine WDE.stE rfl ?_) | (refine WDE.x rfl rfl ?_ ?_ (fun x => ?_); rotate_left 1; (intro x w h; first | exact h | exact Ent.drop1.sl h | exact SL.unI h | exact SL.to h); rotate_left 1; first | exact trivial | exact rfl | assumption | omega | (refine ⟨?_, ?_⟩ <;> omega) | (simp only [Room, lenS]; omega) | decide | skip) | (guard_target =~ WDE _ _ _ _ _ _ _ ⟨_, .call ⟨.value (.func 67), _, _⟩, _, _, _, _⟩ _ _ _; refine WDE.call rfl rfl (head_tr (by assumption)) ?_ ?_; (intro x w h; first | exact h | exact Ent.drop1.sl h | exact SL.unI h | exact SL.to h); rintro ⟨⟩) | (guard_target =~ WDW _ _ _ _ _ _ _ ⟨_, .call ⟨.value (.func 67), _, _⟩, _, _, _, _⟩ _ _ _; refine WDW.call rfl rfl (head_tr (by assumption)) ?_; rintro ⟨⟩) | (guard_target =~ WDQ _ _ _ _ _ _ _ ⟨_, .call ⟨.value (.func 85), _, _⟩, _, _, _, _⟩ _ _ _; refine WDQ.cq rfl rfl (gCompare_tr (by assumption) (by assumption)) ?_))
  exact QQ.end_ rfl () rfl fun w h => h.to
theorem Len_tr {p : Nat} {es : List E} {c : Int} [h : FindK L PileR p (es, c) L'] : TrP Tryz.prog 122 #[.pointer (some ⟨p, 0, none⟩)] (SL w0 I L) (.int .i64 es.length) := by
  refine TrP.at h.out (TrP.opn fun s => TrP.ofD fun u => ?_)
  refine Tr.intro Tryz.func122 rfl Tryz.ntmps122 rfl ?_
  repeat' (first | ((first | refine WLA.m rfl rfl ?_ ?_ | refine WLA.st rfl ?_ ?_ | refine WLA.x rfl rfl ?_ (fun x => ?_) | refine WLA.x0 rfl ?_ (fun x => ?_)); first | exact trivial | exact rfl | assumption | omega | (refine ⟨?_, ?_⟩ <;> omega) | (simp only [Room, lenS]; omega) | decide | skip) | (refine Stp.go ?_) | (refine WPA.ifT ?_) | (refine WPA.ifF ?_) | ((first | refine WPA.dec ?_); first | refine .inl ⟨by first | assumption | omega | with_reducible rfl | (refine fun h => h ?_; first | assumption | with_reducible rfl) | (simp only [lenS] <;> omega) | decide, ?_⟩ | refine .inr ⟨by first | assumption | omega | with_reducible rfl | (refine fun h => h ?_; first | assumption | with_reducible rfl) | (simp only [lenS] <;> omega) | decide, ?_⟩) | ((first | refine WPA.ifBt ?_ ?_ | refine WPA.ifBnf ?_ ?_); assumption) | ((first | refine WPA.ifBnt ?_ ?_ | refine WPA.ifBf ?_ ?_); assumption) | ((first | refine WPA.ifs ?_ ?_ | refine WPA.ifB ?_ ?_) <;> intro hc))
  exact QQ.end_ rfl () rfl fun w h => h
theorem pNew_tr (w0 : World) (I : Foot) (L : List HP) : Tr Tryz.prog 64 #[] (SL w0 I L) (fun p : Nat => .pointer (some ⟨p, 0, none⟩)) (fun p => SL w0 I (PileR p ([], 0) :: L)) := by
  refine Tr.intro Tryz.func64 rfl Tryz.ntmps64 rfl ?_
  repeat' (first | ((first | refine WLA.m rfl rfl ?_ ?_ | refine WLA.st rfl ?_ ?_ | refine WLA.x rfl rfl ?_ (fun x => ?_) | refine WLA.x0 rfl ?_ (fun x => ?_)); first | exact trivial | exact rfl | assumption | omega | (refine ⟨?_, ?_⟩ <;> omega) | (simp only [Room, lenS]; omega) | decide | skip) | (refine Stp.go ?_) | (refine WPA.ifT ?_) | (refine WPA.ifF ?_) | ((first | refine WPA.dec ?_); first | refine .inl ⟨by first | assumption | omega | with_reducible rfl | (refine fun h => h ?_; first | assumption | with_reducible rfl) | (simp only [lenS] <;> omega) | decide, ?_⟩ | refine .inr ⟨by first | assumption | omega | with_reducible rfl | (refine fun h => h ?_; first | assumption | with_reducible rfl) | (simp only [lenS] <;> omega) | decide, ?_⟩) | ((first | refine WPA.ifBt ?_ ?_ | refine WPA.ifBnf ?_ ?_); assumption) | ((first | refine WPA.ifBnt ?_ ?_ | refine WPA.ifBf ?_ ?_); assumption) | ((first | refine WPA.ifs ?_ ?_ | refine WPA.ifB ?_ ?_) <;> intro hc))
  exact QQ.end_ rfl _ rfl fun w h => (Ent.ex SV.nil (Ent.star (Ent.take Take.here (Ent.ownNil Ent.refl)))).sl h
theorem ahead_tr {ky : Cu → List Int} {p : Nat} {es : List E} {c : Int} (i k : Int) [h : FindK L PileR p (es, c) L'] (hi : 0 ≤ i ∧ i < es.length) (hk : 0 ≤ k ∧ k < es.length) (hg : ∀ e ∈ es, CurAt I e.1 (ky e.1)) :
    Tr Tryz.prog 112 #[.pointer (some ⟨p, 0, none⟩), .int .i64 i, .int .i64 k] (SL w0 I L) (fun _ : Unit => .bool (decide (ltE ky (at_ es i) (at_ es k)))) (fun _ => SL w0 I (PileR p (es, c) :: L')) := by
  refine Tr.at h.out (Tr.opn fun s => ?_)
  have h1 : CurAt I (at_ es i).1 (ky (at_ es i).1) := hg _ (by rw [at_int es i hi.1 hi.2]; exact List.getElem_mem _)
  have h2 : CurAt I (at_ es k).1 (ky (at_ es k).1) := hg _ (by rw [at_int es k hk.1 hk.2]; exact List.getElem_mem _)
  refine Tr.intro Tryz.func112 rfl Tryz.ntmps112 rfl ?_
  repeat' (first | (guard_target =~ WLA _ _ _ _ _ (⟨_, .call ⟨.invoke _ _, _, _⟩, _, _, _, _⟩ :: _) _ _; first | (refine WLA.ci rfl rfl (Less_tr h1 h2) ?_; rintro ⟨⟩) | (refine WLA.ci rfl rfl (Less_tr h2 h1) ?_; rintro ⟨⟩)) | ((first | refine WLA.m rfl rfl ?_ ?_ | refine WDQ.m rfl rfl ?_ ?_ | refine WLA.st rfl ?_ ?_ | refine WLA.x rfl rfl ?_ (fun x => ?_) | refine WLA.x0 rfl ?_ (fun x => ?_)); first | exact trivial | exact rfl | assumption | omega | (refine ⟨?_, ?_⟩ <;> omega) | (simp only [Room, lenS]; omega) | decide | skip) | (refine Stp.go ?_) | (refine WPA.ifT ?_) | (refine WPA.ifF ?_) | (refine WLA.no rfl rfl ?_) | ((first | refine WPA.dec ?_ | ((fail_if_success (guard_target =~ WLA _ _ _ _ _ _ (put1 _ _ (.bool true)) _)); (fail_if_success (guard_target =~ WLA _ _ _ _ _ _ (put1 _ _ (.bool false)) _)); refine WLA.dec rfl rfl ?_) | refine WLA.pk ?_); first | refine .inl ⟨by first | assumption | omega | with_reducible rfl | (refine fun h => h ?_; first | assumption | with_reducible rfl) | (simp only [lenS] <;> omega) | decide, ?_⟩ | refine .inr ⟨by first | assumption | omega | with_reducible rfl | (refine fun h => h ?_; first | assumption | with_reducible rfl) | (simp only [lenS] <;> omega) | decide, ?_⟩) | ((first | refine WPA.ifBt ?_ ?_ | refine WPA.ifBnf ?_ ?_); assumption) | ((first | refine WPA.ifBnt ?_ ?_ | refine WPA.ifBf ?_ ?_); assumption) | ((first | refine WPA.ifs ?_ ?_ | refine WPA.ifB ?_ ?_) <;> intro hc) | ((fail_if_success (guard_target =~ WLA _ _ _ _ _ _ (put1 _ _ (.bool true)) _)); (fail_if_success (guard_target =~ WLA _ _ _ _ _ _ (put1 _ _ (.bool false)) _)); (first | refine WLA.both rfl rfl ?_ ?_ | refine WLA.bothB rfl rfl ?_ ?_) <;> intro hg) | (guard_target =~ WPA _ _ _ (.region 1 _ true) _ _ _; refine WPA.drawT 17 (.q 0 (.q 1 (.q 2 (.q 3 (.q 4 (.q 5 (.q 6 (.q 7 (.q 8 (.q 9 (.q 10 (.q 11 (.q 12 (.q 13 (.b false 14 (.e 15 (.e 16 .fin)) false 15 (.e 14 (.e 16 .fin))))))))))))))))) mixed ?_ ?_; kernel_rfl) | (refine WDA.finish (tl := [⟨_, _, _, _, _, _⟩]) rfl ?_) | (refine WDQ.see rfl ?_) | (first | (refine WDA.two rfl rfl ?_ ?_) | (refine WDA.twoL rfl rfl ?_ ?_) | (refine WDA.twoR rfl rfl ?_ ?_) | (refine WDA.twoW rfl rfl ?_ ?_)) | (refine WDE.see rfl ?_) | (refine WDE.alloc rfl rfl (fun w h => h) (fun x => ?_)) | (refine WDE.stE rfl ?_) | (refine WDE.x rfl rfl ?_ ?_ (fun x => ?_); rotate_left 1; (intro x w h; first | exact h | exact Ent.drop1.sl h | exact SL.unI h | exact SL.to h); rotate_left 1; first | exact trivial | exact rfl | assumption | omega | (refine ⟨?_, ?_⟩ <;> omega) | (simp only [Room, lenS]; omega) | decide | skip))
  all_goals refine QQ.end_ rfl () ?_ fun w h => (Ent.drop (Ent.drop PileR.fold)).sl h
  all_goals simp only [ltE, ltL]
  all_goals simp [*]
end
end Go.Proofs.YtamnobjdgjbmbaaGreat
namespace Go.Proofs.YtamnobjdgjbmbaaGreat
open Go Go.Fw
set_option linter.unusedVariables false
set_option linter.unusedSimpArgs false
def par (k : Nat) : Nat := (k - 1) / 2
section
variable (ky : Cu → List Int)
def HeapF (f : Nat → E) (n : Nat) : Prop := ∀ k, 0 < k → k < n → ¬ ltE ky (f k) (f (par k))
def UpF (f : Nat → E) (n i : Nat) : Prop := (∀ k, 0 < k → k < n → k ≠ i → ¬ ltE ky (f k) (f (par k))) ∧ (∀ k, 0 < k → k < n → par k = i → 0 < i → ¬ ltE ky (f k) (f (par i)))
def DownF (f : Nat → E) (n i : Nat) : Prop := (∀ k, 0 < k → k < n → par k ≠ i → ¬ ltE ky (f k) (f (par k))) ∧ (∀ k, 0 < k → k < n → par k = i → 0 < i → ¬ ltE ky (f k) (f (par i)))
variable {ky}
theorem ltE_irr (a : E) : ¬ ltE ky a a := by
  rintro (h | ⟨_, h⟩)
  · exact ltL_irr _ h
  · omega
theorem ltE_tt {a b c : E} (h : ltE ky a b) (k : ltE ky b c) : ltE ky a c := by
  rcases h with h | ⟨h1, h2⟩ <;> rcases k with k | ⟨k1, k2⟩
  · exact .inl (ltL_tt h k)
  · exact .inl (ltL_le h k1)
  · exact .inl (leL_lt h1 k)
  · exact .inr ⟨leL_tr h1 k1, by omega⟩
theorem ltE_as {a b : E} (h : ltE ky a b) : ¬ ltE ky b a := fun k => ltE_irr a (ltE_tt h k)
theorem leE_tr {a b c : E} (h : ¬ ltE ky b a) (k : ¬ ltE ky c b) : ¬ ltE ky c a := by
  intro hc
  have nle : ∀ {x y : E}, ¬ ltE ky x y → ¬ ltL (ky x.1) (ky y.1) ∧ (¬ ltL (ky y.1) (ky x.1) → y.2 ≤ x.2) := fun {x y} h =>
    ⟨fun e => h (.inl e), fun e => Classical.byContradiction fun hn => h (.inr ⟨e, by omega⟩)⟩
  obtain ⟨h1, h2⟩ := nle h
  obtain ⟨k1, k2⟩ := nle k
  rcases hc with hc | ⟨c1, c2⟩
  · exact leL_tr h1 k1 hc
  · by_cases e1 : ltL (ky a.1) (ky b.1)
    · exact c1 (ltL_le e1 k1)
    · by_cases e2 : ltL (ky b.1) (ky c.1)
      · exact c1 (leL_lt h1 e2)
      · have := h2 e1; have := k2 e2; omega
theorem ltE_tr {a b c : E} (h : ltE ky a b) (k : ¬ ltE ky c b) : ¬ ltE ky c a := leE_tr (ltE_as h) k
def swF (f : Nat → E) (i k : Nat) : Nat → E := fun j => if j = i then f k else if j = k then f i else f j
theorem up_step {f : Nat → E} {n i : Nat} (h : UpF ky f n i) (hi : 0 < i) (hn : i < n) (hl : ltE ky (f i) (f (par i))) : UpF ky (swF f i (par i)) n (par i) := by
  have hp : par i < i := by unfold par; omega
  refine ⟨fun k h0 hk hne => ?_, fun k h0 hk hpk hp0 => ?_⟩
  · have hpk : par k < k := by unfold par; omega
    unfold swF
    by_cases h1 : k = i
    · subst h1; rw [if_pos rfl, if_neg (by omega), if_pos rfl]; exact ltE_as hl
    · rw [if_neg h1, if_neg hne]
      by_cases h2 : par k = i
      · rw [if_pos h2]; exact h.2 k h0 hk h2 hi
      · rw [if_neg h2]
        by_cases h3 : par k = par i
        · rw [if_pos h3]
          have := h.1 k h0 hk h1
          rw [h3] at this
          exact ltE_tr hl this
        · rw [if_neg h3]; exact h.1 k h0 hk h1
  · have hpp : par (par i) < par i := by unfold par at *; omega
    unfold swF
    have hne : par i ≠ i := by omega
    rw [if_neg (show par (par i) ≠ i by omega), if_neg (show par (par i) ≠ par i by omega)]
    have h1 := h.1 (par i) hp0 (by omega) hne
    by_cases h2 : k = i
    · rw [if_pos h2]; exact h1
    · have h3 := h.1 k h0 hk h2
      rw [hpk] at h3
      rw [if_neg h2, if_neg (by intro e; unfold par at *; omega)]
      exact leE_tr h1 h3
theorem up_done {f : Nat → E} {n i : Nat} (h : UpF ky f n i) (hd : i = 0 ∨ ¬ ltE ky (f i) (f (par i))) : HeapF ky f n := fun k h0 hk => by
  by_cases h1 : k = i
  · subst h1; exact hd.resolve_left (by omega)
  · exact h.1 k h0 hk h1
theorem down_step {f : Nat → E} {n i m : Nat} (h : DownF ky f n i) (hm : m < n) (hm0 : 0 < m) (hpm : par m = i) (hl : ltE ky (f m) (f i)) (hmin : ∀ k, 0 < k → k < n → par k = i → ¬ ltE ky (f k) (f m)) : DownF ky (swF f i m) n m := by
  have him : i < m := by subst hpm; unfold par; omega
  refine ⟨fun k h0 hk hne => ?_, fun k h0 hk hpk hp0 => ?_⟩
  · have hpk : par k < k := by unfold par; omega
    unfold swF
    by_cases h1 : k = m
    · subst h1; rw [if_neg (by omega), if_pos rfl, if_pos hpm]; exact ltE_as hl
    · by_cases h2 : k = i
      · subst h2
        rw [if_pos rfl, if_neg (by omega), if_neg hne]
        exact h.2 m hm0 hm hpm h0
      · rw [if_neg h2, if_neg h1]
        by_cases h3 : par k = i
        · rw [if_pos h3]; exact hmin k h0 hk h3
        · rw [if_neg h3, if_neg hne]; exact h.1 k h0 hk h3
  · unfold swF
    have hkm : m < k := by subst hpk; unfold par at *; omega
    rw [if_neg (by omega), if_neg (by omega), if_pos hpm]
    have := h.1 k h0 hk (by omega)
    rw [hpk] at this
    exact this
theorem down_done {f : Nat → E} {n i : Nat} (h : DownF ky f n i) (hd : ∀ k, 0 < k → k < n → par k = i → ¬ ltE ky (f k) (f i)) : HeapF ky f n := fun k h0 hk => by
  by_cases h1 : par k = i
  · rw [h1]; exact hd k h0 hk h1
  · exact h.1 k h0 hk h1
theorem heap_least {f : Nat → E} {n : Nat} (h : HeapF ky f n) : ∀ k, k < n → ¬ ltE ky (f k) (f 0) := by
  intro k
  induction k using Nat.strongRecOn with
  | ind k ih =>
    intro hk
    by_cases h0 : k = 0
    · subst h0; exact ltE_irr _
    · have hp : par k < k := by unfold par; omega
      exact leE_tr (ih _ hp (by omega)) (h k (by omega) hk)
def atE (l : List E) (k : Nat) : E := l.getD k ((SV.nil, 0), 0)
def swL (l : List E) (i k : Nat) : List E := (l.set i (atE l k)).set k (atE l i)
theorem swL_len (l : List E) (i k : Nat) : (swL l i k).length = l.length := by simp [swL]
theorem atE_sw {l : List E} {i k : Nat} (hi : i < l.length) (hk : k < l.length) : atE (swL l i k) = swF (atE l) i k := by
  funext j
  simp only [atE, swL, swF, List.getD_eq_getElem?_getD, List.getElem?_set, List.length_set]
  by_cases h1 : j = k
  · subst h1
    by_cases h2 : j = i
    · subst h2; simp [hi]
    · simp [hk, h2]
  · rw [if_neg (fun e => h1 e.symm)]
    by_cases h2 : j = i
    · subst h2; simp [hi]
    · rw [if_neg (fun e => h2 e.symm)]; simp [h1, h2]
theorem sw_perm {l : List E} {i k : Nat} (hi : i < l.length) (hk : k < l.length) : (swL l i k).Perm l := by
  have hE : DecidableEq E := Classical.typeDecidableEq _
  rw [List.perm_iff_count]
  intro a
  have e1 : atE l i = l[i] := by simp [atE, List.getD_eq_getElem?_getD, hi]
  have e2 : atE l k = l[k] := by simp [atE, List.getD_eq_getElem?_getD, hk]
  simp only [swL, e1, e2]
  rw [List.count_set (by simpa using hk), List.count_set hi, List.getElem_set]
  have p1 : l[i] = a → 0 < List.count a l := fun h => List.count_pos_iff.2 (by rw [← h]; exact List.getElem_mem hi)
  have p2 : l[k] = a → 0 < List.count a l := fun h => List.count_pos_iff.2 (by rw [← h]; exact List.getElem_mem hk)
  simp only [beq_iff_eq]
  by_cases hik : i = k
  · subst hik
    simp only [if_true]
    by_cases h1 : l[i] = a
    · have := p1 h1
      rw [if_pos h1]; omega
    · rw [if_neg h1]; omega
  · simp only [hik, if_false]
    by_cases h1 : l[i] = a <;> by_cases h2 : l[k] = a <;> simp only [h1, h2, if_true, if_false]
    all_goals first
      | (have := p1 h1; omega)
      | (have := p2 h2; omega)
      | omega
def HeapL (ky : Cu → List Int) (l : List E) : Prop := HeapF ky (atE l) l.length
end
end Go.Proofs.YtamnobjdgjbmbaaGreat
