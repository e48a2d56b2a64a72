/- N-grams compared by the library. Conditions: none. -/
import Derived.Test.YtfhelnalegochaaMg5
namespace Go.Proofs.Ytfhelnalegochaa
open Go Go.Fw Go.RowKit
set_option linter.unusedVariables false
set_option linter.unusedSimpArgs false
set_option maxRecDepth 100000
set_option maxHeartbeats 16000000
set_option synthInstance.maxHeartbeats 200000
set_option synthInstance.maxSize 100000
attribute [local irreducible] WPA WLA WDA WDQ WDE QQ seqQ blockQ loopQ fnQ OpP OpT Tr TrP SL SLd OwnS LitS Bk BkE Ob
section
variable {L : List HP} {w0 : World} {I : Foot}
theorem isNaN_tr {a : Int} : TrP Try.prog 133 #[.int .i64 a] (SL w0 I L) (.bool false) := by
  refine TrP.ofD fun u => Tr.intro Try.func133 rfl Try.ntmps133 rfl ?_
  repeat' (first
    | (refine WLA.m rfl rfl ?_ ?_; first | exact trivial | exact rfl | assumption | omega | (refine ⟨?_, ?_⟩ <;> omega) | (simp only [Room, List.length_set, List.length_append, List.length_cons, List.length_nil, List.length_replicate]; omega) | skip)
    | (refine WLA.nil ?_)
    | (refine WPA.region ?_)
    | (refine WPA.seq ?_)
    | (refine QQ.seq_normal ?_)
    | (refine WPA.skip ?_)
    | (refine WPA.block ?_)
    | (refine WPA.ret ?_)
    | (refine WPA.exit ?_)
    | (refine QQ.seq_ret ?_)
    | (refine QQ.seq_exit ?_)
    | (refine QQ.block_normal ?_)
    | (refine QQ.block_ret ?_)
    | (refine QQ.block_hit ?_)
    | (refine QQ.block_miss rfl ?_)
    | (refine QQ.loop_ret ?_)
    | (refine QQ.loop_exit ?_)
    | (refine WLA.st rfl ?_ ?_; first | exact trivial | exact rfl | assumption | omega | (refine ⟨?_, ?_⟩ <;> omega) | (simp only [Room, List.length_set, List.length_append, List.length_cons, List.length_nil, List.length_replicate]; omega) | skip)
    | (refine WLA.x rfl rfl ?_ (fun x => ?_); first | exact trivial | exact rfl | assumption | omega | (refine ⟨?_, ?_⟩ <;> omega) | (simp only [Room, List.length_set, List.length_append, List.length_cons, List.length_nil, List.length_replicate]; omega) | skip)
    | (refine WLA.x0 rfl ?_ (fun x => ?_); first | exact trivial | exact rfl | assumption | omega | (refine ⟨?_, ?_⟩ <;> omega) | (simp only [Room, List.length_set, List.length_append, List.length_cons, List.length_nil, List.length_replicate]; omega) | skip)
    | (guard_target =~ WPA _ _ _ (.cond _ _ _) _ _ _; first | (refine WPA.ifT ?_) | (refine WPA.ifF ?_) | (refine WPA.ifYes ?_ ?_; (first | assumption | omega | (refine fun h => h ?_; assumption) | (simp only [List.length_append, List.length_cons, List.length_nil, List.length_set] <;> omega))) | (refine WPA.ifNo ?_ ?_; (first | assumption | omega | (refine fun h => h ?_; assumption) | (simp only [List.length_append, List.length_cons, List.length_nil, List.length_set] <;> omega))) | (refine WPA.ifBt ?_ ?_; assumption) | (refine WPA.ifBf ?_ ?_; assumption) | (refine WPA.ifBnt ?_ ?_; assumption) | (refine WPA.ifBnf ?_ ?_; assumption) | (refine WPA.ifs ?_ ?_ <;> intro hc) | (refine WPA.ifB ?_ ?_ <;> intro hc)))
  exact QQ.end_ rfl () (by simp) fun w h => h
def cmpI (a b : Int) : Int := if a < b then -1 else if b < a then 1 else 0
theorem cmpC_tr {a b : Int} : TrP Try.prog 130 #[.int .i64 a, .int .i64 b] (SL w0 I L) (.int .i64 (cmpI a b)) := by
  refine TrP.ofD fun u => Tr.intro Try.func130 rfl Try.ntmps130 rfl ?_
  by_cases h1 : a < b
  · skip
    repeat' (first
      | (refine WLA.m rfl rfl ?_ ?_; first | exact trivial | exact rfl | assumption | omega | (refine ⟨?_, ?_⟩ <;> omega) | (simp only [Room, List.length_set, List.length_append, List.length_cons, List.length_nil, List.length_replicate]; omega) | skip)
      | (refine WLA.nil ?_)
      | (refine WPA.region ?_)
      | (refine WPA.seq ?_)
      | (refine QQ.seq_normal ?_)
      | (refine WPA.skip ?_)
      | (refine WPA.block ?_)
      | (refine WPA.ret ?_)
      | (refine WPA.exit ?_)
      | (refine QQ.seq_ret ?_)
      | (refine QQ.seq_exit ?_)
      | (refine QQ.block_normal ?_)
      | (refine QQ.block_ret ?_)
      | (refine QQ.block_hit ?_)
      | (refine QQ.block_miss rfl ?_)
      | (refine QQ.loop_ret ?_)
      | (refine QQ.loop_exit ?_)
      | (guard_target =~ WLA _ _ _ _ _ (⟨_, .call ⟨.value (.func 133), _, _⟩, _, _, _, _⟩ :: _) _ _; refine WLA.cq rfl rfl (isNaN_tr) ?_)
      | (refine WLA.st rfl ?_ ?_; first | exact trivial | exact rfl | assumption | omega | (refine ⟨?_, ?_⟩ <;> omega) | (simp only [Room, List.length_set, List.length_append, List.length_cons, List.length_nil, List.length_replicate]; omega) | skip)
      | (refine WLA.x rfl rfl ?_ (fun x => ?_); first | exact trivial | exact rfl | assumption | omega | (refine ⟨?_, ?_⟩ <;> omega) | (simp only [Room, List.length_set, List.length_append, List.length_cons, List.length_nil, List.length_replicate]; omega) | skip)
      | (refine WLA.x0 rfl ?_ (fun x => ?_); first | exact trivial | exact rfl | assumption | omega | (refine ⟨?_, ?_⟩ <;> omega) | (simp only [Room, List.length_set, List.length_append, List.length_cons, List.length_nil, List.length_replicate]; omega) | skip)
      | (guard_target =~ WPA _ _ _ (.cond _ _ _) _ _ _; first | (refine WPA.ifT ?_) | (refine WPA.ifF ?_) | (refine WPA.ifYes ?_ ?_; (first | assumption | omega | (refine fun h => h ?_; assumption) | (simp only [List.length_append, List.length_cons, List.length_nil, List.length_set] <;> omega))) | (refine WPA.ifNo ?_ ?_; (first | assumption | omega | (refine fun h => h ?_; assumption) | (simp only [List.length_append, List.length_cons, List.length_nil, List.length_set] <;> omega))) | (refine WPA.ifBt ?_ ?_; assumption) | (refine WPA.ifBf ?_ ?_; assumption) | (refine WPA.ifBnt ?_ ?_; assumption) | (refine WPA.ifBnf ?_ ?_; assumption) | (refine WPA.ifs ?_ ?_ <;> intro hc) | (refine WPA.ifB ?_ ?_ <;> intro hc)))
    exact QQ.end_ rfl () (by rw [cmpI, if_pos h1]) fun w h => h
  · by_cases h2 : b < a
    · skip
      repeat' (first
        | (refine WLA.m rfl rfl ?_ ?_; first | exact trivial | exact rfl | assumption | omega | (refine ⟨?_, ?_⟩ <;> omega) | (simp only [Room, List.length_set, List.length_append, List.length_cons, List.length_nil, List.length_replicate]; omega) | skip)
        | (refine WLA.nil ?_)
        | (refine WPA.region ?_)
        | (refine WPA.seq ?_)
        | (refine QQ.seq_normal ?_)
        | (refine WPA.skip ?_)
        | (refine WPA.block ?_)
        | (refine WPA.ret ?_)
        | (refine WPA.exit ?_)
        | (refine QQ.seq_ret ?_)
        | (refine QQ.seq_exit ?_)
        | (refine QQ.block_normal ?_)
        | (refine QQ.block_ret ?_)
        | (refine QQ.block_hit ?_)
        | (refine QQ.block_miss rfl ?_)
        | (refine QQ.loop_ret ?_)
        | (refine QQ.loop_exit ?_)
        | (guard_target =~ WLA _ _ _ _ _ (⟨_, .call ⟨.value (.func 133), _, _⟩, _, _, _, _⟩ :: _) _ _; refine WLA.cq rfl rfl (isNaN_tr) ?_)
        | (refine WLA.st rfl ?_ ?_; first | exact trivial | exact rfl | assumption | omega | (refine ⟨?_, ?_⟩ <;> omega) | (simp only [Room, List.length_set, List.length_append, List.length_cons, List.length_nil, List.length_replicate]; omega) | skip)
        | (refine WLA.x rfl rfl ?_ (fun x => ?_); first | exact trivial | exact rfl | assumption | omega | (refine ⟨?_, ?_⟩ <;> omega) | (simp only [Room, List.length_set, List.length_append, List.length_cons, List.length_nil, List.length_replicate]; omega) | skip)
        | (refine WLA.x0 rfl ?_ (fun x => ?_); first | exact trivial | exact rfl | assumption | omega | (refine ⟨?_, ?_⟩ <;> omega) | (simp only [Room, List.length_set, List.length_append, List.length_cons, List.length_nil, List.length_replicate]; omega) | skip)
        | (guard_target =~ WPA _ _ _ (.cond _ _ _) _ _ _; first | (refine WPA.ifT ?_) | (refine WPA.ifF ?_) | (refine WPA.ifYes ?_ ?_; (first | assumption | omega | (refine fun h => h ?_; assumption) | (simp only [List.length_append, List.length_cons, List.length_nil, List.length_set] <;> omega))) | (refine WPA.ifNo ?_ ?_; (first | assumption | omega | (refine fun h => h ?_; assumption) | (simp only [List.length_append, List.length_cons, List.length_nil, List.length_set] <;> omega))) | (refine WPA.ifBt ?_ ?_; assumption) | (refine WPA.ifBf ?_ ?_; assumption) | (refine WPA.ifBnt ?_ ?_; assumption) | (refine WPA.ifBnf ?_ ?_; assumption) | (refine WPA.ifs ?_ ?_ <;> intro hc) | (refine WPA.ifB ?_ ?_ <;> intro hc)))
      exact QQ.end_ rfl () (by rw [cmpI, if_neg h1, if_pos h2]) fun w h => h
    · skip
      repeat' (first
        | (refine WLA.m rfl rfl ?_ ?_; first | exact trivial | exact rfl | assumption | omega | (refine ⟨?_, ?_⟩ <;> omega) | (simp only [Room, List.length_set, List.length_append, List.length_cons, List.length_nil, List.length_replicate]; omega) | skip)
        | (refine WLA.nil ?_)
        | (refine WPA.region ?_)
        | (refine WPA.seq ?_)
        | (refine QQ.seq_normal ?_)
        | (refine WPA.skip ?_)
        | (refine WPA.block ?_)
        | (refine WPA.ret ?_)
        | (refine WPA.exit ?_)
        | (refine QQ.seq_ret ?_)
        | (refine QQ.seq_exit ?_)
        | (refine QQ.block_normal ?_)
        | (refine QQ.block_ret ?_)
        | (refine QQ.block_hit ?_)
        | (refine QQ.block_miss rfl ?_)
        | (refine QQ.loop_ret ?_)
        | (refine QQ.loop_exit ?_)
        | (guard_target =~ WLA _ _ _ _ _ (⟨_, .call ⟨.value (.func 133), _, _⟩, _, _, _, _⟩ :: _) _ _; refine WLA.cq rfl rfl (isNaN_tr) ?_)
        | (refine WLA.st rfl ?_ ?_; first | exact trivial | exact rfl | assumption | omega | (refine ⟨?_, ?_⟩ <;> omega) | (simp only [Room, List.length_set, List.length_append, List.length_cons, List.length_nil, List.length_replicate]; omega) | skip)
        | (refine WLA.x rfl rfl ?_ (fun x => ?_); first | exact trivial | exact rfl | assumption | omega | (refine ⟨?_, ?_⟩ <;> omega) | (simp only [Room, List.length_set, List.length_append, List.length_cons, List.length_nil, List.length_replicate]; omega) | skip)
        | (refine WLA.x0 rfl ?_ (fun x => ?_); first | exact trivial | exact rfl | assumption | omega | (refine ⟨?_, ?_⟩ <;> omega) | (simp only [Room, List.length_set, List.length_append, List.length_cons, List.length_nil, List.length_replicate]; omega) | skip)
        | (guard_target =~ WPA _ _ _ (.cond _ _ _) _ _ _; first | (refine WPA.ifT ?_) | (refine WPA.ifF ?_) | (refine WPA.ifYes ?_ ?_; (first | assumption | omega | (refine fun h => h ?_; assumption) | (simp only [List.length_append, List.length_cons, List.length_nil, List.length_set] <;> omega))) | (refine WPA.ifNo ?_ ?_; (first | assumption | omega | (refine fun h => h ?_; assumption) | (simp only [List.length_append, List.length_cons, List.length_nil, List.length_set] <;> omega))) | (refine WPA.ifBt ?_ ?_; assumption) | (refine WPA.ifBf ?_ ?_; assumption) | (refine WPA.ifBnt ?_ ?_; assumption) | (refine WPA.ifBnf ?_ ?_; assumption) | (refine WPA.ifs ?_ ?_ <;> intro hc) | (refine WPA.ifB ?_ ?_ <;> intro hc)))
      exact QQ.end_ rfl () (by rw [cmpI, if_neg h1, if_neg h2]) fun w h => h
theorem sCompare_tr {a b : SV} {xs ys : List Int} [ha : RdS I L a Int inferInstance xs] [hb : RdS I L b Int inferInstance ys] (hn : xs.length ≤ 1000000000) (hm : ys.length ≤ 1000000000) : TrP Try.prog 119 #[.slice a.a a.n a.cap, .slice b.a b.n b.cap] (SL w0 I L) (.int .i64 (cmpL xs ys)) := by
  refine TrP.ofD fun u => Tr.intro Try.func119 rfl Try.ntmps119 rfl ?_
  repeat' (first
    | (refine WLA.m rfl rfl ?_ ?_; first | exact trivial | exact rfl | assumption | omega | (refine ⟨?_, ?_⟩ <;> omega) | (simp only [Room, List.length_set, List.length_append, List.length_cons, List.length_nil, List.length_replicate]; omega) | skip)
    | (refine WLA.nil ?_)
    | (refine WPA.region ?_)
    | (refine WPA.seq ?_)
    | (refine QQ.seq_normal ?_)
    | (refine WPA.skip ?_)
    | (refine WPA.block ?_)
    | (refine WPA.ret ?_)
    | (refine WPA.exit ?_)
    | (refine QQ.seq_ret ?_)
    | (refine QQ.seq_exit ?_)
    | (refine QQ.block_normal ?_)
    | (refine QQ.block_ret ?_)
    | (refine QQ.block_hit ?_)
    | (refine QQ.block_miss rfl ?_)
    | (refine QQ.loop_ret ?_)
    | (refine QQ.loop_exit ?_)
    | (refine WLA.st rfl ?_ ?_; first | exact trivial | exact rfl | assumption | omega | (refine ⟨?_, ?_⟩ <;> omega) | (simp only [Room, List.length_set, List.length_append, List.length_cons, List.length_nil, List.length_replicate]; omega) | skip)
    | (refine WLA.x rfl rfl ?_ (fun x => ?_); first | exact trivial | exact rfl | assumption | omega | (refine ⟨?_, ?_⟩ <;> omega) | (simp only [Room, List.length_set, List.length_append, List.length_cons, List.length_nil, List.length_replicate]; omega) | skip)
    | (refine WLA.x0 rfl ?_ (fun x => ?_); first | exact trivial | exact rfl | assumption | omega | (refine ⟨?_, ?_⟩ <;> omega) | (simp only [Room, List.length_set, List.length_append, List.length_cons, List.length_nil, List.length_replicate]; omega) | skip)
    | (guard_target =~ WPA _ _ _ (.cond _ _ _) _ _ _; first | (refine WPA.ifT ?_) | (refine WPA.ifF ?_) | (refine WPA.ifYes ?_ ?_; (first | assumption | omega | (refine fun h => h ?_; assumption) | (simp only [List.length_append, List.length_cons, List.length_nil, List.length_set] <;> omega))) | (refine WPA.ifNo ?_ ?_; (first | assumption | omega | (refine fun h => h ?_; assumption) | (simp only [List.length_append, List.length_cons, List.length_nil, List.length_set] <;> omega))) | (refine WPA.ifBt ?_ ?_; assumption) | (refine WPA.ifBf ?_ ?_; assumption) | (refine WPA.ifBnt ?_ ?_; assumption) | (refine WPA.ifBnf ?_ ?_; assumption) | (refine WPA.ifs ?_ ?_ <;> intro hc) | (refine WPA.ifB ?_ ?_ <;> intro hc)))
  refine WPA.loopS (σ := Nat) (fun i => [(0, .slice a.a a.n a.cap), (1, .slice b.a b.n b.cap), (9, .slice a.a a.n a.cap), (10, .int .i64 xs.length), (11, .int .i64 i)]) (fun i => (i ≤ xs.length ∧ i ≤ ys.length) ∧ cmpL (xs.drop i) (ys.drop i) = cmpL xs ys)
    (fun i => SLd w0 I L u) (fun i => xs.length - i) 0 ⟨rfl, rfl, rfl, rfl, rfl, trivial⟩ ⟨⟨Nat.zero_le _, Nat.zero_le _⟩, rfl⟩ (fun w h => h) ?_
  rintro i ρ ⟨⟨hi, hj⟩, he⟩
  by_cases hx : i < xs.length
  · have hx' : (i : Int) < xs.length := by omega
    by_cases hy : i < ys.length
    · have hy' : (i : Int) < ys.length := by omega
      have hy'' : ¬ (ys.length : Int) ≤ i := by omega
      rw [List.drop_eq_getElem_cons hx, List.drop_eq_getElem_cons hy, cmpL, ← at_nat xs i hx, ← at_nat ys i hy] at he
      by_cases h1 : at_ xs (i : Int) < at_ ys (i : Int)
      · rw [if_pos h1] at he
        have hc : cmpI (at_ xs (i : Int)) (at_ ys (i : Int)) = -1 := by rw [cmpI, if_pos h1]
        have hne : cmpI (at_ xs (i : Int)) (at_ ys (i : Int)) ≠ 0 := by rw [hc]; decide
        repeat' (first
          | (refine WLA.m rfl rfl ?_ ?_; first | exact trivial | exact rfl | assumption | omega | (refine ⟨?_, ?_⟩ <;> omega) | (simp only [Room, List.length_set, List.length_append, List.length_cons, List.length_nil, List.length_replicate]; omega) | skip)
          | (refine WLA.nil ?_)
          | (refine WPA.region ?_)
          | (refine WPA.seq ?_)
          | (refine QQ.seq_normal ?_)
          | (refine WPA.skip ?_)
          | (refine WPA.block ?_)
          | (refine WPA.ret ?_)
          | (refine WPA.exit ?_)
          | (refine QQ.seq_ret ?_)
          | (refine QQ.seq_exit ?_)
          | (refine QQ.block_normal ?_)
          | (refine QQ.block_ret ?_)
          | (refine QQ.block_hit ?_)
          | (refine QQ.block_miss rfl ?_)
          | (refine QQ.loop_ret ?_)
          | (refine QQ.loop_exit ?_)
          | (guard_target =~ WLA _ _ _ _ _ (⟨_, .call ⟨.value (.func 130), _, _⟩, _, _, _, _⟩ :: _) _ _; refine WLA.cq rfl rfl (cmpC_tr) ?_)
          | (refine WLA.st rfl ?_ ?_; first | exact trivial | exact rfl | assumption | omega | (refine ⟨?_, ?_⟩ <;> omega) | (simp only [Room, List.length_set, List.length_append, List.length_cons, List.length_nil, List.length_replicate]; omega) | skip)
          | (refine WLA.x rfl rfl ?_ (fun x => ?_); first | exact trivial | exact rfl | assumption | omega | (refine ⟨?_, ?_⟩ <;> omega) | (simp only [Room, List.length_set, List.length_append, List.length_cons, List.length_nil, List.length_replicate]; omega) | skip)
          | (refine WLA.x0 rfl ?_ (fun x => ?_); first | exact trivial | exact rfl | assumption | omega | (refine ⟨?_, ?_⟩ <;> omega) | (simp only [Room, List.length_set, List.length_append, List.length_cons, List.length_nil, List.length_replicate]; omega) | skip)
          | (guard_target =~ WPA _ _ _ (.cond _ _ _) _ _ _; first | (refine WPA.ifT ?_) | (refine WPA.ifF ?_) | (refine WPA.ifYes ?_ ?_; (first | assumption | omega | (refine fun h => h ?_; assumption) | (simp only [List.length_append, List.length_cons, List.length_nil, List.length_set] <;> omega))) | (refine WPA.ifNo ?_ ?_; (first | assumption | omega | (refine fun h => h ?_; assumption) | (simp only [List.length_append, List.length_cons, List.length_nil, List.length_set] <;> omega))) | (refine WPA.ifBt ?_ ?_; assumption) | (refine WPA.ifBf ?_ ?_; assumption) | (refine WPA.ifBnt ?_ ?_; assumption) | (refine WPA.ifBnf ?_ ?_; assumption) | (refine WPA.ifs ?_ ?_ <;> intro hc) | (refine WPA.ifB ?_ ?_ <;> intro hc)))
        rw [← he, hc]
        exact QQ.end_ rfl () rfl fun w h => h
      · rw [if_neg h1] at he
        by_cases h2 : at_ ys (i : Int) < at_ xs (i : Int)
        · rw [if_pos h2] at he
          have hc : cmpI (at_ xs (i : Int)) (at_ ys (i : Int)) = 1 := by rw [cmpI, if_neg h1, if_pos h2]
          have hne : cmpI (at_ xs (i : Int)) (at_ ys (i : Int)) ≠ 0 := by rw [hc]; decide
          repeat' (first
            | (refine WLA.m rfl rfl ?_ ?_; first | exact trivial | exact rfl | assumption | omega | (refine ⟨?_, ?_⟩ <;> omega) | (simp only [Room, List.length_set, List.length_append, List.length_cons, List.length_nil, List.length_replicate]; omega) | skip)
            | (refine WLA.nil ?_)
            | (refine WPA.region ?_)
            | (refine WPA.seq ?_)
            | (refine QQ.seq_normal ?_)
            | (refine WPA.skip ?_)
            | (refine WPA.block ?_)
            | (refine WPA.ret ?_)
            | (refine WPA.exit ?_)
            | (refine QQ.seq_ret ?_)
            | (refine QQ.seq_exit ?_)
            | (refine QQ.block_normal ?_)
            | (refine QQ.block_ret ?_)
            | (refine QQ.block_hit ?_)
            | (refine QQ.block_miss rfl ?_)
            | (refine QQ.loop_ret ?_)
            | (refine QQ.loop_exit ?_)
            | (guard_target =~ WLA _ _ _ _ _ (⟨_, .call ⟨.value (.func 130), _, _⟩, _, _, _, _⟩ :: _) _ _; refine WLA.cq rfl rfl (cmpC_tr) ?_)
            | (refine WLA.st rfl ?_ ?_; first | exact trivial | exact rfl | assumption | omega | (refine ⟨?_, ?_⟩ <;> omega) | (simp only [Room, List.length_set, List.length_append, List.length_cons, List.length_nil, List.length_replicate]; omega) | skip)
            | (refine WLA.x rfl rfl ?_ (fun x => ?_); first | exact trivial | exact rfl | assumption | omega | (refine ⟨?_, ?_⟩ <;> omega) | (simp only [Room, List.length_set, List.length_append, List.length_cons, List.length_nil, List.length_replicate]; omega) | skip)
            | (refine WLA.x0 rfl ?_ (fun x => ?_); first | exact trivial | exact rfl | assumption | omega | (refine ⟨?_, ?_⟩ <;> omega) | (simp only [Room, List.length_set, List.length_append, List.length_cons, List.length_nil, List.length_replicate]; omega) | skip)
            | (guard_target =~ WPA _ _ _ (.cond _ _ _) _ _ _; first | (refine WPA.ifT ?_) | (refine WPA.ifF ?_) | (refine WPA.ifYes ?_ ?_; (first | assumption | omega | (refine fun h => h ?_; assumption) | (simp only [List.length_append, List.length_cons, List.length_nil, List.length_set] <;> omega))) | (refine WPA.ifNo ?_ ?_; (first | assumption | omega | (refine fun h => h ?_; assumption) | (simp only [List.length_append, List.length_cons, List.length_nil, List.length_set] <;> omega))) | (refine WPA.ifBt ?_ ?_; assumption) | (refine WPA.ifBf ?_ ?_; assumption) | (refine WPA.ifBnt ?_ ?_; assumption) | (refine WPA.ifBnf ?_ ?_; assumption) | (refine WPA.ifs ?_ ?_ <;> intro hc) | (refine WPA.ifB ?_ ?_ <;> intro hc)))
          rw [← he, hc]
          exact QQ.end_ rfl () rfl fun w h => h
        · rw [if_neg h2] at he
          have hc : ¬ cmpI (at_ xs (i : Int)) (at_ ys (i : Int)) ≠ 0 := by rw [cmpI, if_neg h1, if_neg h2]; decide
          repeat' (first
            | (refine WLA.m rfl rfl ?_ ?_; first | exact trivial | exact rfl | assumption | omega | (refine ⟨?_, ?_⟩ <;> omega) | (simp only [Room, List.length_set, List.length_append, List.length_cons, List.length_nil, List.length_replicate]; omega) | skip)
            | (refine WLA.nil ?_)
            | (refine WPA.region ?_)
            | (refine WPA.seq ?_)
            | (refine QQ.seq_normal ?_)
            | (refine WPA.skip ?_)
            | (refine WPA.block ?_)
            | (refine WPA.ret ?_)
            | (refine WPA.exit ?_)
            | (refine QQ.seq_ret ?_)
            | (refine QQ.seq_exit ?_)
            | (refine QQ.block_normal ?_)
            | (refine QQ.block_ret ?_)
            | (refine QQ.block_hit ?_)
            | (refine QQ.block_miss rfl ?_)
            | (refine QQ.loop_ret ?_)
            | (refine QQ.loop_exit ?_)
            | (guard_target =~ WLA _ _ _ _ _ (⟨_, .call ⟨.value (.func 130), _, _⟩, _, _, _, _⟩ :: _) _ _; refine WLA.cq rfl rfl (cmpC_tr) ?_)
            | (refine WLA.st rfl ?_ ?_; first | exact trivial | exact rfl | assumption | omega | (refine ⟨?_, ?_⟩ <;> omega) | (simp only [Room, List.length_set, List.length_append, List.length_cons, List.length_nil, List.length_replicate]; omega) | skip)
            | (refine WLA.x rfl rfl ?_ (fun x => ?_); first | exact trivial | exact rfl | assumption | omega | (refine ⟨?_, ?_⟩ <;> omega) | (simp only [Room, List.length_set, List.length_append, List.length_cons, List.length_nil, List.length_replicate]; omega) | skip)
            | (refine WLA.x0 rfl ?_ (fun x => ?_); first | exact trivial | exact rfl | assumption | omega | (refine ⟨?_, ?_⟩ <;> omega) | (simp only [Room, List.length_set, List.length_append, List.length_cons, List.length_nil, List.length_replicate]; omega) | skip)
            | (guard_target =~ WPA _ _ _ (.cond _ _ _) _ _ _; first | (refine WPA.ifT ?_) | (refine WPA.ifF ?_) | (refine WPA.ifYes ?_ ?_; (first | assumption | omega | (refine fun h => h ?_; assumption) | (simp only [List.length_append, List.length_cons, List.length_nil, List.length_set] <;> omega))) | (refine WPA.ifNo ?_ ?_; (first | assumption | omega | (refine fun h => h ?_; assumption) | (simp only [List.length_append, List.length_cons, List.length_nil, List.length_set] <;> omega))) | (refine WPA.ifBt ?_ ?_; assumption) | (refine WPA.ifBf ?_ ?_; assumption) | (refine WPA.ifBnt ?_ ?_; assumption) | (refine WPA.ifBnf ?_ ?_; assumption) | (refine WPA.ifs ?_ ?_ <;> intro hc) | (refine WPA.ifB ?_ ?_ <;> intro hc)))
          exact QQ.loopS (i + 1) ⟨rfl, rfl, rfl, rfl, rfl, trivial⟩ ⟨⟨hx, hy⟩, he⟩ (by omega) (fun w h => h)
    · have hy' : (ys.length : Int) ≤ i := by omega
      rw [List.drop_eq_getElem_cons hx, List.drop_of_length_le (by omega : ys.length ≤ i), cmpL] at he
      repeat' (first
        | (refine WLA.m rfl rfl ?_ ?_; first | exact trivial | exact rfl | assumption | omega | (refine ⟨?_, ?_⟩ <;> omega) | (simp only [Room, List.length_set, List.length_append, List.length_cons, List.length_nil, List.length_replicate]; omega) | skip)
        | (refine WLA.nil ?_)
        | (refine WPA.region ?_)
        | (refine WPA.seq ?_)
        | (refine QQ.seq_normal ?_)
        | (refine WPA.skip ?_)
        | (refine WPA.block ?_)
        | (refine WPA.ret ?_)
        | (refine WPA.exit ?_)
        | (refine QQ.seq_ret ?_)
        | (refine QQ.seq_exit ?_)
        | (refine QQ.block_normal ?_)
        | (refine QQ.block_ret ?_)
        | (refine QQ.block_hit ?_)
        | (refine QQ.block_miss rfl ?_)
        | (refine QQ.loop_ret ?_)
        | (refine QQ.loop_exit ?_)
        | (refine WLA.st rfl ?_ ?_; first | exact trivial | exact rfl | assumption | omega | (refine ⟨?_, ?_⟩ <;> omega) | (simp only [Room, List.length_set, List.length_append, List.length_cons, List.length_nil, List.length_replicate]; omega) | skip)
        | (refine WLA.x rfl rfl ?_ (fun x => ?_); first | exact trivial | exact rfl | assumption | omega | (refine ⟨?_, ?_⟩ <;> omega) | (simp only [Room, List.length_set, List.length_append, List.length_cons, List.length_nil, List.length_replicate]; omega) | skip)
        | (refine WLA.x0 rfl ?_ (fun x => ?_); first | exact trivial | exact rfl | assumption | omega | (refine ⟨?_, ?_⟩ <;> omega) | (simp only [Room, List.length_set, List.length_append, List.length_cons, List.length_nil, List.length_replicate]; omega) | skip)
        | (guard_target =~ WPA _ _ _ (.cond _ _ _) _ _ _; first | (refine WPA.ifT ?_) | (refine WPA.ifF ?_) | (refine WPA.ifYes ?_ ?_; (first | assumption | omega | (refine fun h => h ?_; assumption) | (simp only [List.length_append, List.length_cons, List.length_nil, List.length_set] <;> omega))) | (refine WPA.ifNo ?_ ?_; (first | assumption | omega | (refine fun h => h ?_; assumption) | (simp only [List.length_append, List.length_cons, List.length_nil, List.length_set] <;> omega))) | (refine WPA.ifBt ?_ ?_; assumption) | (refine WPA.ifBf ?_ ?_; assumption) | (refine WPA.ifBnt ?_ ?_; assumption) | (refine WPA.ifBnf ?_ ?_; assumption) | (refine WPA.ifs ?_ ?_ <;> intro hc) | (refine WPA.ifB ?_ ?_ <;> intro hc)))
      rw [← he]
      exact QQ.end_ rfl () rfl fun w h => h
  · have hx' : ¬ (i : Int) < xs.length := by omega
    rw [List.drop_of_length_le (by omega : xs.length ≤ i)] at he
    by_cases hy : i < ys.length
    · have hl : (xs.length : Int) < ys.length := by omega
      rw [List.drop_eq_getElem_cons hy, cmpL] at he
      repeat' (first
        | (refine WLA.m rfl rfl ?_ ?_; first | exact trivial | exact rfl | assumption | omega | (refine ⟨?_, ?_⟩ <;> omega) | (simp only [Room, List.length_set, List.length_append, List.length_cons, List.length_nil, List.length_replicate]; omega) | skip)
        | (refine WLA.nil ?_)
        | (refine WPA.region ?_)
        | (refine WPA.seq ?_)
        | (refine QQ.seq_normal ?_)
        | (refine WPA.skip ?_)
        | (refine WPA.block ?_)
        | (refine WPA.ret ?_)
        | (refine WPA.exit ?_)
        | (refine QQ.seq_ret ?_)
        | (refine QQ.seq_exit ?_)
        | (refine QQ.block_normal ?_)
        | (refine QQ.block_ret ?_)
        | (refine QQ.block_hit ?_)
        | (refine QQ.block_miss rfl ?_)
        | (refine QQ.loop_ret ?_)
        | (refine QQ.loop_exit ?_)
        | (guard_target =~ WLA _ _ _ _ _ (⟨_, .call ⟨.value (.func 130), _, _⟩, _, _, _, _⟩ :: _) _ _; refine WLA.cq rfl rfl (cmpC_tr) ?_)
        | (refine WLA.st rfl ?_ ?_; first | exact trivial | exact rfl | assumption | omega | (refine ⟨?_, ?_⟩ <;> omega) | (simp only [Room, List.length_set, List.length_append, List.length_cons, List.length_nil, List.length_replicate]; omega) | skip)
        | (refine WLA.x rfl rfl ?_ (fun x => ?_); first | exact trivial | exact rfl | assumption | omega | (refine ⟨?_, ?_⟩ <;> omega) | (simp only [Room, List.length_set, List.length_append, List.length_cons, List.length_nil, List.length_replicate]; omega) | skip)
        | (refine WLA.x0 rfl ?_ (fun x => ?_); first | exact trivial | exact rfl | assumption | omega | (refine ⟨?_, ?_⟩ <;> omega) | (simp only [Room, List.length_set, List.length_append, List.length_cons, List.length_nil, List.length_replicate]; omega) | skip)
        | (guard_target =~ WPA _ _ _ (.cond _ _ _) _ _ _; first | (refine WPA.ifT ?_) | (refine WPA.ifF ?_) | (refine WPA.ifYes ?_ ?_; (first | assumption | omega | (refine fun h => h ?_; assumption) | (simp only [List.length_append, List.length_cons, List.length_nil, List.length_set] <;> omega))) | (refine WPA.ifNo ?_ ?_; (first | assumption | omega | (refine fun h => h ?_; assumption) | (simp only [List.length_append, List.length_cons, List.length_nil, List.length_set] <;> omega))) | (refine WPA.ifBt ?_ ?_; assumption) | (refine WPA.ifBf ?_ ?_; assumption) | (refine WPA.ifBnt ?_ ?_; assumption) | (refine WPA.ifBnf ?_ ?_; assumption) | (refine WPA.ifs ?_ ?_ <;> intro hc) | (refine WPA.ifB ?_ ?_ <;> intro hc)))
      rw [← he]
      exact QQ.end_ rfl () rfl fun w h => h
    · have hl : ¬ (xs.length : Int) < ys.length := by omega
      rw [List.drop_of_length_le (by omega : ys.length ≤ i), cmpL] at he
      repeat' (first
        | (refine WLA.m rfl rfl ?_ ?_; first | exact trivial | exact rfl | assumption | omega | (refine ⟨?_, ?_⟩ <;> omega) | (simp only [Room, List.length_set, List.length_append, List.length_cons, List.length_nil, List.length_replicate]; omega) | skip)
        | (refine WLA.nil ?_)
        | (refine WPA.region ?_)
        | (refine WPA.seq ?_)
        | (refine QQ.seq_normal ?_)
        | (refine WPA.skip ?_)
        | (refine WPA.block ?_)
        | (refine WPA.ret ?_)
        | (refine WPA.exit ?_)
        | (refine QQ.seq_ret ?_)
        | (refine QQ.seq_exit ?_)
        | (refine QQ.block_normal ?_)
        | (refine QQ.block_ret ?_)
        | (refine QQ.block_hit ?_)
        | (refine QQ.block_miss rfl ?_)
        | (refine QQ.loop_ret ?_)
        | (refine QQ.loop_exit ?_)
        | (guard_target =~ WLA _ _ _ _ _ (⟨_, .call ⟨.value (.func 130), _, _⟩, _, _, _, _⟩ :: _) _ _; refine WLA.cq rfl rfl (cmpC_tr) ?_)
        | (refine WLA.st rfl ?_ ?_; first | exact trivial | exact rfl | assumption | omega | (refine ⟨?_, ?_⟩ <;> omega) | (simp only [Room, List.length_set, List.length_append, List.length_cons, List.length_nil, List.length_replicate]; omega) | skip)
        | (refine WLA.x rfl rfl ?_ (fun x => ?_); first | exact trivial | exact rfl | assumption | omega | (refine ⟨?_, ?_⟩ <;> omega) | (simp only [Room, List.length_set, List.length_append, List.length_cons, List.length_nil, List.length_replicate]; omega) | skip)
        | (refine WLA.x0 rfl ?_ (fun x => ?_); first | exact trivial | exact rfl | assumption | omega | (refine ⟨?_, ?_⟩ <;> omega) | (simp only [Room, List.length_set, List.length_append, List.length_cons, List.length_nil, List.length_replicate]; omega) | skip)
        | (guard_target =~ WPA _ _ _ (.cond _ _ _) _ _ _; first | (refine WPA.ifT ?_) | (refine WPA.ifF ?_) | (refine WPA.ifYes ?_ ?_; (first | assumption | omega | (refine fun h => h ?_; assumption) | (simp only [List.length_append, List.length_cons, List.length_nil, List.length_set] <;> omega))) | (refine WPA.ifNo ?_ ?_; (first | assumption | omega | (refine fun h => h ?_; assumption) | (simp only [List.length_append, List.length_cons, List.length_nil, List.length_set] <;> omega))) | (refine WPA.ifBt ?_ ?_; assumption) | (refine WPA.ifBf ?_ ?_; assumption) | (refine WPA.ifBnt ?_ ?_; assumption) | (refine WPA.ifBnf ?_ ?_; assumption) | (refine WPA.ifs ?_ ?_ <;> intro hc) | (refine WPA.ifB ?_ ?_ <;> intro hc)))
      rw [← he]
      exact QQ.end_ rfl () rfl fun w h => h
theorem gCompare_tr {a b : SV} {xs ys : List Int} [ha : RdS I L a Int inferInstance xs] [hb : RdS I L b Int inferInstance ys] (hn : xs.length ≤ 1000000000) (hm : ys.length ≤ 1000000000) : TrP Try.prog 84 #[.slice a.a a.n a.cap, .slice b.a b.n b.cap] (SL w0 I L) (.int .i64 (cmpL xs ys)) := by
  refine TrP.ofD fun u => Tr.intro Try.func84 rfl Try.ntmps84 rfl ?_
  repeat' (first
    | (refine WLA.m rfl rfl ?_ ?_; first | exact trivial | exact rfl | assumption | omega | (refine ⟨?_, ?_⟩ <;> omega) | (simp only [Room, List.length_set, List.length_append, List.length_cons, List.length_nil, List.length_replicate]; omega) | skip)
    | (refine WLA.nil ?_)
    | (refine WPA.region ?_)
    | (refine WPA.seq ?_)
    | (refine QQ.seq_normal ?_)
    | (refine WPA.skip ?_)
    | (refine WPA.block ?_)
    | (refine WPA.ret ?_)
    | (refine WPA.exit ?_)
    | (refine QQ.seq_ret ?_)
    | (refine QQ.seq_exit ?_)
    | (refine QQ.block_normal ?_)
    | (refine QQ.block_ret ?_)
    | (refine QQ.block_hit ?_)
    | (refine QQ.block_miss rfl ?_)
    | (refine QQ.loop_ret ?_)
    | (refine QQ.loop_exit ?_)
    | (guard_target =~ WLA _ _ _ _ _ (⟨_, .call ⟨.value (.func 119), _, _⟩, _, _, _, _⟩ :: _) _ _; refine WLA.cq rfl rfl (sCompare_tr hn hm) ?_)
    | (refine WLA.st rfl ?_ ?_; first | exact trivial | exact rfl | assumption | omega | (refine ⟨?_, ?_⟩ <;> omega) | (simp only [Room, List.length_set, List.length_append, List.length_cons, List.length_nil, List.length_replicate]; omega) | skip)
    | (refine WLA.x rfl rfl ?_ (fun x => ?_); first | exact trivial | exact rfl | assumption | omega | (refine ⟨?_, ?_⟩ <;> omega) | (simp only [Room, List.length_set, List.length_append, List.length_cons, List.length_nil, List.length_replicate]; omega) | skip)
    | (refine WLA.x0 rfl ?_ (fun x => ?_); first | exact trivial | exact rfl | assumption | omega | (refine ⟨?_, ?_⟩ <;> omega) | (simp only [Room, List.length_set, List.length_append, List.length_cons, List.length_nil, List.length_replicate]; omega) | skip)
    | (guard_target =~ WPA _ _ _ (.cond _ _ _) _ _ _; first | (refine WPA.ifT ?_) | (refine WPA.ifF ?_) | (refine WPA.ifYes ?_ ?_; (first | assumption | omega | (refine fun h => h ?_; assumption) | (simp only [List.length_append, List.length_cons, List.length_nil, List.length_set] <;> omega))) | (refine WPA.ifNo ?_ ?_; (first | assumption | omega | (refine fun h => h ?_; assumption) | (simp only [List.length_append, List.length_cons, List.length_nil, List.length_set] <;> omega))) | (refine WPA.ifBt ?_ ?_; assumption) | (refine WPA.ifBf ?_ ?_; assumption) | (refine WPA.ifBnt ?_ ?_; assumption) | (refine WPA.ifBnf ?_ ?_; assumption) | (refine WPA.ifs ?_ ?_ <;> intro hc) | (refine WPA.ifB ?_ ?_ <;> intro hc)))
  exact QQ.end_ rfl () rfl fun w h => h
end
end Go.Proofs.Ytfhelnalegochaa
