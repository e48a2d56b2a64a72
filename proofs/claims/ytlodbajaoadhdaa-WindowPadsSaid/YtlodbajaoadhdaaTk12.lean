/- TokenBack: the walk. Conditions: none. -/
import Derived.Test.YtlodbajaoadhdaaTk11
namespace Go.Proofs.Ytlodbajaoadhdaa
open Go Go.Fw Go.RowKit
set_option linter.unusedVariables false
set_option linter.unusedSimpArgs false
set_option maxRecDepth 100000
set_option maxHeartbeats 16000000
set_option synthInstance.maxHeartbeats 200000
set_option synthInstance.maxSize 100000
attribute [local irreducible] WPA WLA WDA WDQ WDE QQ seqQ blockQ loopQ fnQ OpP OpT Tr TrP SL SLd OwnS LitS Bk BkE Ob

theorem Right_no {s : ByteArray} {L : List HP} {w0 : World} {I : Foot} (hs : s.size ≤ 140737488351232) (h : ¬ RightP s) : TrP Try.prog 73 #[.string s] (SL w0 I L) (.bool false) := by
  refine TrP.ofD fun u => Tr.intro Try.func73 rfl Try.ntmps73 rfl ?_
  repeat' (first
    | (refine WLA.m rfl rfl ?_ ?_; first | exact trivial | exact rfl | assumption | omega | (refine ⟨?_, ?_⟩ <;> omega) | (simp only [Room, List.length_set, List.length_append, List.length_cons, List.length_nil, List.length_replicate]; omega) | decide | skip)
    | (refine WLA.nil ?_)
    | (refine WPA.region ?_)
    | (refine WPA.seq ?_)
    | (refine QQ.seq_normal ?_)
    | (refine WPA.skip ?_)
    | (refine WPA.block ?_)
    | (refine WPA.ret ?_)
    | (refine WPA.exit ?_)
    | (refine QQ.seq_ret ?_)
    | (refine QQ.seq_exit ?_)
    | (refine QQ.block_normal ?_)
    | (refine QQ.block_ret ?_)
    | (refine QQ.block_hit ?_)
    | (refine QQ.block_miss rfl ?_)
    | (refine QQ.loop_ret ?_)
    | (refine QQ.loop_exit ?_)
    | (refine WLA.st rfl ?_ ?_; first | exact trivial | exact rfl | assumption | omega | (refine ⟨?_, ?_⟩ <;> omega) | (simp only [Room, List.length_set, List.length_append, List.length_cons, List.length_nil, List.length_replicate]; omega) | decide | skip)
    | (refine WLA.x rfl rfl ?_ (fun x => ?_); first | exact trivial | exact rfl | assumption | omega | (refine ⟨?_, ?_⟩ <;> omega) | (simp only [Room, List.length_set, List.length_append, List.length_cons, List.length_nil, List.length_replicate]; omega) | decide | skip)
    | (refine WLA.x0 rfl ?_ (fun x => ?_); first | exact trivial | exact rfl | assumption | omega | (refine ⟨?_, ?_⟩ <;> omega) | (simp only [Room, List.length_set, List.length_append, List.length_cons, List.length_nil, List.length_replicate]; omega) | decide | skip)
    | (guard_target =~ WPA _ _ _ (.cond _ _ _) _ _ _; first | (refine WPA.ifT ?_) | (refine WPA.ifF ?_) | (refine WPA.ifYes ?_ ?_; (first | assumption | omega | (refine fun h => h ?_; assumption) | (simp only [List.length_append, List.length_cons, List.length_nil, List.length_set] <;> omega))) | (refine WPA.ifNo ?_ ?_; (first | assumption | omega | (refine fun h => h ?_; assumption) | (simp only [List.length_append, List.length_cons, List.length_nil, List.length_set] <;> omega))) | (refine WPA.ifBt ?_ ?_; assumption) | (refine WPA.ifBf ?_ ?_; assumption) | (refine WPA.ifBnt ?_ ?_; assumption) | (refine WPA.ifBnf ?_ ?_; assumption) | (refine WPA.ifs ?_ ?_ <;> intro hc) | (refine WPA.ifB ?_ ?_ <;> intro hc)))
  refine WPA.loopS (σ := Nat) (fun i => [(0, .string s), (3, .int .i64 i)]) (fun i => i ≤ s.size ∧ ∀ j : Nat, j < i → ¬ BlankP (bt s j) ∧ bt s j ≠ 10)
    (fun i => SLd w0 I L u) (fun i => s.size - i) 0 ⟨rfl, rfl, trivial⟩ ⟨Nat.zero_le _, fun j hj => by omega⟩ (fun w h => h) ?_
  rintro i ρ ⟨hi, hg⟩
  by_cases hlt : i < s.size
  · have hlt' : (i : Int) < s.size := by omega
    by_cases hb : BlankP (bt s (i : Nat))
    · have hd : decide (BlankP (bt s (i : Nat))) = true := decide_eq_true hb
      repeat' (first
        | (refine WLA.m rfl rfl ?_ ?_; first | exact trivial | exact rfl | assumption | omega | (refine ⟨?_, ?_⟩ <;> omega) | (simp only [Room, List.length_set, List.length_append, List.length_cons, List.length_nil, List.length_replicate]; omega) | decide | skip)
        | (refine WLA.nil ?_)
        | (refine WPA.region ?_)
        | (refine WPA.seq ?_)
        | (refine QQ.seq_normal ?_)
        | (refine WPA.skip ?_)
        | (refine WPA.block ?_)
        | (refine WPA.ret ?_)
        | (refine WPA.exit ?_)
        | (refine QQ.seq_ret ?_)
        | (refine QQ.seq_exit ?_)
        | (refine QQ.block_normal ?_)
        | (refine QQ.block_ret ?_)
        | (refine QQ.block_hit ?_)
        | (refine QQ.block_miss rfl ?_)
        | (refine QQ.loop_ret ?_)
        | (refine QQ.loop_exit ?_)
        | (guard_target =~ WLA _ _ _ _ _ (⟨_, .call ⟨.value (.func 112), _, _⟩, _, _, _, _⟩ :: _) _ _; refine WLA.cq rfl rfl (rBlank_tr) ?_)
        | (refine WLA.st rfl ?_ ?_; first | exact trivial | exact rfl | assumption | omega | (refine ⟨?_, ?_⟩ <;> omega) | (simp only [Room, List.length_set, List.length_append, List.length_cons, List.length_nil, List.length_replicate]; omega) | decide | skip)
        | (refine WLA.x rfl rfl ?_ (fun x => ?_); first | exact trivial | exact rfl | assumption | omega | (refine ⟨?_, ?_⟩ <;> omega) | (simp only [Room, List.length_set, List.length_append, List.length_cons, List.length_nil, List.length_replicate]; omega) | decide | skip)
        | (refine WLA.x0 rfl ?_ (fun x => ?_); first | exact trivial | exact rfl | assumption | omega | (refine ⟨?_, ?_⟩ <;> omega) | (simp only [Room, List.length_set, List.length_append, List.length_cons, List.length_nil, List.length_replicate]; omega) | decide | skip)
        | (guard_target =~ WPA _ _ _ (.cond _ _ _) _ _ _; first | (refine WPA.ifT ?_) | (refine WPA.ifF ?_) | (refine WPA.ifYes ?_ ?_; (first | assumption | omega | (refine fun h => h ?_; assumption) | (simp only [List.length_append, List.length_cons, List.length_nil, List.length_set] <;> omega))) | (refine WPA.ifNo ?_ ?_; (first | assumption | omega | (refine fun h => h ?_; assumption) | (simp only [List.length_append, List.length_cons, List.length_nil, List.length_set] <;> omega))) | (refine WPA.ifBt ?_ ?_; assumption) | (refine WPA.ifBf ?_ ?_; assumption) | (refine WPA.ifBnt ?_ ?_; assumption) | (refine WPA.ifBnf ?_ ?_; assumption) | (refine WPA.ifs ?_ ?_ <;> intro hc) | (refine WPA.ifB ?_ ?_ <;> intro hc))
        | (guard_target =~ WLA _ _ _ _ _ (⟨_, _, _, _, _, some _⟩ :: _) _ _; first | (refine WLA.no rfl rfl ?_) | ((fail_if_success (guard_target =~ WLA _ _ _ _ _ _ (put1 _ _ (.bool true)) _)); (fail_if_success (guard_target =~ WLA _ _ _ _ _ _ (put1 _ _ (.bool false)) _)); first | (refine WLA.yes rfl rfl ?_ ?_; (first | assumption | omega | (refine fun h => h ?_; assumption) | (simp only [List.length_append, List.length_cons, List.length_nil, List.length_set] <;> omega))) | (refine WLA.nay rfl rfl ?_ ?_; (first | assumption | omega | (refine fun h => h ?_; assumption) | (simp only [List.length_append, List.length_cons, List.length_nil, List.length_set] <;> omega))) | (refine WLA.both rfl rfl ?_ ?_ <;> intro hg) | (refine WLA.bothB rfl rfl ?_ ?_ <;> intro hg)))
        | (guard_target =~ WLA _ _ _ _ _ (⟨_, .pick _ _ _, _, _, _, _⟩ :: _) _ _; first | (refine WLA.pickT ?_ ?_; first | exact rfl | (first | assumption | omega | (refine fun h => h ?_; assumption) | (simp only [List.length_append, List.length_cons, List.length_nil, List.length_set] <;> omega)) | decide) | (refine WLA.pickF ?_ ?_; first | (first | assumption | omega | (refine fun h => h ?_; assumption) | (simp only [List.length_append, List.length_cons, List.length_nil, List.length_set] <;> omega)) | decide)))
      exact QQ.end_ rfl () rfl fun w h => h
    · have hd : decide (BlankP (bt s (i : Nat))) = false := decide_eq_false hb
      by_cases hn : bt s (i : Nat) = 10
      · skip
        repeat' (first
          | (refine WLA.m rfl rfl ?_ ?_; first | exact trivial | exact rfl | assumption | omega | (refine ⟨?_, ?_⟩ <;> omega) | (simp only [Room, List.length_set, List.length_append, List.length_cons, List.length_nil, List.length_replicate]; omega) | decide | skip)
          | (refine WLA.nil ?_)
          | (refine WPA.region ?_)
          | (refine WPA.seq ?_)
          | (refine QQ.seq_normal ?_)
          | (refine WPA.skip ?_)
          | (refine WPA.block ?_)
          | (refine WPA.ret ?_)
          | (refine WPA.exit ?_)
          | (refine QQ.seq_ret ?_)
          | (refine QQ.seq_exit ?_)
          | (refine QQ.block_normal ?_)
          | (refine QQ.block_ret ?_)
          | (refine QQ.block_hit ?_)
          | (refine QQ.block_miss rfl ?_)
          | (refine QQ.loop_ret ?_)
          | (refine QQ.loop_exit ?_)
          | (guard_target =~ WLA _ _ _ _ _ (⟨_, .call ⟨.value (.func 112), _, _⟩, _, _, _, _⟩ :: _) _ _; refine WLA.cq rfl rfl (rBlank_tr) ?_)
          | (refine WLA.st rfl ?_ ?_; first | exact trivial | exact rfl | assumption | omega | (refine ⟨?_, ?_⟩ <;> omega) | (simp only [Room, List.length_set, List.length_append, List.length_cons, List.length_nil, List.length_replicate]; omega) | decide | skip)
          | (refine WLA.x rfl rfl ?_ (fun x => ?_); first | exact trivial | exact rfl | assumption | omega | (refine ⟨?_, ?_⟩ <;> omega) | (simp only [Room, List.length_set, List.length_append, List.length_cons, List.length_nil, List.length_replicate]; omega) | decide | skip)
          | (refine WLA.x0 rfl ?_ (fun x => ?_); first | exact trivial | exact rfl | assumption | omega | (refine ⟨?_, ?_⟩ <;> omega) | (simp only [Room, List.length_set, List.length_append, List.length_cons, List.length_nil, List.length_replicate]; omega) | decide | skip)
          | (guard_target =~ WPA _ _ _ (.cond _ _ _) _ _ _; first | (refine WPA.ifT ?_) | (refine WPA.ifF ?_) | (refine WPA.ifYes ?_ ?_; (first | assumption | omega | (refine fun h => h ?_; assumption) | (simp only [List.length_append, List.length_cons, List.length_nil, List.length_set] <;> omega))) | (refine WPA.ifNo ?_ ?_; (first | assumption | omega | (refine fun h => h ?_; assumption) | (simp only [List.length_append, List.length_cons, List.length_nil, List.length_set] <;> omega))) | (refine WPA.ifBt ?_ ?_; assumption) | (refine WPA.ifBf ?_ ?_; assumption) | (refine WPA.ifBnt ?_ ?_; assumption) | (refine WPA.ifBnf ?_ ?_; assumption) | (refine WPA.ifs ?_ ?_ <;> intro hc) | (refine WPA.ifB ?_ ?_ <;> intro hc))
          | (guard_target =~ WLA _ _ _ _ _ (⟨_, _, _, _, _, some _⟩ :: _) _ _; first | (refine WLA.no rfl rfl ?_) | ((fail_if_success (guard_target =~ WLA _ _ _ _ _ _ (put1 _ _ (.bool true)) _)); (fail_if_success (guard_target =~ WLA _ _ _ _ _ _ (put1 _ _ (.bool false)) _)); first | (refine WLA.yes rfl rfl ?_ ?_; (first | assumption | omega | (refine fun h => h ?_; assumption) | (simp only [List.length_append, List.length_cons, List.length_nil, List.length_set] <;> omega))) | (refine WLA.nay rfl rfl ?_ ?_; (first | assumption | omega | (refine fun h => h ?_; assumption) | (simp only [List.length_append, List.length_cons, List.length_nil, List.length_set] <;> omega))) | (refine WLA.both rfl rfl ?_ ?_ <;> intro hg) | (refine WLA.bothB rfl rfl ?_ ?_ <;> intro hg)))
          | (guard_target =~ WLA _ _ _ _ _ (⟨_, .pick _ _ _, _, _, _, _⟩ :: _) _ _; first | (refine WLA.pickT ?_ ?_; first | exact rfl | (first | assumption | omega | (refine fun h => h ?_; assumption) | (simp only [List.length_append, List.length_cons, List.length_nil, List.length_set] <;> omega)) | decide) | (refine WLA.pickF ?_ ?_; first | (first | assumption | omega | (refine fun h => h ?_; assumption) | (simp only [List.length_append, List.length_cons, List.length_nil, List.length_set] <;> omega)) | decide)))
        exact QQ.end_ rfl () rfl fun w h => h
      · skip
        repeat' (first
          | (refine WLA.m rfl rfl ?_ ?_; first | exact trivial | exact rfl | assumption | omega | (refine ⟨?_, ?_⟩ <;> omega) | (simp only [Room, List.length_set, List.length_append, List.length_cons, List.length_nil, List.length_replicate]; omega) | decide | skip)
          | (refine WLA.nil ?_)
          | (refine WPA.region ?_)
          | (refine WPA.seq ?_)
          | (refine QQ.seq_normal ?_)
          | (refine WPA.skip ?_)
          | (refine WPA.block ?_)
          | (refine WPA.ret ?_)
          | (refine WPA.exit ?_)
          | (refine QQ.seq_ret ?_)
          | (refine QQ.seq_exit ?_)
          | (refine QQ.block_normal ?_)
          | (refine QQ.block_ret ?_)
          | (refine QQ.block_hit ?_)
          | (refine QQ.block_miss rfl ?_)
          | (refine QQ.loop_ret ?_)
          | (refine QQ.loop_exit ?_)
          | (guard_target =~ WLA _ _ _ _ _ (⟨_, .call ⟨.value (.func 112), _, _⟩, _, _, _, _⟩ :: _) _ _; refine WLA.cq rfl rfl (rBlank_tr) ?_)
          | (refine WLA.st rfl ?_ ?_; first | exact trivial | exact rfl | assumption | omega | (refine ⟨?_, ?_⟩ <;> omega) | (simp only [Room, List.length_set, List.length_append, List.length_cons, List.length_nil, List.length_replicate]; omega) | decide | skip)
          | (refine WLA.x rfl rfl ?_ (fun x => ?_); first | exact trivial | exact rfl | assumption | omega | (refine ⟨?_, ?_⟩ <;> omega) | (simp only [Room, List.length_set, List.length_append, List.length_cons, List.length_nil, List.length_replicate]; omega) | decide | skip)
          | (refine WLA.x0 rfl ?_ (fun x => ?_); first | exact trivial | exact rfl | assumption | omega | (refine ⟨?_, ?_⟩ <;> omega) | (simp only [Room, List.length_set, List.length_append, List.length_cons, List.length_nil, List.length_replicate]; omega) | decide | skip)
          | (guard_target =~ WPA _ _ _ (.cond _ _ _) _ _ _; first | (refine WPA.ifT ?_) | (refine WPA.ifF ?_) | (refine WPA.ifYes ?_ ?_; (first | assumption | omega | (refine fun h => h ?_; assumption) | (simp only [List.length_append, List.length_cons, List.length_nil, List.length_set] <;> omega))) | (refine WPA.ifNo ?_ ?_; (first | assumption | omega | (refine fun h => h ?_; assumption) | (simp only [List.length_append, List.length_cons, List.length_nil, List.length_set] <;> omega))) | (refine WPA.ifBt ?_ ?_; assumption) | (refine WPA.ifBf ?_ ?_; assumption) | (refine WPA.ifBnt ?_ ?_; assumption) | (refine WPA.ifBnf ?_ ?_; assumption) | (refine WPA.ifs ?_ ?_ <;> intro hc) | (refine WPA.ifB ?_ ?_ <;> intro hc))
          | (guard_target =~ WLA _ _ _ _ _ (⟨_, _, _, _, _, some _⟩ :: _) _ _; first | (refine WLA.no rfl rfl ?_) | ((fail_if_success (guard_target =~ WLA _ _ _ _ _ _ (put1 _ _ (.bool true)) _)); (fail_if_success (guard_target =~ WLA _ _ _ _ _ _ (put1 _ _ (.bool false)) _)); first | (refine WLA.yes rfl rfl ?_ ?_; (first | assumption | omega | (refine fun h => h ?_; assumption) | (simp only [List.length_append, List.length_cons, List.length_nil, List.length_set] <;> omega))) | (refine WLA.nay rfl rfl ?_ ?_; (first | assumption | omega | (refine fun h => h ?_; assumption) | (simp only [List.length_append, List.length_cons, List.length_nil, List.length_set] <;> omega))) | (refine WLA.both rfl rfl ?_ ?_ <;> intro hg) | (refine WLA.bothB rfl rfl ?_ ?_ <;> intro hg)))
          | (guard_target =~ WLA _ _ _ _ _ (⟨_, .pick _ _ _, _, _, _, _⟩ :: _) _ _; first | (refine WLA.pickT ?_ ?_; first | exact rfl | (first | assumption | omega | (refine fun h => h ?_; assumption) | (simp only [List.length_append, List.length_cons, List.length_nil, List.length_set] <;> omega)) | decide) | (refine WLA.pickF ?_ ?_; first | (first | assumption | omega | (refine fun h => h ?_; assumption) | (simp only [List.length_append, List.length_cons, List.length_nil, List.length_set] <;> omega)) | decide)))
        refine QQ.loopS (i + 1) ⟨rfl, rfl, trivial⟩ ⟨by omega, fun j hj => ?_⟩ (by omega) (fun w h => h)
        by_cases e : j = i
        · rw [e]; exact ⟨hb, hn⟩
        · exact hg j (by omega)
  · have hlt' : ¬ (i : Int) < s.size := by omega
    have hall : ∀ j : Nat, j < s.size → ¬ BlankP (bt s j) ∧ bt s j ≠ 10 := fun j hj => hg j (by omega)
    by_cases h1 : s = ⟨#[]⟩
    · have h1' : ¬ s ≠ ⟨#[]⟩ := fun h => h h1
      repeat' (first
        | (refine WLA.m rfl rfl ?_ ?_; first | exact trivial | exact rfl | assumption | omega | (refine ⟨?_, ?_⟩ <;> omega) | (simp only [Room, List.length_set, List.length_append, List.length_cons, List.length_nil, List.length_replicate]; omega) | decide | skip)
        | (refine WLA.nil ?_)
        | (refine WPA.region ?_)
        | (refine WPA.seq ?_)
        | (refine QQ.seq_normal ?_)
        | (refine WPA.skip ?_)
        | (refine WPA.block ?_)
        | (refine WPA.ret ?_)
        | (refine WPA.exit ?_)
        | (refine QQ.seq_ret ?_)
        | (refine QQ.seq_exit ?_)
        | (refine QQ.block_normal ?_)
        | (refine QQ.block_ret ?_)
        | (refine QQ.block_hit ?_)
        | (refine QQ.block_miss rfl ?_)
        | (refine QQ.loop_ret ?_)
        | (refine QQ.loop_exit ?_)
        | (guard_target =~ WLA _ _ _ _ _ (⟨_, .call ⟨.value (.func 113), _, _⟩, _, _, _, _⟩ :: _) _ _; refine WLA.cq rfl rfl (rMark_tr) ?_)
        | (refine WLA.st rfl ?_ ?_; first | exact trivial | exact rfl | assumption | omega | (refine ⟨?_, ?_⟩ <;> omega) | (simp only [Room, List.length_set, List.length_append, List.length_cons, List.length_nil, List.length_replicate]; omega) | decide | skip)
        | (refine WLA.x rfl rfl ?_ (fun x => ?_); first | exact trivial | exact rfl | assumption | omega | (refine ⟨?_, ?_⟩ <;> omega) | (simp only [Room, List.length_set, List.length_append, List.length_cons, List.length_nil, List.length_replicate]; omega) | decide | skip)
        | (refine WLA.x0 rfl ?_ (fun x => ?_); first | exact trivial | exact rfl | assumption | omega | (refine ⟨?_, ?_⟩ <;> omega) | (simp only [Room, List.length_set, List.length_append, List.length_cons, List.length_nil, List.length_replicate]; omega) | decide | skip)
        | (guard_target =~ WPA _ _ _ (.cond _ _ _) _ _ _; first | (refine WPA.ifT ?_) | (refine WPA.ifF ?_) | (refine WPA.ifYes ?_ ?_; (first | assumption | omega | (refine fun h => h ?_; assumption) | (simp only [List.length_append, List.length_cons, List.length_nil, List.length_set] <;> omega))) | (refine WPA.ifNo ?_ ?_; (first | assumption | omega | (refine fun h => h ?_; assumption) | (simp only [List.length_append, List.length_cons, List.length_nil, List.length_set] <;> omega))) | (refine WPA.ifBt ?_ ?_; assumption) | (refine WPA.ifBf ?_ ?_; assumption) | (refine WPA.ifBnt ?_ ?_; assumption) | (refine WPA.ifBnf ?_ ?_; assumption) | (refine WPA.ifs ?_ ?_ <;> intro hc) | (refine WPA.ifB ?_ ?_ <;> intro hc))
        | (guard_target =~ WLA _ _ _ _ _ (⟨_, _, _, _, _, some _⟩ :: _) _ _; first | (refine WLA.no rfl rfl ?_) | ((fail_if_success (guard_target =~ WLA _ _ _ _ _ _ (put1 _ _ (.bool true)) _)); (fail_if_success (guard_target =~ WLA _ _ _ _ _ _ (put1 _ _ (.bool false)) _)); first | (refine WLA.yes rfl rfl ?_ ?_; (first | assumption | omega | (refine fun h => h ?_; assumption) | (simp only [List.length_append, List.length_cons, List.length_nil, List.length_set] <;> omega))) | (refine WLA.nay rfl rfl ?_ ?_; (first | assumption | omega | (refine fun h => h ?_; assumption) | (simp only [List.length_append, List.length_cons, List.length_nil, List.length_set] <;> omega))) | (refine WLA.both rfl rfl ?_ ?_ <;> intro hg) | (refine WLA.bothB rfl rfl ?_ ?_ <;> intro hg)))
        | (guard_target =~ WLA _ _ _ _ _ (⟨_, .pick _ _ _, _, _, _, _⟩ :: _) _ _; first | (refine WLA.pickT ?_ ?_; first | exact rfl | (first | assumption | omega | (refine fun h => h ?_; assumption) | (simp only [List.length_append, List.length_cons, List.length_nil, List.length_set] <;> omega)) | decide) | (refine WLA.pickF ?_ ?_; first | (first | assumption | omega | (refine fun h => h ?_; assumption) | (simp only [List.length_append, List.length_cons, List.length_nil, List.length_set] <;> omega)) | decide)))
      exact QQ.end_ rfl () rfl fun w h => h
    · by_cases h2 : (s.size : Int) ≤ 255
      · have h3 : MarkP s := Classical.byContradiction fun h3 => h ⟨hall, ⟨h1, by omega⟩, h3⟩
        repeat' (first
          | (refine WLA.m rfl rfl ?_ ?_; first | exact trivial | exact rfl | assumption | omega | (refine ⟨?_, ?_⟩ <;> omega) | (simp only [Room, List.length_set, List.length_append, List.length_cons, List.length_nil, List.length_replicate]; omega) | decide | skip)
          | (refine WLA.nil ?_)
          | (refine WPA.region ?_)
          | (refine WPA.seq ?_)
          | (refine QQ.seq_normal ?_)
          | (refine WPA.skip ?_)
          | (refine WPA.block ?_)
          | (refine WPA.ret ?_)
          | (refine WPA.exit ?_)
          | (refine QQ.seq_ret ?_)
          | (refine QQ.seq_exit ?_)
          | (refine QQ.block_normal ?_)
          | (refine QQ.block_ret ?_)
          | (refine QQ.block_hit ?_)
          | (refine QQ.block_miss rfl ?_)
          | (refine QQ.loop_ret ?_)
          | (refine QQ.loop_exit ?_)
          | (guard_target =~ WLA _ _ _ _ _ (⟨_, .call ⟨.value (.func 113), _, _⟩, _, _, _, _⟩ :: _) _ _; refine WLA.cq rfl rfl (rMark_tr) ?_)
          | (refine WLA.st rfl ?_ ?_; first | exact trivial | exact rfl | assumption | omega | (refine ⟨?_, ?_⟩ <;> omega) | (simp only [Room, List.length_set, List.length_append, List.length_cons, List.length_nil, List.length_replicate]; omega) | decide | skip)
          | (refine WLA.x rfl rfl ?_ (fun x => ?_); first | exact trivial | exact rfl | assumption | omega | (refine ⟨?_, ?_⟩ <;> omega) | (simp only [Room, List.length_set, List.length_append, List.length_cons, List.length_nil, List.length_replicate]; omega) | decide | skip)
          | (refine WLA.x0 rfl ?_ (fun x => ?_); first | exact trivial | exact rfl | assumption | omega | (refine ⟨?_, ?_⟩ <;> omega) | (simp only [Room, List.length_set, List.length_append, List.length_cons, List.length_nil, List.length_replicate]; omega) | decide | skip)
          | (guard_target =~ WPA _ _ _ (.cond _ _ _) _ _ _; first | (refine WPA.ifT ?_) | (refine WPA.ifF ?_) | (refine WPA.ifYes ?_ ?_; (first | assumption | omega | (refine fun h => h ?_; assumption) | (simp only [List.length_append, List.length_cons, List.length_nil, List.length_set] <;> omega))) | (refine WPA.ifNo ?_ ?_; (first | assumption | omega | (refine fun h => h ?_; assumption) | (simp only [List.length_append, List.length_cons, List.length_nil, List.length_set] <;> omega))) | (refine WPA.ifBt ?_ ?_; assumption) | (refine WPA.ifBf ?_ ?_; assumption) | (refine WPA.ifBnt ?_ ?_; assumption) | (refine WPA.ifBnf ?_ ?_; assumption) | (refine WPA.ifs ?_ ?_ <;> intro hc) | (refine WPA.ifB ?_ ?_ <;> intro hc))
          | (guard_target =~ WLA _ _ _ _ _ (⟨_, _, _, _, _, some _⟩ :: _) _ _; first | (refine WLA.no rfl rfl ?_) | ((fail_if_success (guard_target =~ WLA _ _ _ _ _ _ (put1 _ _ (.bool true)) _)); (fail_if_success (guard_target =~ WLA _ _ _ _ _ _ (put1 _ _ (.bool false)) _)); first | (refine WLA.yes rfl rfl ?_ ?_; (first | assumption | omega | (refine fun h => h ?_; assumption) | (simp only [List.length_append, List.length_cons, List.length_nil, List.length_set] <;> omega))) | (refine WLA.nay rfl rfl ?_ ?_; (first | assumption | omega | (refine fun h => h ?_; assumption) | (simp only [List.length_append, List.length_cons, List.length_nil, List.length_set] <;> omega))) | (refine WLA.both rfl rfl ?_ ?_ <;> intro hg) | (refine WLA.bothB rfl rfl ?_ ?_ <;> intro hg)))
          | (guard_target =~ WLA _ _ _ _ _ (⟨_, .pick _ _ _, _, _, _, _⟩ :: _) _ _; first | (refine WLA.pickT ?_ ?_; first | exact rfl | (first | assumption | omega | (refine fun h => h ?_; assumption) | (simp only [List.length_append, List.length_cons, List.length_nil, List.length_set] <;> omega)) | decide) | (refine WLA.pickF ?_ ?_; first | (first | assumption | omega | (refine fun h => h ?_; assumption) | (simp only [List.length_append, List.length_cons, List.length_nil, List.length_set] <;> omega)) | decide)))
        refine QQ.end_ rfl () (congrArg Value.bool ?_) fun w h => h
        simp [h3]
      · skip
        repeat' (first
          | (refine WLA.m rfl rfl ?_ ?_; first | exact trivial | exact rfl | assumption | omega | (refine ⟨?_, ?_⟩ <;> omega) | (simp only [Room, List.length_set, List.length_append, List.length_cons, List.length_nil, List.length_replicate]; omega) | decide | skip)
          | (refine WLA.nil ?_)
          | (refine WPA.region ?_)
          | (refine WPA.seq ?_)
          | (refine QQ.seq_normal ?_)
          | (refine WPA.skip ?_)
          | (refine WPA.block ?_)
          | (refine WPA.ret ?_)
          | (refine WPA.exit ?_)
          | (refine QQ.seq_ret ?_)
          | (refine QQ.seq_exit ?_)
          | (refine QQ.block_normal ?_)
          | (refine QQ.block_ret ?_)
          | (refine QQ.block_hit ?_)
          | (refine QQ.block_miss rfl ?_)
          | (refine QQ.loop_ret ?_)
          | (refine QQ.loop_exit ?_)
          | (guard_target =~ WLA _ _ _ _ _ (⟨_, .call ⟨.value (.func 113), _, _⟩, _, _, _, _⟩ :: _) _ _; refine WLA.cq rfl rfl (rMark_tr) ?_)
          | (refine WLA.st rfl ?_ ?_; first | exact trivial | exact rfl | assumption | omega | (refine ⟨?_, ?_⟩ <;> omega) | (simp only [Room, List.length_set, List.length_append, List.length_cons, List.length_nil, List.length_replicate]; omega) | decide | skip)
          | (refine WLA.x rfl rfl ?_ (fun x => ?_); first | exact trivial | exact rfl | assumption | omega | (refine ⟨?_, ?_⟩ <;> omega) | (simp only [Room, List.length_set, List.length_append, List.length_cons, List.length_nil, List.length_replicate]; omega) | decide | skip)
          | (refine WLA.x0 rfl ?_ (fun x => ?_); first | exact trivial | exact rfl | assumption | omega | (refine ⟨?_, ?_⟩ <;> omega) | (simp only [Room, List.length_set, List.length_append, List.length_cons, List.length_nil, List.length_replicate]; omega) | decide | skip)
          | (guard_target =~ WPA _ _ _ (.cond _ _ _) _ _ _; first | (refine WPA.ifT ?_) | (refine WPA.ifF ?_) | (refine WPA.ifYes ?_ ?_; (first | assumption | omega | (refine fun h => h ?_; assumption) | (simp only [List.length_append, List.length_cons, List.length_nil, List.length_set] <;> omega))) | (refine WPA.ifNo ?_ ?_; (first | assumption | omega | (refine fun h => h ?_; assumption) | (simp only [List.length_append, List.length_cons, List.length_nil, List.length_set] <;> omega))) | (refine WPA.ifBt ?_ ?_; assumption) | (refine WPA.ifBf ?_ ?_; assumption) | (refine WPA.ifBnt ?_ ?_; assumption) | (refine WPA.ifBnf ?_ ?_; assumption) | (refine WPA.ifs ?_ ?_ <;> intro hc) | (refine WPA.ifB ?_ ?_ <;> intro hc))
          | (guard_target =~ WLA _ _ _ _ _ (⟨_, _, _, _, _, some _⟩ :: _) _ _; first | (refine WLA.no rfl rfl ?_) | ((fail_if_success (guard_target =~ WLA _ _ _ _ _ _ (put1 _ _ (.bool true)) _)); (fail_if_success (guard_target =~ WLA _ _ _ _ _ _ (put1 _ _ (.bool false)) _)); first | (refine WLA.yes rfl rfl ?_ ?_; (first | assumption | omega | (refine fun h => h ?_; assumption) | (simp only [List.length_append, List.length_cons, List.length_nil, List.length_set] <;> omega))) | (refine WLA.nay rfl rfl ?_ ?_; (first | assumption | omega | (refine fun h => h ?_; assumption) | (simp only [List.length_append, List.length_cons, List.length_nil, List.length_set] <;> omega))) | (refine WLA.both rfl rfl ?_ ?_ <;> intro hg) | (refine WLA.bothB rfl rfl ?_ ?_ <;> intro hg)))
          | (guard_target =~ WLA _ _ _ _ _ (⟨_, .pick _ _ _, _, _, _, _⟩ :: _) _ _; first | (refine WLA.pickT ?_ ?_; first | exact rfl | (first | assumption | omega | (refine fun h => h ?_; assumption) | (simp only [List.length_append, List.length_cons, List.length_nil, List.length_set] <;> omega)) | decide) | (refine WLA.pickF ?_ ?_; first | (first | assumption | omega | (refine fun h => h ?_; assumption) | (simp only [List.length_append, List.length_cons, List.length_nil, List.length_set] <;> omega)) | decide)))
        exact QQ.end_ rfl () rfl fun w h => h
/-- The first i texts, joined. -/
def jt (l : List ByteArray) : Nat → ByteArray
  | 0 => ⟨#[]⟩
  | i + 1 => (if 0 < i then jt l i ++ ⟨#[32]⟩ else jt l i) ++ at_ l i
theorem app_list (a b : ByteArray) : (a ++ b).data.toList = a.data.toList ++ b.data.toList := by
  rw [ByteArray.data_append, Array.toList_append]
theorem jt_data (l : List ByteArray) : ∀ i, i ≤ l.length → (jt l i).data.toList = jl (l.take i)
  | 0, _ => rfl
  | 1, h => by
    rw [jt, if_neg (by omega), app_list, List.take_add_one, List.getElem?_eq_getElem (by omega), at_nat l 0 (by omega)]
    rfl
  | i + 2, h => by
    have ih := jt_data l (i + 1) (by omega)
    rw [jt, if_pos (by omega), app_list, app_list, ih, List.take_add_one (i := i + 1), List.getElem?_eq_getElem (by omega), Option.toList_some, jl_snoc _ _ (fun e => by have := congrArg List.length e; rw [List.length_take, List.length_nil] at this; omega), at_nat l (i + 1) (by omega)]
    simp
theorem jt_size (l : List ByteArray) (h : ∀ w ∈ l, w.size ≤ 255) : ∀ i, i ≤ l.length → (jt l i).size ≤ i * 256
  | 0, _ => Nat.le_refl _
  | i + 1, hi => by
    have ih := jt_size l h i (by omega)
    have hw := h _ (List.getElem_mem (show i < l.length by omega))
    rw [← at_nat l i (by omega)] at hw
    rw [jt]
    split
    · rw [ByteArray.size_append, ByteArray.size_append]
      have : (⟨#[32]⟩ : ByteArray).size = 1 := rfl
      omega
    · rw [ByteArray.size_append]; omega
theorem Join_tr {a : SV} {l : List ByteArray} {L : List HP} {w0 : World} {I : Foot} [ha : RdS I L a ByteArray inferInstance l] (hn : l.length ≤ 60) (hz : ∀ w ∈ l, w.size ≤ 255) : TrP Try.prog 88 #[.slice a.a a.n a.cap] (SL w0 I L) (.string (jt l l.length)) := by
  refine TrP.ofD fun u => Tr.intro Try.func88 rfl Try.ntmps88 rfl ?_
  repeat' (first
    | (refine WLA.m rfl rfl ?_ ?_; first | exact trivial | exact rfl | assumption | omega | (refine ⟨?_, ?_⟩ <;> omega) | (simp only [Room, List.length_set, List.length_append, List.length_cons, List.length_nil, List.length_replicate]; omega) | decide | skip)
    | (refine WLA.nil ?_)
    | (refine WPA.region ?_)
    | (refine WPA.seq ?_)
    | (refine QQ.seq_normal ?_)
    | (refine WPA.skip ?_)
    | (refine WPA.block ?_)
    | (refine WPA.ret ?_)
    | (refine WPA.exit ?_)
    | (refine QQ.seq_ret ?_)
    | (refine QQ.seq_exit ?_)
    | (refine QQ.block_normal ?_)
    | (refine QQ.block_ret ?_)
    | (refine QQ.block_hit ?_)
    | (refine QQ.block_miss rfl ?_)
    | (refine QQ.loop_ret ?_)
    | (refine QQ.loop_exit ?_)
    | (refine WLA.st rfl ?_ ?_; first | exact trivial | exact rfl | assumption | omega | (refine ⟨?_, ?_⟩ <;> omega) | (simp only [Room, List.length_set, List.length_append, List.length_cons, List.length_nil, List.length_replicate]; omega) | decide | skip)
    | (refine WLA.x rfl rfl ?_ (fun x => ?_); first | exact trivial | exact rfl | assumption | omega | (refine ⟨?_, ?_⟩ <;> omega) | (simp only [Room, List.length_set, List.length_append, List.length_cons, List.length_nil, List.length_replicate]; omega) | decide | skip)
    | (refine WLA.x0 rfl ?_ (fun x => ?_); first | exact trivial | exact rfl | assumption | omega | (refine ⟨?_, ?_⟩ <;> omega) | (simp only [Room, List.length_set, List.length_append, List.length_cons, List.length_nil, List.length_replicate]; omega) | decide | skip)
    | (guard_target =~ WPA _ _ _ (.cond _ _ _) _ _ _; first | (refine WPA.ifT ?_) | (refine WPA.ifF ?_) | (refine WPA.ifYes ?_ ?_; (first | assumption | omega | (refine fun h => h ?_; assumption) | (simp only [List.length_append, List.length_cons, List.length_nil, List.length_set] <;> omega))) | (refine WPA.ifNo ?_ ?_; (first | assumption | omega | (refine fun h => h ?_; assumption) | (simp only [List.length_append, List.length_cons, List.length_nil, List.length_set] <;> omega))) | (refine WPA.ifBt ?_ ?_; assumption) | (refine WPA.ifBf ?_ ?_; assumption) | (refine WPA.ifBnt ?_ ?_; assumption) | (refine WPA.ifBnf ?_ ?_; assumption) | (refine WPA.ifs ?_ ?_ <;> intro hc) | (refine WPA.ifB ?_ ?_ <;> intro hc)))
  refine WPA.loopS (σ := Nat) (fun i => [(0, .slice a.a a.n a.cap), (3, .string (jt l i)), (4, .int .i64 i)]) (fun i => i ≤ l.length)
    (fun i => SLd w0 I L u) (fun i => l.length - i) 0 ⟨rfl, rfl, rfl, trivial⟩ (Nat.zero_le _) (fun w h => h) ?_
  intro i ρ hi
  by_cases hlt : i < l.length
  · have hlt' : (i : Int) < l.length := by omega
    have hjs := jt_size l hz i hi
    have hw := hz _ (List.getElem_mem hlt)
    rw [← at_nat l i hlt] at hw
    have h32 : (⟨#[32]⟩ : ByteArray).size = 1 := rfl
    have hcat : (jt l i ++ (⟨#[32]⟩ : ByteArray)).size = (jt l i).size + 1 := by rw [ByteArray.size_append]; rfl
    by_cases h0 : 0 < i
    · have h0' : (0 : Int) < i := by omega
      repeat' (first
        | (refine WLA.m rfl rfl ?_ ?_; first | exact trivial | exact rfl | assumption | omega | (refine ⟨?_, ?_⟩ <;> omega) | (simp only [Room, List.length_set, List.length_append, List.length_cons, List.length_nil, List.length_replicate]; omega) | decide | skip)
        | (refine WLA.nil ?_)
        | (refine WPA.region ?_)
        | (refine WPA.seq ?_)
        | (refine QQ.seq_normal ?_)
        | (refine WPA.skip ?_)
        | (refine WPA.block ?_)
        | (refine WPA.ret ?_)
        | (refine WPA.exit ?_)
        | (refine QQ.seq_ret ?_)
        | (refine QQ.seq_exit ?_)
        | (refine QQ.block_normal ?_)
        | (refine QQ.block_ret ?_)
        | (refine QQ.block_hit ?_)
        | (refine QQ.block_miss rfl ?_)
        | (refine QQ.loop_ret ?_)
        | (refine QQ.loop_exit ?_)
        | (refine WLA.st rfl ?_ ?_; first | exact trivial | exact rfl | assumption | omega | (refine ⟨?_, ?_⟩ <;> omega) | (simp only [Room, List.length_set, List.length_append, List.length_cons, List.length_nil, List.length_replicate]; omega) | decide | skip)
        | (refine WLA.x rfl rfl ?_ (fun x => ?_); first | exact trivial | exact rfl | assumption | omega | (refine ⟨?_, ?_⟩ <;> omega) | (simp only [Room, List.length_set, List.length_append, List.length_cons, List.length_nil, List.length_replicate]; omega) | decide | skip)
        | (refine WLA.x0 rfl ?_ (fun x => ?_); first | exact trivial | exact rfl | assumption | omega | (refine ⟨?_, ?_⟩ <;> omega) | (simp only [Room, List.length_set, List.length_append, List.length_cons, List.length_nil, List.length_replicate]; omega) | decide | skip)
        | (guard_target =~ WPA _ _ _ (.cond _ _ _) _ _ _; first | (refine WPA.ifT ?_) | (refine WPA.ifF ?_) | (refine WPA.ifYes ?_ ?_; (first | assumption | omega | (refine fun h => h ?_; assumption) | (simp only [List.length_append, List.length_cons, List.length_nil, List.length_set] <;> omega))) | (refine WPA.ifNo ?_ ?_; (first | assumption | omega | (refine fun h => h ?_; assumption) | (simp only [List.length_append, List.length_cons, List.length_nil, List.length_set] <;> omega))) | (refine WPA.ifBt ?_ ?_; assumption) | (refine WPA.ifBf ?_ ?_; assumption) | (refine WPA.ifBnt ?_ ?_; assumption) | (refine WPA.ifBnf ?_ ?_; assumption) | (refine WPA.ifs ?_ ?_ <;> intro hc) | (refine WPA.ifB ?_ ?_ <;> intro hc)))
      have e : jt l (i + 1) = jt l i ++ ⟨#[32]⟩ ++ at_ l i := by rw [jt, if_pos h0]
      exact QQ.loopS (i + 1) ⟨rfl, by rw [e]; rfl, rfl, trivial⟩ hlt (by omega) (fun w h => h)
    · have h0' : ¬ (0 : Int) < i := by omega
      repeat' (first
        | (refine WLA.m rfl rfl ?_ ?_; first | exact trivial | exact rfl | assumption | omega | (refine ⟨?_, ?_⟩ <;> omega) | (simp only [Room, List.length_set, List.length_append, List.length_cons, List.length_nil, List.length_replicate]; omega) | decide | skip)
        | (refine WLA.nil ?_)
        | (refine WPA.region ?_)
        | (refine WPA.seq ?_)
        | (refine QQ.seq_normal ?_)
        | (refine WPA.skip ?_)
        | (refine WPA.block ?_)
        | (refine WPA.ret ?_)
        | (refine WPA.exit ?_)
        | (refine QQ.seq_ret ?_)
        | (refine QQ.seq_exit ?_)
        | (refine QQ.block_normal ?_)
        | (refine QQ.block_ret ?_)
        | (refine QQ.block_hit ?_)
        | (refine QQ.block_miss rfl ?_)
        | (refine QQ.loop_ret ?_)
        | (refine QQ.loop_exit ?_)
        | (refine WLA.st rfl ?_ ?_; first | exact trivial | exact rfl | assumption | omega | (refine ⟨?_, ?_⟩ <;> omega) | (simp only [Room, List.length_set, List.length_append, List.length_cons, List.length_nil, List.length_replicate]; omega) | decide | skip)
        | (refine WLA.x rfl rfl ?_ (fun x => ?_); first | exact trivial | exact rfl | assumption | omega | (refine ⟨?_, ?_⟩ <;> omega) | (simp only [Room, List.length_set, List.length_append, List.length_cons, List.length_nil, List.length_replicate]; omega) | decide | skip)
        | (refine WLA.x0 rfl ?_ (fun x => ?_); first | exact trivial | exact rfl | assumption | omega | (refine ⟨?_, ?_⟩ <;> omega) | (simp only [Room, List.length_set, List.length_append, List.length_cons, List.length_nil, List.length_replicate]; omega) | decide | skip)
        | (guard_target =~ WPA _ _ _ (.cond _ _ _) _ _ _; first | (refine WPA.ifT ?_) | (refine WPA.ifF ?_) | (refine WPA.ifYes ?_ ?_; (first | assumption | omega | (refine fun h => h ?_; assumption) | (simp only [List.length_append, List.length_cons, List.length_nil, List.length_set] <;> omega))) | (refine WPA.ifNo ?_ ?_; (first | assumption | omega | (refine fun h => h ?_; assumption) | (simp only [List.length_append, List.length_cons, List.length_nil, List.length_set] <;> omega))) | (refine WPA.ifBt ?_ ?_; assumption) | (refine WPA.ifBf ?_ ?_; assumption) | (refine WPA.ifBnt ?_ ?_; assumption) | (refine WPA.ifBnf ?_ ?_; assumption) | (refine WPA.ifs ?_ ?_ <;> intro hc) | (refine WPA.ifB ?_ ?_ <;> intro hc)))
      have e : jt l (i + 1) = jt l i ++ at_ l i := by rw [jt, if_neg h0]
      exact QQ.loopS (i + 1) ⟨rfl, by rw [e]; rfl, rfl, trivial⟩ hlt (by omega) (fun w h => h)
  · have hlt' : ¬ (i : Int) < l.length := by omega
    have e : i = l.length := by omega
    subst e
    repeat' (first
      | (refine WLA.m rfl rfl ?_ ?_; first | exact trivial | exact rfl | assumption | omega | (refine ⟨?_, ?_⟩ <;> omega) | (simp only [Room, List.length_set, List.length_append, List.length_cons, List.length_nil, List.length_replicate]; omega) | decide | skip)
      | (refine WLA.nil ?_)
      | (refine WPA.region ?_)
      | (refine WPA.seq ?_)
      | (refine QQ.seq_normal ?_)
      | (refine WPA.skip ?_)
      | (refine WPA.block ?_)
      | (refine WPA.ret ?_)
      | (refine WPA.exit ?_)
      | (refine QQ.seq_ret ?_)
      | (refine QQ.seq_exit ?_)
      | (refine QQ.block_normal ?_)
      | (refine QQ.block_ret ?_)
      | (refine QQ.block_hit ?_)
      | (refine QQ.block_miss rfl ?_)
      | (refine QQ.loop_ret ?_)
      | (refine QQ.loop_exit ?_)
      | (refine WLA.st rfl ?_ ?_; first | exact trivial | exact rfl | assumption | omega | (refine ⟨?_, ?_⟩ <;> omega) | (simp only [Room, List.length_set, List.length_append, List.length_cons, List.length_nil, List.length_replicate]; omega) | decide | skip)
      | (refine WLA.x rfl rfl ?_ (fun x => ?_); first | exact trivial | exact rfl | assumption | omega | (refine ⟨?_, ?_⟩ <;> omega) | (simp only [Room, List.length_set, List.length_append, List.length_cons, List.length_nil, List.length_replicate]; omega) | decide | skip)
      | (refine WLA.x0 rfl ?_ (fun x => ?_); first | exact trivial | exact rfl | assumption | omega | (refine ⟨?_, ?_⟩ <;> omega) | (simp only [Room, List.length_set, List.length_append, List.length_cons, List.length_nil, List.length_replicate]; omega) | decide | skip)
      | (guard_target =~ WPA _ _ _ (.cond _ _ _) _ _ _; first | (refine WPA.ifT ?_) | (refine WPA.ifF ?_) | (refine WPA.ifYes ?_ ?_; (first | assumption | omega | (refine fun h => h ?_; assumption) | (simp only [List.length_append, List.length_cons, List.length_nil, List.length_set] <;> omega))) | (refine WPA.ifNo ?_ ?_; (first | assumption | omega | (refine fun h => h ?_; assumption) | (simp only [List.length_append, List.length_cons, List.length_nil, List.length_set] <;> omega))) | (refine WPA.ifBt ?_ ?_; assumption) | (refine WPA.ifBf ?_ ?_; assumption) | (refine WPA.ifBnt ?_ ?_; assumption) | (refine WPA.ifBnf ?_ ?_; assumption) | (refine WPA.ifs ?_ ?_ <;> intro hc) | (refine WPA.ifB ?_ ?_ <;> intro hc)))
    exact QQ.end_ rfl () rfl fun w h => h
end Go.Proofs.Ytlodbajaoadhdaa
