/- PilePlays: the walk. Conditions: none. -/
import Derived.Test.YtckackfgkidedaaPi4
namespace Go.Proofs.Ytckackfgkidedaa
open Go Go.Fw Go.RowKit
set_option linter.unusedVariables false
set_option linter.unusedSimpArgs false
set_option maxRecDepth 100000
set_option maxHeartbeats 16000000
set_option synthInstance.maxHeartbeats 200000
set_option synthInstance.maxSize 100000
attribute [local irreducible] WPA WLA WDA WDQ WDE QQ seqQ blockQ loopQ fnQ OpP OpT Tr TrP SL SLd OwnS LitS Bk BkE Ob

theorem withoutL_len (l : List It) (a : Int) : (withoutL l a).length ≤ l.length := by
  unfold withoutL; split
  · exact Nat.le_refl _
  · exact List.length_eraseIdx_le _ _
structure PP where
  i : Nat
  l : List It
  r : SV
  c : Nat
theorem PilePlays_tr {s : SV} {acts : List (Int × It)} {w0 : World} {I : Foot} [hr : RdS I [] s (Int × It) inferInstance acts] :
    Tr Try.prog 6 #[.slice s.a s.n s.cap] (SL w0 I []) (fun _ : Unit => .bool true) (fun _ => SL w0 I []) := by
  refine Tr.intro Try.func6 rfl Try.ntmps6 rfl ?_
  by_cases hlen : (200 : Int) < acts.length
  · skip
    repeat' (first
      | (refine WLA.m rfl rfl ?_ ?_; first | exact trivial | exact rfl | assumption | omega | (refine ⟨?_, ?_⟩ <;> omega) | (simp only [Room, List.length_set, List.length_append, List.length_cons, List.length_nil, List.length_replicate]; omega) | skip)
      | (refine WLA.nil ?_)
      | (refine WPA.region ?_)
      | (refine WPA.seq ?_)
      | (refine QQ.seq_normal ?_)
      | (refine WPA.skip ?_)
      | (refine WPA.block ?_)
      | (refine WPA.ret ?_)
      | (refine WPA.exit ?_)
      | (refine QQ.seq_ret ?_)
      | (refine QQ.seq_exit ?_)
      | (refine QQ.block_normal ?_)
      | (refine QQ.block_ret ?_)
      | (refine QQ.block_hit ?_)
      | (refine QQ.block_miss rfl ?_)
      | (refine QQ.loop_ret ?_)
      | (refine QQ.loop_exit ?_)
      | (guard_target =~ WLA _ _ _ _ _ (⟨_, .call ⟨.value (.func 27), _, _⟩, _, _, _, _⟩ :: _) _ _; first | (refine WLA.call rfl rfl (live_tr _ _ _) ?_; rintro ⟨⟩) | (refine WLA.call0 rfl (live_tr _ _ _) ?_; rintro ⟨⟩))
      | (refine WLA.st rfl ?_ ?_; first | exact trivial | exact rfl | assumption | omega | (refine ⟨?_, ?_⟩ <;> omega) | (simp only [Room, List.length_set, List.length_append, List.length_cons, List.length_nil, List.length_replicate]; omega) | skip)
      | (refine WLA.x rfl rfl ?_ (fun x => ?_); first | exact trivial | exact rfl | assumption | omega | (refine ⟨?_, ?_⟩ <;> omega) | (simp only [Room, List.length_set, List.length_append, List.length_cons, List.length_nil, List.length_replicate]; omega) | skip)
      | (refine WLA.x0 rfl ?_ (fun x => ?_); first | exact trivial | exact rfl | assumption | omega | (refine ⟨?_, ?_⟩ <;> omega) | (simp only [Room, List.length_set, List.length_append, List.length_cons, List.length_nil, List.length_replicate]; omega) | skip)
      | (guard_target =~ WPA _ _ _ (.cond _ _ _) _ _ _; first | (refine WPA.ifT ?_) | (refine WPA.ifF ?_) | (refine WPA.ifYes ?_ ?_; (first | assumption | omega | (refine fun h => h ?_; assumption) | (simp only [List.length_append, List.length_cons, List.length_nil, List.length_set] <;> omega))) | (refine WPA.ifNo ?_ ?_; (first | assumption | omega | (refine fun h => h ?_; assumption) | (simp only [List.length_append, List.length_cons, List.length_nil, List.length_set] <;> omega))) | (refine WPA.ifs ?_ ?_ <;> intro hc) | (refine WPA.ifB ?_ ?_ <;> intro hc))
      | (guard_target =~ WLA _ _ _ _ _ (⟨_, _, _, _, _, some _⟩ :: _) _ _; first | (refine WLA.no rfl rfl ?_) | (refine WLA.yes rfl rfl ?_ ?_; (first | assumption | omega | (refine fun h => h ?_; assumption) | (simp only [List.length_append, List.length_cons, List.length_nil, List.length_set] <;> omega))) | (refine WLA.nay rfl rfl ?_ ?_; (first | assumption | omega | (refine fun h => h ?_; assumption) | (simp only [List.length_append, List.length_cons, List.length_nil, List.length_set] <;> omega))) | (refine WLA.both rfl rfl ?_ ?_ <;> intro hg) | (refine WLA.bothB rfl rfl ?_ ?_ <;> intro hg))
      | (guard_target =~ WPA _ _ _ (.region 16 _ true) _ _ _; refine WPA.drawT 9 (.p 1 (.p 3 (.p 4 (.p 5 (.p 6 (.p 7 (.b false 0 (.b true 2 (.e 8 .fin) false 8 (.w 2 .fin)) false 8 (.e 0 (.w 2 .fin))))))))) mixed ?_ ?_; kernel_rfl)
      | (refine WDA.finish (tl := [⟨_, _, _, _, _, _⟩, ⟨_, _, _, _, _, _⟩]) rfl ?_)
      | (refine WDQ.see rfl ?_)
      | (refine WDQ.m rfl rfl ?_ ?_; first | exact trivial | exact rfl | assumption | omega | (refine ⟨?_, ?_⟩ <;> omega) | (simp only [Room, List.length_set, List.length_append, List.length_cons, List.length_nil, List.length_replicate]; omega) | skip)
      | (refine WDP.see rfl ?_)
      | (refine WDP.m rfl rfl ?_ ?_; first | exact trivial | exact rfl | assumption | omega | (refine ⟨?_, ?_⟩ <;> omega) | (simp only [Room, List.length_set, List.length_append, List.length_cons, List.length_nil, List.length_replicate]; omega) | skip)
      | (refine WDP.no rfl rfl ?_)
      | (refine WDW.see rfl ?_)
      | (refine WDW.x rfl rfl ?_ (fun x => ?_); first | exact trivial | exact rfl | assumption | omega | (refine ⟨?_, ?_⟩ <;> omega) | (simp only [Room, List.length_set, List.length_append, List.length_cons, List.length_nil, List.length_replicate]; omega) | skip)
      | (refine WDW.st rfl ?_ ?_; first | exact trivial | exact rfl | assumption | omega | (refine ⟨?_, ?_⟩ <;> omega) | (simp only [Room, List.length_set, List.length_append, List.length_cons, List.length_nil, List.length_replicate]; omega) | skip)
      | (first | (refine WDA.two rfl rfl ?_ ?_) | (refine WDA.twoL rfl rfl ?_ ?_) | (refine WDA.twoR rfl rfl ?_ ?_) | (refine WDA.twoW rfl rfl ?_ ?_))
      | (refine WDE.see rfl ?_)
      | (refine WDE.alloc rfl rfl (fun w h => h) (fun x => ?_))
      | (refine WDE.stE rfl ?_)
      | (refine WDE.x rfl rfl ?_ ?_ (fun x => ?_); rotate_left 1; (intro x w h; exact Ent.drop1.sl h); rotate_left 1; first | exact trivial | exact rfl | assumption | omega | (refine ⟨?_, ?_⟩ <;> omega) | (simp only [Room, List.length_set, List.length_append, List.length_cons, List.length_nil, List.length_replicate]; omega) | skip)
      | (guard_target =~ WDE _ _ _ _ _ _ _ ⟨_, .call ⟨.value (.func 27), _, _⟩, _, _, _, _⟩ _ _ _; refine WDE.call rfl rfl (live_tr _ _ _) ?_ ?_; (intro x w h; exact Ent.drop1.sl h); rintro ⟨⟩)
      | (guard_target =~ WDW _ _ _ _ _ _ _ ⟨_, .call ⟨.value (.func 27), _, _⟩, _, _, _, _⟩ _ _ _; refine WDW.call rfl rfl (live_tr _ _ _) ?_; rintro ⟨⟩))
    exact QQ.end_ rfl () rfl fun w h => h
  · skip
    repeat' (first
      | (refine WLA.m rfl rfl ?_ ?_; first | exact trivial | exact rfl | assumption | omega | (refine ⟨?_, ?_⟩ <;> omega) | (simp only [Room, List.length_set, List.length_append, List.length_cons, List.length_nil, List.length_replicate]; omega) | skip)
      | (refine WLA.nil ?_)
      | (refine WPA.region ?_)
      | (refine WPA.seq ?_)
      | (refine QQ.seq_normal ?_)
      | (refine WPA.skip ?_)
      | (refine WPA.block ?_)
      | (refine WPA.ret ?_)
      | (refine WPA.exit ?_)
      | (refine QQ.seq_ret ?_)
      | (refine QQ.seq_exit ?_)
      | (refine QQ.block_normal ?_)
      | (refine QQ.block_ret ?_)
      | (refine QQ.block_hit ?_)
      | (refine QQ.block_miss rfl ?_)
      | (refine QQ.loop_ret ?_)
      | (refine QQ.loop_exit ?_)
      | (guard_target =~ WLA _ _ _ _ _ (⟨_, .call ⟨.value (.func 28), _, _⟩, _, _, _, _⟩ :: _) _ _; first | (refine WLA.call rfl rfl (New_trA _ _ _) ?_; rintro p) | (refine WLA.call0 rfl (New_trA _ _ _) ?_; rintro p))
      | (refine WLA.st rfl ?_ ?_; first | exact trivial | exact rfl | assumption | omega | (refine ⟨?_, ?_⟩ <;> omega) | (simp only [Room, List.length_set, List.length_append, List.length_cons, List.length_nil, List.length_replicate]; omega) | skip)
      | (refine WLA.x rfl rfl ?_ (fun x => ?_); first | exact trivial | exact rfl | assumption | omega | (refine ⟨?_, ?_⟩ <;> omega) | (simp only [Room, List.length_set, List.length_append, List.length_cons, List.length_nil, List.length_replicate]; omega) | skip)
      | (refine WLA.x0 rfl ?_ (fun x => ?_); first | exact trivial | exact rfl | assumption | omega | (refine ⟨?_, ?_⟩ <;> omega) | (simp only [Room, List.length_set, List.length_append, List.length_cons, List.length_nil, List.length_replicate]; omega) | skip)
      | (guard_target =~ WPA _ _ _ (.cond _ _ _) _ _ _; first | (refine WPA.ifT ?_) | (refine WPA.ifF ?_) | (refine WPA.ifYes ?_ ?_; (first | assumption | omega | (refine fun h => h ?_; assumption) | (simp only [List.length_append, List.length_cons, List.length_nil, List.length_set] <;> omega))) | (refine WPA.ifNo ?_ ?_; (first | assumption | omega | (refine fun h => h ?_; assumption) | (simp only [List.length_append, List.length_cons, List.length_nil, List.length_set] <;> omega))) | (refine WPA.ifs ?_ ?_ <;> intro hc) | (refine WPA.ifB ?_ ?_ <;> intro hc))
      | (guard_target =~ WLA _ _ _ _ _ (⟨_, _, _, _, _, some _⟩ :: _) _ _; first | (refine WLA.no rfl rfl ?_) | (refine WLA.yes rfl rfl ?_ ?_; (first | assumption | omega | (refine fun h => h ?_; assumption) | (simp only [List.length_append, List.length_cons, List.length_nil, List.length_set] <;> omega))) | (refine WLA.nay rfl rfl ?_ ?_; (first | assumption | omega | (refine fun h => h ?_; assumption) | (simp only [List.length_append, List.length_cons, List.length_nil, List.length_set] <;> omega))) | (refine WLA.both rfl rfl ?_ ?_ <;> intro hg) | (refine WLA.bothB rfl rfl ?_ ?_ <;> intro hg))
      | (guard_target =~ WPA _ _ _ (.region 16 _ true) _ _ _; refine WPA.drawT 9 (.p 1 (.p 3 (.p 4 (.p 5 (.p 6 (.p 7 (.b false 0 (.b true 2 (.e 8 .fin) false 8 (.w 2 .fin)) false 8 (.e 0 (.w 2 .fin))))))))) mixed ?_ ?_; kernel_rfl)
      | (refine WDA.finish (tl := [⟨_, _, _, _, _, _⟩, ⟨_, _, _, _, _, _⟩]) rfl ?_)
      | (refine WDQ.see rfl ?_)
      | (refine WDQ.m rfl rfl ?_ ?_; first | exact trivial | exact rfl | assumption | omega | (refine ⟨?_, ?_⟩ <;> omega) | (simp only [Room, List.length_set, List.length_append, List.length_cons, List.length_nil, List.length_replicate]; omega) | skip)
      | (refine WDP.see rfl ?_)
      | (refine WDP.m rfl rfl ?_ ?_; first | exact trivial | exact rfl | assumption | omega | (refine ⟨?_, ?_⟩ <;> omega) | (simp only [Room, List.length_set, List.length_append, List.length_cons, List.length_nil, List.length_replicate]; omega) | skip)
      | (refine WDP.no rfl rfl ?_)
      | (refine WDW.see rfl ?_)
      | (refine WDW.x rfl rfl ?_ (fun x => ?_); first | exact trivial | exact rfl | assumption | omega | (refine ⟨?_, ?_⟩ <;> omega) | (simp only [Room, List.length_set, List.length_append, List.length_cons, List.length_nil, List.length_replicate]; omega) | skip)
      | (refine WDW.st rfl ?_ ?_; first | exact trivial | exact rfl | assumption | omega | (refine ⟨?_, ?_⟩ <;> omega) | (simp only [Room, List.length_set, List.length_append, List.length_cons, List.length_nil, List.length_replicate]; omega) | skip)
      | (first | (refine WDA.two rfl rfl ?_ ?_) | (refine WDA.twoL rfl rfl ?_ ?_) | (refine WDA.twoR rfl rfl ?_ ?_) | (refine WDA.twoW rfl rfl ?_ ?_))
      | (refine WDE.see rfl ?_)
      | (refine WDE.alloc rfl rfl (fun w h => h) (fun x => ?_))
      | (refine WDE.stE rfl ?_)
      | (refine WDE.x rfl rfl ?_ ?_ (fun x => ?_); rotate_left 1; (intro x w h; exact Ent.drop1.sl h); rotate_left 1; first | exact trivial | exact rfl | assumption | omega | (refine ⟨?_, ?_⟩ <;> omega) | (simp only [Room, List.length_set, List.length_append, List.length_cons, List.length_nil, List.length_replicate]; omega) | skip)
      | (guard_target =~ WDE _ _ _ _ _ _ _ ⟨_, .call ⟨.value (.func 28), _, _⟩, _, _, _, _⟩ _ _ _; refine WDE.call rfl rfl (New_trA _ _ _) ?_ ?_; (intro x w h; exact Ent.drop1.sl h); rintro p)
      | (guard_target =~ WDW _ _ _ _ _ _ _ ⟨_, .call ⟨.value (.func 28), _, _⟩, _, _, _, _⟩ _ _ _; refine WDW.call rfl rfl (New_trA _ _ _) ?_; rintro p))
    refine WPA.loopS (σ := PP) (fun x => [(0, .slice s.a s.n s.cap), (3, .pointer (some ⟨p, 0, none⟩)), (4, .slice x.r.a x.r.n x.r.cap), (5, .int .i64 x.i)]) (fun x => x.i ≤ acts.length ∧ x.l.length ≤ x.i ∧ x.c ≤ x.i)
      (fun x => SL w0 I [OwnS 44 x.r x.l, PileA p (x.l, x.c)]) (fun x => acts.length - x.i) ⟨0, [], SV.nil, 0⟩ ⟨rfl, rfl, rfl, rfl, trivial⟩ ⟨by simp, by simp, by simp⟩ (fun w h => h.to) ?_
    rintro ⟨i, l, r, c⟩ ρ ⟨hi, hl, hc⟩
    dsimp only at hi hl hc ⊢
    by_cases hlt : i < acts.length
    · have hlt' : (i : Int) < acts.length := by omega
      have ht := topL_range l
      have hw := withoutL_len l (topL l)
      have hb : ¬ (decide (l ≠ []) ≠ decide (0 ≤ topL l)) := by
        by_cases h0 : l = []
        · subst h0; decide
        · have := ht.2.2 h0; simp [h0, this]
      have hv : (0 ≤ topL l → (topV l).1 = (at_ l (topL l)).1 ∧ (topV l).2 = (at_ l (topL l)).2) ∧ (¬ 0 ≤ topL l → (topV l).1 = 0 ∧ (topV l).2 = 0) := by
        by_cases h0 : l = []
        · subst h0; exact ⟨fun h => absurd h (by decide), fun _ => ⟨rfl, rfl⟩⟩
        · exact ⟨fun _ => by simp [topV, h0], fun h => absurd (ht.2.2 h0) h⟩
      repeat' (first
        | (refine WLA.m rfl rfl ?_ ?_; first | exact trivial | exact rfl | assumption | omega | (refine ⟨?_, ?_⟩ <;> omega) | (simp only [Room, List.length_set, List.length_append, List.length_cons, List.length_nil, List.length_replicate]; omega) | skip)
        | (refine WLA.nil ?_)
        | (refine WPA.region ?_)
        | (refine WPA.seq ?_)
        | (refine QQ.seq_normal ?_)
        | (refine WPA.skip ?_)
        | (refine WPA.block ?_)
        | (refine WPA.ret ?_)
        | (refine WPA.exit ?_)
        | (refine QQ.seq_ret ?_)
        | (refine QQ.seq_exit ?_)
        | (refine QQ.block_normal ?_)
        | (refine QQ.block_ret ?_)
        | (refine QQ.block_hit ?_)
        | (refine QQ.block_miss rfl ?_)
        | (refine QQ.loop_ret ?_)
        | (refine QQ.loop_exit ?_)
        | (guard_target =~ WLA _ _ _ _ _ (⟨_, .call ⟨.value (.func 29), _, _⟩, _, _, _, _⟩ :: _) _ _; refine WLA.cq rfl rfl (rTop_tr (by omega)) ?_)
        | (guard_target =~ WLA _ _ _ _ _ (⟨_, .call ⟨.value (.func 32), _, _⟩, _, _, _, _⟩ :: _) _ _; first | (refine WLA.call rfl rfl (rWithout_tr (by omega) (by omega)) ?_; rintro r') | (refine WLA.call0 rfl (rWithout_tr (by omega) (by omega)) ?_; rintro r'))
        | (guard_target =~ WLA _ _ _ _ _ (⟨_, .call ⟨.value (.func 30), _, _⟩, _, _, _, _⟩ :: _) _ _; first | (refine WLA.call rfl rfl (Push_tr (by omega) (by omega)) ?_; rintro ⟨⟩) | (refine WLA.call0 rfl (Push_tr (by omega) (by omega)) ?_; rintro ⟨⟩))
        | (guard_target =~ WLA _ _ _ _ _ (⟨_, .call ⟨.value (.func 31), _, _⟩, _, _, _, _⟩ :: _) _ _; first | (refine WLA.call rfl rfl (Pop_tr (by omega)) ?_; rintro ⟨⟩) | (refine WLA.call0 rfl (Pop_tr (by omega)) ?_; rintro ⟨⟩))
        | (guard_target =~ WLA _ _ _ _ _ (⟨_, .call ⟨.value (.func 33), _, _⟩, _, _, _, _⟩ :: _) _ _; first | (refine WLA.call rfl rfl (Top_tr (by omega)) ?_; rintro ⟨⟩) | (refine WLA.call0 rfl (Top_tr (by omega)) ?_; rintro ⟨⟩))
        | (guard_target =~ WLA _ _ _ _ _ (⟨_, .call ⟨.value (.func 34), _, _⟩, _, _, _, _⟩ :: _) _ _; refine WLA.cq rfl rfl (Len_trA) ?_)
        | (refine WLA.st rfl ?_ ?_; first | exact trivial | exact rfl | assumption | omega | (refine ⟨?_, ?_⟩ <;> omega) | (simp only [Room, List.length_set, List.length_append, List.length_cons, List.length_nil, List.length_replicate]; omega) | skip)
        | (refine WLA.x rfl rfl ?_ (fun x => ?_); first | exact trivial | exact rfl | assumption | omega | (refine ⟨?_, ?_⟩ <;> omega) | (simp only [Room, List.length_set, List.length_append, List.length_cons, List.length_nil, List.length_replicate]; omega) | skip)
        | (refine WLA.x0 rfl ?_ (fun x => ?_); first | exact trivial | exact rfl | assumption | omega | (refine ⟨?_, ?_⟩ <;> omega) | (simp only [Room, List.length_set, List.length_append, List.length_cons, List.length_nil, List.length_replicate]; omega) | skip)
        | (guard_target =~ WPA _ _ _ (.cond _ _ _) _ _ _; first | (refine WPA.ifT ?_) | (refine WPA.ifF ?_) | (refine WPA.ifYes ?_ ?_; (first | assumption | omega | (refine fun h => h ?_; assumption) | (simp only [List.length_append, List.length_cons, List.length_nil, List.length_set] <;> omega))) | (refine WPA.ifNo ?_ ?_; (first | assumption | omega | (refine fun h => h ?_; assumption) | (simp only [List.length_append, List.length_cons, List.length_nil, List.length_set] <;> omega))) | (refine WPA.ifs ?_ ?_ <;> intro hc) | (refine WPA.ifB ?_ ?_ <;> intro hc))
        | (guard_target =~ WLA _ _ _ _ _ (⟨_, _, _, _, _, some _⟩ :: _) _ _; first | (refine WLA.no rfl rfl ?_) | (refine WLA.yes rfl rfl ?_ ?_; (first | assumption | omega | (refine fun h => h ?_; assumption) | (simp only [List.length_append, List.length_cons, List.length_nil, List.length_set] <;> omega))) | (refine WLA.nay rfl rfl ?_ ?_; (first | assumption | omega | (refine fun h => h ?_; assumption) | (simp only [List.length_append, List.length_cons, List.length_nil, List.length_set] <;> omega))) | (refine WLA.both rfl rfl ?_ ?_ <;> intro hg) | (refine WLA.bothB rfl rfl ?_ ?_ <;> intro hg))
        | (guard_target =~ WPA _ _ _ (.region 16 _ true) _ _ _; refine WPA.drawT 9 (.p 1 (.p 3 (.p 4 (.p 5 (.p 6 (.p 7 (.b false 0 (.b true 2 (.e 8 .fin) false 8 (.w 2 .fin)) false 8 (.e 0 (.w 2 .fin))))))))) mixed ?_ ?_; kernel_rfl)
        | (refine WDA.finish (tl := [⟨_, _, _, _, _, _⟩, ⟨_, _, _, _, _, _⟩]) rfl ?_)
        | (refine WDQ.see rfl ?_)
        | (refine WDQ.m rfl rfl ?_ ?_; first | exact trivial | exact rfl | assumption | omega | (refine ⟨?_, ?_⟩ <;> omega) | (simp only [Room, List.length_set, List.length_append, List.length_cons, List.length_nil, List.length_replicate]; omega) | skip)
        | (refine WDP.see rfl ?_)
        | (refine WDP.m rfl rfl ?_ ?_; first | exact trivial | exact rfl | assumption | omega | (refine ⟨?_, ?_⟩ <;> omega) | (simp only [Room, List.length_set, List.length_append, List.length_cons, List.length_nil, List.length_replicate]; omega) | skip)
        | (refine WDP.no rfl rfl ?_)
        | (refine WDW.see rfl ?_)
        | (refine WDW.x rfl rfl ?_ (fun x => ?_); first | exact trivial | exact rfl | assumption | omega | (refine ⟨?_, ?_⟩ <;> omega) | (simp only [Room, List.length_set, List.length_append, List.length_cons, List.length_nil, List.length_replicate]; omega) | skip)
        | (refine WDW.st rfl ?_ ?_; first | exact trivial | exact rfl | assumption | omega | (refine ⟨?_, ?_⟩ <;> omega) | (simp only [Room, List.length_set, List.length_append, List.length_cons, List.length_nil, List.length_replicate]; omega) | skip)
        | (first | (refine WDA.two rfl rfl ?_ ?_) | (refine WDA.twoL rfl rfl ?_ ?_) | (refine WDA.twoR rfl rfl ?_ ?_) | (refine WDA.twoW rfl rfl ?_ ?_))
        | (refine WDE.see rfl ?_)
        | (refine WDE.alloc rfl rfl (fun w h => h) (fun x => ?_))
        | (refine WDE.stE rfl ?_)
        | (refine WDE.x rfl rfl ?_ ?_ (fun x => ?_); rotate_left 1; (intro x w h; exact Ent.drop1.sl h); rotate_left 1; first | exact trivial | exact rfl | assumption | omega | (refine ⟨?_, ?_⟩ <;> omega) | (simp only [Room, List.length_set, List.length_append, List.length_cons, List.length_nil, List.length_replicate]; omega) | skip)
        | (guard_target =~ WDQ _ _ _ _ _ _ _ ⟨_, .call ⟨.value (.func 29), _, _⟩, _, _, _, _⟩ _ _ _; refine WDQ.cq rfl rfl (rTop_tr (by omega)) ?_)
        | (guard_target =~ WDE _ _ _ _ _ _ _ ⟨_, .call ⟨.value (.func 32), _, _⟩, _, _, _, _⟩ _ _ _; refine WDE.call rfl rfl (rWithout_tr (by omega) (by omega)) ?_ ?_; (intro x w h; exact Ent.drop1.sl h); rintro r')
        | (guard_target =~ WDW _ _ _ _ _ _ _ ⟨_, .call ⟨.value (.func 32), _, _⟩, _, _, _, _⟩ _ _ _; refine WDW.call rfl rfl (rWithout_tr (by omega) (by omega)) ?_; rintro r')
        | (guard_target =~ WDE _ _ _ _ _ _ _ ⟨_, .call ⟨.value (.func 30), _, _⟩, _, _, _, _⟩ _ _ _; refine WDE.call rfl rfl (Push_tr (by omega) (by omega)) ?_ ?_; (intro x w h; exact Ent.drop1.sl h); rintro ⟨⟩)
        | (guard_target =~ WDW _ _ _ _ _ _ _ ⟨_, .call ⟨.value (.func 30), _, _⟩, _, _, _, _⟩ _ _ _; refine WDW.call rfl rfl (Push_tr (by omega) (by omega)) ?_; rintro ⟨⟩)
        | (guard_target =~ WDE _ _ _ _ _ _ _ ⟨_, .call ⟨.value (.func 31), _, _⟩, _, _, _, _⟩ _ _ _; refine WDE.call rfl rfl (Pop_tr (by omega)) ?_ ?_; (intro x w h; exact Ent.drop1.sl h); rintro ⟨⟩)
        | (guard_target =~ WDW _ _ _ _ _ _ _ ⟨_, .call ⟨.value (.func 31), _, _⟩, _, _, _, _⟩ _ _ _; refine WDW.call rfl rfl (Pop_tr (by omega)) ?_; rintro ⟨⟩)
        | (guard_target =~ WDE _ _ _ _ _ _ _ ⟨_, .call ⟨.value (.func 33), _, _⟩, _, _, _, _⟩ _ _ _; refine WDE.call rfl rfl (Top_tr (by omega)) ?_ ?_; (intro x w h; exact Ent.drop1.sl h); rintro ⟨⟩)
        | (guard_target =~ WDW _ _ _ _ _ _ _ ⟨_, .call ⟨.value (.func 33), _, _⟩, _, _, _, _⟩ _ _ _; refine WDW.call rfl rfl (Top_tr (by omega)) ?_; rintro ⟨⟩)
        | (guard_target =~ WDQ _ _ _ _ _ _ _ ⟨_, .call ⟨.value (.func 34), _, _⟩, _, _, _, _⟩ _ _ _; refine WDQ.cq rfl rfl (Len_trA) ?_))
      all_goals first
        | exact QQ.loopS ⟨i + 1, l ++ [((at_ acts (i : Int)).2.1, (at_ acts (i : Int)).2.2)], _, c + 1⟩ ⟨rfl, rfl, rfl, rfl, trivial⟩ ⟨hlt, by simp; omega, by dsimp only; omega⟩ (by dsimp only; omega) (fun w h => h.to)
        | exact QQ.loopS ⟨i + 1, withoutL l (topL l), _, c⟩ ⟨rfl, rfl, rfl, rfl, trivial⟩ ⟨hlt, by dsimp only; omega, by dsimp only; omega⟩ (by dsimp only; omega) (fun w h => h.to)
        | exact QQ.loopS ⟨i + 1, l, r, c⟩ ⟨rfl, rfl, rfl, rfl, trivial⟩ ⟨hlt, by dsimp only; omega, by dsimp only; omega⟩ (by dsimp only; omega) (fun w h => h.to)
    · skip
      repeat' (first
        | (refine WLA.m rfl rfl ?_ ?_; first | exact trivial | exact rfl | assumption | omega | (refine ⟨?_, ?_⟩ <;> omega) | (simp only [Room, List.length_set, List.length_append, List.length_cons, List.length_nil, List.length_replicate]; omega) | skip)
        | (refine WLA.nil ?_)
        | (refine WPA.region ?_)
        | (refine WPA.seq ?_)
        | (refine QQ.seq_normal ?_)
        | (refine WPA.skip ?_)
        | (refine WPA.block ?_)
        | (refine WPA.ret ?_)
        | (refine WPA.exit ?_)
        | (refine QQ.seq_ret ?_)
        | (refine QQ.seq_exit ?_)
        | (refine QQ.block_normal ?_)
        | (refine QQ.block_ret ?_)
        | (refine QQ.block_hit ?_)
        | (refine QQ.block_miss rfl ?_)
        | (refine QQ.loop_ret ?_)
        | (refine QQ.loop_exit ?_)
        | (guard_target =~ WLA _ _ _ _ _ (⟨_, .call ⟨.value (.func 27), _, _⟩, _, _, _, _⟩ :: _) _ _; first | (refine WLA.call rfl rfl (live_tr _ _ _) ?_; rintro ⟨⟩) | (refine WLA.call0 rfl (live_tr _ _ _) ?_; rintro ⟨⟩))
        | (refine WLA.st rfl ?_ ?_; first | exact trivial | exact rfl | assumption | omega | (refine ⟨?_, ?_⟩ <;> omega) | (simp only [Room, List.length_set, List.length_append, List.length_cons, List.length_nil, List.length_replicate]; omega) | skip)
        | (refine WLA.x rfl rfl ?_ (fun x => ?_); first | exact trivial | exact rfl | assumption | omega | (refine ⟨?_, ?_⟩ <;> omega) | (simp only [Room, List.length_set, List.length_append, List.length_cons, List.length_nil, List.length_replicate]; omega) | skip)
        | (refine WLA.x0 rfl ?_ (fun x => ?_); first | exact trivial | exact rfl | assumption | omega | (refine ⟨?_, ?_⟩ <;> omega) | (simp only [Room, List.length_set, List.length_append, List.length_cons, List.length_nil, List.length_replicate]; omega) | skip)
        | (guard_target =~ WPA _ _ _ (.cond _ _ _) _ _ _; first | (refine WPA.ifT ?_) | (refine WPA.ifF ?_) | (refine WPA.ifYes ?_ ?_; (first | assumption | omega | (refine fun h => h ?_; assumption) | (simp only [List.length_append, List.length_cons, List.length_nil, List.length_set] <;> omega))) | (refine WPA.ifNo ?_ ?_; (first | assumption | omega | (refine fun h => h ?_; assumption) | (simp only [List.length_append, List.length_cons, List.length_nil, List.length_set] <;> omega))) | (refine WPA.ifs ?_ ?_ <;> intro hc) | (refine WPA.ifB ?_ ?_ <;> intro hc))
        | (guard_target =~ WLA _ _ _ _ _ (⟨_, _, _, _, _, some _⟩ :: _) _ _; first | (refine WLA.no rfl rfl ?_) | (refine WLA.yes rfl rfl ?_ ?_; (first | assumption | omega | (refine fun h => h ?_; assumption) | (simp only [List.length_append, List.length_cons, List.length_nil, List.length_set] <;> omega))) | (refine WLA.nay rfl rfl ?_ ?_; (first | assumption | omega | (refine fun h => h ?_; assumption) | (simp only [List.length_append, List.length_cons, List.length_nil, List.length_set] <;> omega))) | (refine WLA.both rfl rfl ?_ ?_ <;> intro hg) | (refine WLA.bothB rfl rfl ?_ ?_ <;> intro hg))
        | (guard_target =~ WPA _ _ _ (.region 16 _ true) _ _ _; refine WPA.drawT 9 (.p 1 (.p 3 (.p 4 (.p 5 (.p 6 (.p 7 (.b false 0 (.b true 2 (.e 8 .fin) false 8 (.w 2 .fin)) false 8 (.e 0 (.w 2 .fin))))))))) mixed ?_ ?_; kernel_rfl)
        | (refine WDA.finish (tl := [⟨_, _, _, _, _, _⟩, ⟨_, _, _, _, _, _⟩]) rfl ?_)
        | (refine WDQ.see rfl ?_)
        | (refine WDQ.m rfl rfl ?_ ?_; first | exact trivial | exact rfl | assumption | omega | (refine ⟨?_, ?_⟩ <;> omega) | (simp only [Room, List.length_set, List.length_append, List.length_cons, List.length_nil, List.length_replicate]; omega) | skip)
        | (refine WDP.see rfl ?_)
        | (refine WDP.m rfl rfl ?_ ?_; first | exact trivial | exact rfl | assumption | omega | (refine ⟨?_, ?_⟩ <;> omega) | (simp only [Room, List.length_set, List.length_append, List.length_cons, List.length_nil, List.length_replicate]; omega) | skip)
        | (refine WDP.no rfl rfl ?_)
        | (refine WDW.see rfl ?_)
        | (refine WDW.x rfl rfl ?_ (fun x => ?_); first | exact trivial | exact rfl | assumption | omega | (refine ⟨?_, ?_⟩ <;> omega) | (simp only [Room, List.length_set, List.length_append, List.length_cons, List.length_nil, List.length_replicate]; omega) | skip)
        | (refine WDW.st rfl ?_ ?_; first | exact trivial | exact rfl | assumption | omega | (refine ⟨?_, ?_⟩ <;> omega) | (simp only [Room, List.length_set, List.length_append, List.length_cons, List.length_nil, List.length_replicate]; omega) | skip)
        | (first | (refine WDA.two rfl rfl ?_ ?_) | (refine WDA.twoL rfl rfl ?_ ?_) | (refine WDA.twoR rfl rfl ?_ ?_) | (refine WDA.twoW rfl rfl ?_ ?_))
        | (refine WDE.see rfl ?_)
        | (refine WDE.alloc rfl rfl (fun w h => h) (fun x => ?_))
        | (refine WDE.stE rfl ?_)
        | (refine WDE.x rfl rfl ?_ ?_ (fun x => ?_); rotate_left 1; (intro x w h; exact Ent.drop1.sl h); rotate_left 1; first | exact trivial | exact rfl | assumption | omega | (refine ⟨?_, ?_⟩ <;> omega) | (simp only [Room, List.length_set, List.length_append, List.length_cons, List.length_nil, List.length_replicate]; omega) | skip)
        | (guard_target =~ WDE _ _ _ _ _ _ _ ⟨_, .call ⟨.value (.func 27), _, _⟩, _, _, _, _⟩ _ _ _; refine WDE.call rfl rfl (live_tr _ _ _) ?_ ?_; (intro x w h; exact Ent.drop1.sl h); rintro ⟨⟩)
        | (guard_target =~ WDW _ _ _ _ _ _ _ ⟨_, .call ⟨.value (.func 27), _, _⟩, _, _, _, _⟩ _ _ _; refine WDW.call rfl rfl (live_tr _ _ _) ?_; rintro ⟨⟩))
      exact QQ.end_ rfl () rfl fun w h => h.to
theorem PilePlays_law (W : World) (s : SV) (hs : gSl (gPair gInt (gPair gInt gInt)) 24 W s) : Calls Try.prog 6 #[.slice s.a s.n s.cap] W fun e w' => e = .returned (.bool true) ∧ Below W.heap.size W w' := by
  obtain ⟨acts, h1, h2, h3⟩ := hs
  haveI := SlI.all h1
  exact Calls.below PilePlays_tr
end Go.Proofs.Ytckackfgkidedaa
