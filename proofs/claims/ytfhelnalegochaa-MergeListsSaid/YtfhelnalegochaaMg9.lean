/- Entries of a pile of cursors go up and down. Conditions: none. -/
import Derived.Test.YtfhelnalegochaaMg8
namespace Go.Proofs.Ytfhelnalegochaa
open Go Go.Fw Go.RowKit
set_option linter.unusedVariables false
set_option linter.unusedSimpArgs false
set_option maxRecDepth 100000
set_option maxHeartbeats 16000000
set_option synthInstance.maxHeartbeats 200000
set_option synthInstance.maxSize 100000
attribute [local irreducible] WPA WLA WDA WDQ WDE QQ seqQ blockQ loopQ fnQ OpP OpT Tr TrP SL SLd OwnS LitS Bk BkE Ob

theorem at_atE (l : List E) (k : Nat) : at_ l (k : Int) = atE l k := rfl
theorem sw_walk (l : List E) (i k : Nat) (hik : i ≠ k) : (l.set (i : Int).toNat (((at_ l (k : Int)).1.1, (at_ l (k : Int)).1.2), (at_ l (k : Int)).2)).set (k : Int).toNat (((at_ l (i : Int)).1.1, (at_ l (i : Int)).1.2), (at_ l (i : Int)).2) = swL l i k := rfl

theorem up_tr {ky : Cu → List Int} {p : Nat} {c z : Int} {es : List E} {L L' : List HP} {w0 : World} {I : Foot} [h : FindK L PileR p (es, c) L'] (i : Nat) (hz : z = i) (hi : i < es.length) (hn : es.length ≤ 1000000) (hg : ∀ e ∈ es, CurAt I e.1 (ky e.1)) (hu : UpF ky (atE es) es.length i) :
    Tr Try.prog 104 #[.pointer (some ⟨p, 0, none⟩), .int .i64 z] (SL w0 I L) (fun _ : { l : List E // l.Perm es ∧ HeapL ky l } => .tuple #[]) (fun y => SL w0 I (PileR p (y.1, c) :: L')) := by
  refine Tr.at h.out ?_
  subst hz
  refine Tr.intro Try.func104 rfl Try.ntmps104 rfl ?_
  refine WPA.block ?_
  refine WPA.loopS (σ := Nat × List E) (fun y => [(0, .pointer (some ⟨p, 0, none⟩)), (1, .int .i64 y.1)]) (fun y => y.1 < y.2.length ∧ y.2.Perm es ∧ UpF ky (atE y.2) y.2.length y.1)
    (fun y => SL w0 I (PileR p (y.2, c) :: L')) (fun y => y.1) (i, es) ⟨rfl, rfl, trivial⟩ ⟨hi, List.Perm.refl _, hu⟩ (fun _ h => h) ?_
  rintro ⟨i, l⟩ ρ ⟨hi, hp, hu⟩
  dsimp only at hi hp hu ⊢
  have hl : l.length = es.length := hp.length_eq
  have hgl : ∀ e ∈ l, CurAt I e.1 (ky e.1) := fun e he => hg e (hp.subset he)
  by_cases h0 : i = 0
  · subst h0
    repeat' (first
      | (refine WLA.m rfl rfl ?_ ?_; first | exact trivial | exact rfl | assumption | omega | (refine ⟨?_, ?_⟩ <;> omega) | (simp only [Room, List.length_set, List.length_append, List.length_cons, List.length_nil, List.length_replicate]; omega) | skip)
      | (refine WLA.nil ?_)
      | (refine WPA.region ?_)
      | (refine WPA.seq ?_)
      | (refine QQ.seq_normal ?_)
      | (refine WPA.skip ?_)
      | (refine WPA.block ?_)
      | (refine WPA.ret ?_)
      | (refine WPA.exit ?_)
      | (refine QQ.seq_ret ?_)
      | (refine QQ.seq_exit ?_)
      | (refine QQ.block_normal ?_)
      | (refine QQ.block_ret ?_)
      | (refine QQ.block_hit ?_)
      | (refine QQ.block_miss rfl ?_)
      | (refine QQ.loop_ret ?_)
      | (refine QQ.loop_exit ?_)
      | (refine WLA.st rfl ?_ ?_; first | exact trivial | exact rfl | assumption | omega | (refine ⟨?_, ?_⟩ <;> omega) | (simp only [Room, List.length_set, List.length_append, List.length_cons, List.length_nil, List.length_replicate]; omega) | skip)
      | (refine WLA.x rfl rfl ?_ (fun x => ?_); first | exact trivial | exact rfl | assumption | omega | (refine ⟨?_, ?_⟩ <;> omega) | (simp only [Room, List.length_set, List.length_append, List.length_cons, List.length_nil, List.length_replicate]; omega) | skip)
      | (refine WLA.x0 rfl ?_ (fun x => ?_); first | exact trivial | exact rfl | assumption | omega | (refine ⟨?_, ?_⟩ <;> omega) | (simp only [Room, List.length_set, List.length_append, List.length_cons, List.length_nil, List.length_replicate]; omega) | skip)
      | (guard_target =~ WPA _ _ _ (.cond _ _ _) _ _ _; first | (refine WPA.ifT ?_) | (refine WPA.ifF ?_) | (refine WPA.ifYes ?_ ?_; (first | assumption | omega | (refine fun h => h ?_; assumption) | (simp only [List.length_append, List.length_cons, List.length_nil, List.length_set] <;> omega))) | (refine WPA.ifNo ?_ ?_; (first | assumption | omega | (refine fun h => h ?_; assumption) | (simp only [List.length_append, List.length_cons, List.length_nil, List.length_set] <;> omega))) | (refine WPA.ifBt ?_ ?_; assumption) | (refine WPA.ifBf ?_ ?_; assumption) | (refine WPA.ifBnt ?_ ?_; assumption) | (refine WPA.ifBnf ?_ ?_; assumption) | (refine WPA.ifs ?_ ?_ <;> intro hc) | (refine WPA.ifB ?_ ?_ <;> intro hc))
      | (guard_target =~ WPA _ _ _ (.region 3 _ true) _ _ _; refine WPA.drawT 26 (.p 0 (.p 1 (.p 2 (.q 3 (.p 4 (.p 5 (.p 6 (.p 7 (.q 8 (.p 9 (.p 10 (.p 11 (.p 12 (.q 13 (.p 14 (.q 15 (.q 16 (.p 17 (.p 18 (.p 19 (.q 20 (.p 21 (.q 22 (.q 23 (.q 24 (.w 25 .fin)))))))))))))))))))))))))) mixed ?_ ?_; kernel_rfl)
      | (refine WDA.finish (tl := [⟨_, _, _, _, _, _⟩, ⟨_, _, _, _, _, _⟩]) rfl ?_)
      | (refine WDQ.see rfl ?_)
      | (refine WDQ.m rfl rfl ?_ ?_; first | exact trivial | exact rfl | assumption | omega | (refine ⟨?_, ?_⟩ <;> omega) | (simp only [Room, List.length_set, List.length_append, List.length_cons, List.length_nil, List.length_replicate]; omega) | skip)
      | (refine WDP.see rfl ?_)
      | (refine WDP.m rfl rfl ?_ ?_; first | exact trivial | exact rfl | assumption | omega | (refine ⟨?_, ?_⟩ <;> omega) | (simp only [Room, List.length_set, List.length_append, List.length_cons, List.length_nil, List.length_replicate]; omega) | skip)
      | (refine WDP.no rfl rfl ?_)
      | (refine WDW.see rfl ?_)
      | (refine WDW.x rfl rfl ?_ (fun x => ?_); first | exact trivial | exact rfl | assumption | omega | (refine ⟨?_, ?_⟩ <;> omega) | (simp only [Room, List.length_set, List.length_append, List.length_cons, List.length_nil, List.length_replicate]; omega) | skip)
      | (refine WDW.st rfl ?_ ?_; first | exact trivial | exact rfl | assumption | omega | (refine ⟨?_, ?_⟩ <;> omega) | (simp only [Room, List.length_set, List.length_append, List.length_cons, List.length_nil, List.length_replicate]; omega) | skip))
    exact QQ.endn rfl ⟨l, hp, up_done hu (.inl rfl)⟩ rfl fun w h => h
  · have hpar : ((i : Int) - 1) / 2 = (par i : Nat) := by unfold par; omega
    have hpi : par i < i := by unfold par; omega
    have hne : i ≠ par i := by omega
    repeat' (first
      | (refine WLA.m rfl rfl ?_ ?_; first | exact trivial | exact rfl | assumption | omega | (refine ⟨?_, ?_⟩ <;> omega) | (simp only [Room, List.length_set, List.length_append, List.length_cons, List.length_nil, List.length_replicate]; omega) | skip)
      | (refine WLA.nil ?_)
      | (refine WPA.region ?_)
      | (refine WPA.seq ?_)
      | (refine QQ.seq_normal ?_)
      | (refine WPA.skip ?_)
      | (refine WPA.block ?_)
      | (refine WPA.ret ?_)
      | (refine WPA.exit ?_)
      | (refine QQ.seq_ret ?_)
      | (refine QQ.seq_exit ?_)
      | (refine QQ.block_normal ?_)
      | (refine QQ.block_ret ?_)
      | (refine QQ.block_hit ?_)
      | (refine QQ.block_miss rfl ?_)
      | (refine QQ.loop_ret ?_)
      | (refine QQ.loop_exit ?_)
      | (guard_target =~ WLA _ _ _ _ _ (⟨_, .call ⟨.value (.func 124), _, _⟩, _, _, _, _⟩ :: _) _ _; first | (refine WLA.call rfl rfl (ahead_tr (i : Int) (((i : Int) - 1) / 2) (by omega) (by omega) hgl) ?_; rintro ⟨⟩; rw [hpar]; refine WLA.opn fun s => ?_) | (refine WLA.call0 rfl (ahead_tr (i : Int) (((i : Int) - 1) / 2) (by omega) (by omega) hgl) ?_; rintro ⟨⟩; rw [hpar]; refine WLA.opn fun s => ?_))
      | (refine WLA.st rfl ?_ ?_; first | exact trivial | exact rfl | assumption | omega | (refine ⟨?_, ?_⟩ <;> omega) | (simp only [Room, List.length_set, List.length_append, List.length_cons, List.length_nil, List.length_replicate]; omega) | skip)
      | (refine WLA.x rfl rfl ?_ (fun x => ?_); first | exact trivial | exact rfl | assumption | omega | (refine ⟨?_, ?_⟩ <;> omega) | (simp only [Room, List.length_set, List.length_append, List.length_cons, List.length_nil, List.length_replicate]; omega) | skip)
      | (refine WLA.x0 rfl ?_ (fun x => ?_); first | exact trivial | exact rfl | assumption | omega | (refine ⟨?_, ?_⟩ <;> omega) | (simp only [Room, List.length_set, List.length_append, List.length_cons, List.length_nil, List.length_replicate]; omega) | skip)
      | (guard_target =~ WPA _ _ _ (.cond _ _ _) _ _ _; first | (refine WPA.ifT ?_) | (refine WPA.ifF ?_) | (refine WPA.ifYes ?_ ?_; (first | assumption | omega | (refine fun h => h ?_; assumption) | (simp only [List.length_append, List.length_cons, List.length_nil, List.length_set] <;> omega))) | (refine WPA.ifNo ?_ ?_; (first | assumption | omega | (refine fun h => h ?_; assumption) | (simp only [List.length_append, List.length_cons, List.length_nil, List.length_set] <;> omega))) | (refine WPA.ifBt ?_ ?_; assumption) | (refine WPA.ifBf ?_ ?_; assumption) | (refine WPA.ifBnt ?_ ?_; assumption) | (refine WPA.ifBnf ?_ ?_; assumption) | (refine WPA.ifs ?_ ?_ <;> intro hc) | (refine WPA.ifB ?_ ?_ <;> intro hc))
      | (guard_target =~ WPA _ _ _ (.region 3 _ true) _ _ _; refine WPA.drawT 26 (.p 0 (.p 1 (.p 2 (.q 3 (.p 4 (.p 5 (.p 6 (.p 7 (.q 8 (.p 9 (.p 10 (.p 11 (.p 12 (.q 13 (.p 14 (.q 15 (.q 16 (.p 17 (.p 18 (.p 19 (.q 20 (.p 21 (.q 22 (.q 23 (.q 24 (.w 25 .fin)))))))))))))))))))))))))) mixed ?_ ?_; kernel_rfl)
      | (refine WDA.finish (tl := [⟨_, _, _, _, _, _⟩, ⟨_, _, _, _, _, _⟩]) rfl ?_)
      | (refine WDQ.see rfl ?_)
      | (refine WDQ.m rfl rfl ?_ ?_; first | exact trivial | exact rfl | assumption | omega | (refine ⟨?_, ?_⟩ <;> omega) | (simp only [Room, List.length_set, List.length_append, List.length_cons, List.length_nil, List.length_replicate]; omega) | skip)
      | (refine WDP.see rfl ?_)
      | (refine WDP.m rfl rfl ?_ ?_; first | exact trivial | exact rfl | assumption | omega | (refine ⟨?_, ?_⟩ <;> omega) | (simp only [Room, List.length_set, List.length_append, List.length_cons, List.length_nil, List.length_replicate]; omega) | skip)
      | (refine WDP.no rfl rfl ?_)
      | (refine WDW.see rfl ?_)
      | (refine WDW.x rfl rfl ?_ (fun x => ?_); first | exact trivial | exact rfl | assumption | omega | (refine ⟨?_, ?_⟩ <;> omega) | (simp only [Room, List.length_set, List.length_append, List.length_cons, List.length_nil, List.length_replicate]; omega) | skip)
      | (refine WDW.st rfl ?_ ?_; first | exact trivial | exact rfl | assumption | omega | (refine ⟨?_, ?_⟩ <;> omega) | (simp only [Room, List.length_set, List.length_append, List.length_cons, List.length_nil, List.length_replicate]; omega) | skip)
      | (guard_target =~ WDE _ _ _ _ _ _ _ ⟨_, .call ⟨.value (.func 124), _, _⟩, _, _, _, _⟩ _ _ _; refine WDE.call rfl rfl (ahead_tr (i : Int) (((i : Int) - 1) / 2) (by omega) (by omega) hgl) ?_ ?_; (intro x w h; first | exact h | exact Ent.drop1.sl h); rintro ⟨⟩; rw [hpar]; refine WLA.opn fun s => ?_)
      | (guard_target =~ WDW _ _ _ _ _ _ _ ⟨_, .call ⟨.value (.func 124), _, _⟩, _, _, _, _⟩ _ _ _; refine WDW.call rfl rfl (ahead_tr (i : Int) (((i : Int) - 1) / 2) (by omega) (by omega) hgl) ?_; rintro ⟨⟩; rw [hpar]; refine WLA.opn fun s => ?_))
    · exact QQ.end_ rfl ⟨l, hp, up_done hu (.inr hc)⟩ rfl fun w h => h.to
    · rw [sw_walk _ _ _ hne]
      refine QQ.loopS (par i, swL l i (par i)) ⟨rfl, rfl, trivial⟩ ⟨by rw [swL_len]; dsimp only; omega, (sw_perm hi (by omega)).trans hp, ?_⟩ hpi (fun w h => h.to)
      rw [swL_len, atE_sw hi (by omega)]; exact up_step hu (by omega) hi (Classical.not_not.1 hc)

/-- The child of i, from k on, that is not above the others; or i itself. -/
theorem down_tr {ky : Cu → List Int} {p : Nat} {c : Int} {es : List E} {L L' : List HP} {w0 : World} {I : Foot} [h : FindK L PileR p (es, c) L'] (hn : es.length ≤ 1000000) (hg : ∀ e ∈ es, CurAt I e.1 (ky e.1)) (hu : DownF ky (atE es) es.length 0) :
    Tr Try.prog 126 #[.pointer (some ⟨p, 0, none⟩), .int .i64 0] (SL w0 I L) (fun _ : { l : List E // l.Perm es ∧ HeapL ky l } => .tuple #[]) (fun y => SL w0 I (PileR p (y.1, c) :: L')) := by
  refine Tr.at h.out ?_
  refine Tr.intro Try.func126 rfl Try.ntmps126 rfl ?_
  refine WPA.block ?_
  refine WPA.loopS (σ := Nat × List E) (fun y => [(0, .pointer (some ⟨p, 0, none⟩)), (1, .int .i64 y.1)]) (fun y => (y.1 < y.2.length ∨ y.1 = 0) ∧ y.2.Perm es ∧ DownF ky (atE y.2) y.2.length y.1)
    (fun y => SL w0 I (PileR p (y.2, c) :: L')) (fun y => es.length - y.1) (0, es) ⟨rfl, rfl, trivial⟩ ⟨.inr rfl, List.Perm.refl _, hu⟩ (fun _ h => h) ?_
  rintro ⟨i, l⟩ ρ ⟨hi, hp, hu⟩
  dsimp only at hi hp hu ⊢
  have hl : l.length = es.length := hp.length_eq
  have hgl : ∀ e ∈ l, CurAt I e.1 (ky e.1) := fun e he => hg e (hp.subset he)
  repeat' (first
    | (refine WLA.m rfl rfl ?_ ?_; first | exact trivial | exact rfl | assumption | omega | (refine ⟨?_, ?_⟩ <;> omega) | (simp only [Room, List.length_set, List.length_append, List.length_cons, List.length_nil, List.length_replicate]; omega) | skip)
    | (refine WLA.nil ?_)
    | (refine WPA.region ?_)
    | (refine WPA.seq ?_)
    | (refine QQ.seq_normal ?_)
    | (refine WPA.skip ?_)
    | (refine WPA.block ?_)
    | (refine WPA.ret ?_)
    | (refine WPA.exit ?_)
    | (refine QQ.seq_ret ?_)
    | (refine QQ.seq_exit ?_)
    | (refine QQ.block_normal ?_)
    | (refine QQ.block_ret ?_)
    | (refine QQ.block_hit ?_)
    | (refine QQ.block_miss rfl ?_)
    | (refine QQ.loop_ret ?_)
    | (refine QQ.loop_exit ?_)
    | (refine WLA.st rfl ?_ ?_; first | exact trivial | exact rfl | assumption | omega | (refine ⟨?_, ?_⟩ <;> omega) | (simp only [Room, List.length_set, List.length_append, List.length_cons, List.length_nil, List.length_replicate]; omega) | skip)
    | (refine WLA.x rfl rfl ?_ (fun x => ?_); first | exact trivial | exact rfl | assumption | omega | (refine ⟨?_, ?_⟩ <;> omega) | (simp only [Room, List.length_set, List.length_append, List.length_cons, List.length_nil, List.length_replicate]; omega) | skip)
    | (refine WLA.x0 rfl ?_ (fun x => ?_); first | exact trivial | exact rfl | assumption | omega | (refine ⟨?_, ?_⟩ <;> omega) | (simp only [Room, List.length_set, List.length_append, List.length_cons, List.length_nil, List.length_replicate]; omega) | skip)
    | (guard_target =~ WPA _ _ _ (.cond _ _ _) _ _ _; first | (refine WPA.ifT ?_) | (refine WPA.ifF ?_) | (refine WPA.ifYes ?_ ?_; (first | assumption | omega | (refine fun h => h ?_; assumption) | (simp only [List.length_append, List.length_cons, List.length_nil, List.length_set] <;> omega))) | (refine WPA.ifNo ?_ ?_; (first | assumption | omega | (refine fun h => h ?_; assumption) | (simp only [List.length_append, List.length_cons, List.length_nil, List.length_set] <;> omega))) | (refine WPA.ifBt ?_ ?_; assumption) | (refine WPA.ifBf ?_ ?_; assumption) | (refine WPA.ifBnt ?_ ?_; assumption) | (refine WPA.ifBnf ?_ ?_; assumption) | (refine WPA.ifs ?_ ?_ <;> intro hc) | (refine WPA.ifB ?_ ?_ <;> intro hc))
    | (guard_target =~ WLA _ _ _ _ _ (⟨_, _, _, _, _, some _⟩ :: _) _ _; first | (refine WLA.no rfl rfl ?_) | (refine WLA.yes rfl rfl ?_ ?_; (first | assumption | omega | (refine fun h => h ?_; assumption) | (simp only [List.length_append, List.length_cons, List.length_nil, List.length_set] <;> omega))) | (refine WLA.nay rfl rfl ?_ ?_; (first | assumption | omega | (refine fun h => h ?_; assumption) | (simp only [List.length_append, List.length_cons, List.length_nil, List.length_set] <;> omega))) | (refine WLA.both rfl rfl ?_ ?_ <;> intro hg) | (refine WLA.bothB rfl rfl ?_ ?_ <;> intro hg))
    | (guard_target =~ WPA _ _ _ (.region 7 _ true) _ _ _; refine WPA.drawT 26 (.p 0 (.p 1 (.p 2 (.q 3 (.p 4 (.p 5 (.p 6 (.p 7 (.q 8 (.p 9 (.p 10 (.p 11 (.p 12 (.q 13 (.p 14 (.q 15 (.q 16 (.p 17 (.p 18 (.p 19 (.q 20 (.p 21 (.q 22 (.q 23 (.q 24 (.w 25 .fin)))))))))))))))))))))))))) mixed ?_ ?_; kernel_rfl)
    | (refine WDA.finish (tl := [⟨_, _, _, _, _, _⟩, ⟨_, _, _, _, _, _⟩]) rfl ?_)
    | (refine WDQ.see rfl ?_)
    | (refine WDQ.m rfl rfl ?_ ?_; first | exact trivial | exact rfl | assumption | omega | (refine ⟨?_, ?_⟩ <;> omega) | (simp only [Room, List.length_set, List.length_append, List.length_cons, List.length_nil, List.length_replicate]; omega) | skip)
    | (refine WDP.see rfl ?_)
    | (refine WDP.m rfl rfl ?_ ?_; first | exact trivial | exact rfl | assumption | omega | (refine ⟨?_, ?_⟩ <;> omega) | (simp only [Room, List.length_set, List.length_append, List.length_cons, List.length_nil, List.length_replicate]; omega) | skip)
    | (refine WDP.no rfl rfl ?_)
    | (refine WDW.see rfl ?_)
    | (refine WDW.x rfl rfl ?_ (fun x => ?_); first | exact trivial | exact rfl | assumption | omega | (refine ⟨?_, ?_⟩ <;> omega) | (simp only [Room, List.length_set, List.length_append, List.length_cons, List.length_nil, List.length_replicate]; omega) | skip)
    | (refine WDW.st rfl ?_ ?_; first | exact trivial | exact rfl | assumption | omega | (refine ⟨?_, ?_⟩ <;> omega) | (simp only [Room, List.length_set, List.length_append, List.length_cons, List.length_nil, List.length_replicate]; omega) | skip))
  -- the children, one behind the other: the least so far
  refine WPA.loopS (σ := Nat × Nat) (fun y => [(0, .pointer (some ⟨p, 0, none⟩)), (1, .int .i64 i), (4, .int .i64 y.2), (5, .int .i64 y.1)])
    (fun y => 2 * i + 1 ≤ y.1 ∧ y.1 ≤ 2 * i + 3 ∧ (y.2 = i ∨ (y.2 < y.1 ∧ y.2 < l.length ∧ 0 < y.2 ∧ par y.2 = i ∧ ltE ky (atE l y.2) (atE l i))) ∧ ∀ k, 2 * i + 1 ≤ k → k < y.1 → k < l.length → ¬ ltE ky (atE l k) (atE l y.2))
    (fun y => SL w0 I (PileR p (l, c) :: L')) (fun y => 2 * i + 3 - y.1) (2 * i + 1, i) ⟨rfl, rfl, rfl, congrArg (Value.int .i64) (by omega : (2 * (i : Int) + 1) = ((2 * i + 1 : Nat) : Int)), trivial⟩ ⟨by simp, by simp, .inl rfl, fun k h1 h2 => by dsimp only at h2; omega⟩ (fun _ h => h) ?_
  rintro ⟨k, m⟩ ρ ⟨hk1, hk2, hm, hmin⟩
  dsimp only at hk1 hk2 hm hmin ⊢
  refine WPA.opn fun s => ?_
  by_cases hr : k ≤ 2 * i + 2 ∧ k < l.length
  · obtain ⟨hr1, hr2⟩ := hr
    have hm2 : m < l.length := by omega
    have hpk : par k = i := by unfold par; omega
    repeat' (first
      | (refine WLA.m rfl rfl ?_ ?_; first | exact trivial | exact rfl | assumption | omega | (refine ⟨?_, ?_⟩ <;> omega) | (simp only [Room, List.length_set, List.length_append, List.length_cons, List.length_nil, List.length_replicate]; omega) | skip)
      | (refine WLA.nil ?_)
      | (refine WPA.region ?_)
      | (refine WPA.seq ?_)
      | (refine QQ.seq_normal ?_)
      | (refine WPA.skip ?_)
      | (refine WPA.block ?_)
      | (refine WPA.ret ?_)
      | (refine WPA.exit ?_)
      | (refine QQ.seq_ret ?_)
      | (refine QQ.seq_exit ?_)
      | (refine QQ.block_normal ?_)
      | (refine QQ.block_ret ?_)
      | (refine QQ.block_hit ?_)
      | (refine QQ.block_miss rfl ?_)
      | (refine QQ.loop_ret ?_)
      | (refine QQ.loop_exit ?_)
      | (guard_target =~ WLA _ _ _ _ _ (⟨_, .call ⟨.value (.func 124), _, _⟩, _, _, _, _⟩ :: _) _ _; first | (refine WLA.call rfl rfl (ahead_tr (k : Int) (m : Int) (by omega) (by omega) hgl) ?_; rintro ⟨⟩) | (refine WLA.call0 rfl (ahead_tr (k : Int) (m : Int) (by omega) (by omega) hgl) ?_; rintro ⟨⟩))
      | (refine WLA.st rfl ?_ ?_; first | exact trivial | exact rfl | assumption | omega | (refine ⟨?_, ?_⟩ <;> omega) | (simp only [Room, List.length_set, List.length_append, List.length_cons, List.length_nil, List.length_replicate]; omega) | skip)
      | (refine WLA.x rfl rfl ?_ (fun x => ?_); first | exact trivial | exact rfl | assumption | omega | (refine ⟨?_, ?_⟩ <;> omega) | (simp only [Room, List.length_set, List.length_append, List.length_cons, List.length_nil, List.length_replicate]; omega) | skip)
      | (refine WLA.x0 rfl ?_ (fun x => ?_); first | exact trivial | exact rfl | assumption | omega | (refine ⟨?_, ?_⟩ <;> omega) | (simp only [Room, List.length_set, List.length_append, List.length_cons, List.length_nil, List.length_replicate]; omega) | skip)
      | (guard_target =~ WPA _ _ _ (.cond _ _ _) _ _ _; first | (refine WPA.ifT ?_) | (refine WPA.ifF ?_) | (refine WPA.ifYes ?_ ?_; (first | assumption | omega | (refine fun h => h ?_; assumption) | (simp only [List.length_append, List.length_cons, List.length_nil, List.length_set] <;> omega))) | (refine WPA.ifNo ?_ ?_; (first | assumption | omega | (refine fun h => h ?_; assumption) | (simp only [List.length_append, List.length_cons, List.length_nil, List.length_set] <;> omega))) | (refine WPA.ifBt ?_ ?_; assumption) | (refine WPA.ifBf ?_ ?_; assumption) | (refine WPA.ifBnt ?_ ?_; assumption) | (refine WPA.ifBnf ?_ ?_; assumption) | (refine WPA.ifs ?_ ?_ <;> intro hc) | (refine WPA.ifB ?_ ?_ <;> intro hc))
      | (guard_target =~ WLA _ _ _ _ _ (⟨_, _, _, _, _, some _⟩ :: _) _ _; first | (refine WLA.no rfl rfl ?_) | (refine WLA.yes rfl rfl ?_ ?_; (first | assumption | omega | (refine fun h => h ?_; assumption) | (simp only [List.length_append, List.length_cons, List.length_nil, List.length_set] <;> omega))) | (refine WLA.nay rfl rfl ?_ ?_; (first | assumption | omega | (refine fun h => h ?_; assumption) | (simp only [List.length_append, List.length_cons, List.length_nil, List.length_set] <;> omega))) | (refine WLA.both rfl rfl ?_ ?_ <;> intro hg) | (refine WLA.bothB rfl rfl ?_ ?_ <;> intro hg))
      | (guard_target =~ WPA _ _ _ (.region 7 _ true) _ _ _; refine WPA.drawT 26 (.p 0 (.p 1 (.p 2 (.q 3 (.p 4 (.p 5 (.p 6 (.p 7 (.q 8 (.p 9 (.p 10 (.p 11 (.p 12 (.q 13 (.p 14 (.q 15 (.q 16 (.p 17 (.p 18 (.p 19 (.q 20 (.p 21 (.q 22 (.q 23 (.q 24 (.w 25 .fin)))))))))))))))))))))))))) mixed ?_ ?_; kernel_rfl)
      | (refine WDA.finish (tl := [⟨_, _, _, _, _, _⟩, ⟨_, _, _, _, _, _⟩]) rfl ?_)
      | (refine WDQ.see rfl ?_)
      | (refine WDQ.m rfl rfl ?_ ?_; first | exact trivial | exact rfl | assumption | omega | (refine ⟨?_, ?_⟩ <;> omega) | (simp only [Room, List.length_set, List.length_append, List.length_cons, List.length_nil, List.length_replicate]; omega) | skip)
      | (refine WDP.see rfl ?_)
      | (refine WDP.m rfl rfl ?_ ?_; first | exact trivial | exact rfl | assumption | omega | (refine ⟨?_, ?_⟩ <;> omega) | (simp only [Room, List.length_set, List.length_append, List.length_cons, List.length_nil, List.length_replicate]; omega) | skip)
      | (refine WDP.no rfl rfl ?_)
      | (refine WDW.see rfl ?_)
      | (refine WDW.x rfl rfl ?_ (fun x => ?_); first | exact trivial | exact rfl | assumption | omega | (refine ⟨?_, ?_⟩ <;> omega) | (simp only [Room, List.length_set, List.length_append, List.length_cons, List.length_nil, List.length_replicate]; omega) | skip)
      | (refine WDW.st rfl ?_ ?_; first | exact trivial | exact rfl | assumption | omega | (refine ⟨?_, ?_⟩ <;> omega) | (simp only [Room, List.length_set, List.length_append, List.length_cons, List.length_nil, List.length_replicate]; omega) | skip)
      | (guard_target =~ WDE _ _ _ _ _ _ _ ⟨_, .call ⟨.value (.func 124), _, _⟩, _, _, _, _⟩ _ _ _; refine WDE.call rfl rfl (ahead_tr (k : Int) (m : Int) (by omega) (by omega) hgl) ?_ ?_; (intro x w h; first | exact h | exact Ent.drop1.sl h); rintro ⟨⟩)
      | (guard_target =~ WDW _ _ _ _ _ _ _ ⟨_, .call ⟨.value (.func 124), _, _⟩, _, _, _, _⟩ _ _ _; refine WDW.call rfl rfl (ahead_tr (k : Int) (m : Int) (by omega) (by omega) hgl) ?_; rintro ⟨⟩))
    · refine QQ.loopS (k + 1, k) ⟨rfl, rfl, rfl, rfl, trivial⟩ ⟨by dsimp only; omega, by dsimp only; omega, .inr ⟨by dsimp only; omega, hr2, by dsimp only; omega, hpk, ?_⟩, fun q h1 h2 h3 => ?_⟩ (by dsimp only; omega) (fun w h => h)
      · rcases hm with rfl | ⟨_, _, _, _, h5⟩
        · exact hc
        · exact ltE_tt hc h5
      · rcases Nat.lt_or_ge q k with h4 | h4
        · have h5 := hmin q h1 h4 h3; exact leE_tr (ltE_as hc) h5
        · have : q = k := by dsimp only at h2; omega
          subst this; exact ltE_irr _
    · refine QQ.loopS (k + 1, m) ⟨rfl, rfl, rfl, rfl, trivial⟩ ⟨by dsimp only; omega, by dsimp only; omega, hm.imp id (fun h => ⟨by dsimp only; omega, h.2⟩), fun q h1 h2 h3 => ?_⟩ (by dsimp only; omega) (fun w h => h)
      rcases Nat.lt_or_ge q k with h4 | h4
      · exact hmin q h1 h4 h3
      · have : q = k := by dsimp only at h2; omega
        subst this; exact hc
  · have hall : ∀ q, 2 * i + 1 ≤ q → q < l.length → par q = i → ¬ ltE ky (atE l q) (atE l m) := fun q h1 h2 h3 => hmin q h1 (by unfold par at h3; omega) h2
    have hch : ∀ q, 0 < q → q < l.length → par q = i → ¬ ltE ky (atE l q) (atE l m) := fun q h0 h1 h2 => hall q (by unfold par at h2; omega) h1 h2
    by_cases hmi : m = i
    · subst hmi
      repeat' (first
        | (refine WLA.m rfl rfl ?_ ?_; first | exact trivial | exact rfl | assumption | omega | (refine ⟨?_, ?_⟩ <;> omega) | (simp only [Room, List.length_set, List.length_append, List.length_cons, List.length_nil, List.length_replicate]; omega) | skip)
        | (refine WLA.nil ?_)
        | (refine WPA.region ?_)
        | (refine WPA.seq ?_)
        | (refine QQ.seq_normal ?_)
        | (refine WPA.skip ?_)
        | (refine WPA.block ?_)
        | (refine WPA.ret ?_)
        | (refine WPA.exit ?_)
        | (refine QQ.seq_ret ?_)
        | (refine QQ.seq_exit ?_)
        | (refine QQ.block_normal ?_)
        | (refine QQ.block_ret ?_)
        | (refine QQ.block_hit ?_)
        | (refine QQ.block_miss rfl ?_)
        | (refine QQ.loop_ret ?_)
        | (refine QQ.loop_exit ?_)
        | (refine WLA.st rfl ?_ ?_; first | exact trivial | exact rfl | assumption | omega | (refine ⟨?_, ?_⟩ <;> omega) | (simp only [Room, List.length_set, List.length_append, List.length_cons, List.length_nil, List.length_replicate]; omega) | skip)
        | (refine WLA.x rfl rfl ?_ (fun x => ?_); first | exact trivial | exact rfl | assumption | omega | (refine ⟨?_, ?_⟩ <;> omega) | (simp only [Room, List.length_set, List.length_append, List.length_cons, List.length_nil, List.length_replicate]; omega) | skip)
        | (refine WLA.x0 rfl ?_ (fun x => ?_); first | exact trivial | exact rfl | assumption | omega | (refine ⟨?_, ?_⟩ <;> omega) | (simp only [Room, List.length_set, List.length_append, List.length_cons, List.length_nil, List.length_replicate]; omega) | skip)
        | (guard_target =~ WPA _ _ _ (.cond _ _ _) _ _ _; first | (refine WPA.ifT ?_) | (refine WPA.ifF ?_) | (refine WPA.ifYes ?_ ?_; (first | assumption | omega | (refine fun h => h ?_; assumption) | (simp only [List.length_append, List.length_cons, List.length_nil, List.length_set] <;> omega))) | (refine WPA.ifNo ?_ ?_; (first | assumption | omega | (refine fun h => h ?_; assumption) | (simp only [List.length_append, List.length_cons, List.length_nil, List.length_set] <;> omega))) | (refine WPA.ifBt ?_ ?_; assumption) | (refine WPA.ifBf ?_ ?_; assumption) | (refine WPA.ifBnt ?_ ?_; assumption) | (refine WPA.ifBnf ?_ ?_; assumption) | (refine WPA.ifs ?_ ?_ <;> intro hc) | (refine WPA.ifB ?_ ?_ <;> intro hc))
        | (guard_target =~ WLA _ _ _ _ _ (⟨_, _, _, _, _, some _⟩ :: _) _ _; first | (refine WLA.no rfl rfl ?_) | (refine WLA.yes rfl rfl ?_ ?_; (first | assumption | omega | (refine fun h => h ?_; assumption) | (simp only [List.length_append, List.length_cons, List.length_nil, List.length_set] <;> omega))) | (refine WLA.nay rfl rfl ?_ ?_; (first | assumption | omega | (refine fun h => h ?_; assumption) | (simp only [List.length_append, List.length_cons, List.length_nil, List.length_set] <;> omega))) | (refine WLA.both rfl rfl ?_ ?_ <;> intro hg) | (refine WLA.bothB rfl rfl ?_ ?_ <;> intro hg))
        | (guard_target =~ WPA _ _ _ (.region 7 _ true) _ _ _; refine WPA.drawT 26 (.p 0 (.p 1 (.p 2 (.q 3 (.p 4 (.p 5 (.p 6 (.p 7 (.q 8 (.p 9 (.p 10 (.p 11 (.p 12 (.q 13 (.p 14 (.q 15 (.q 16 (.p 17 (.p 18 (.p 19 (.q 20 (.p 21 (.q 22 (.q 23 (.q 24 (.w 25 .fin)))))))))))))))))))))))))) mixed ?_ ?_; kernel_rfl)
        | (refine WDA.finish (tl := [⟨_, _, _, _, _, _⟩, ⟨_, _, _, _, _, _⟩]) rfl ?_)
        | (refine WDQ.see rfl ?_)
        | (refine WDQ.m rfl rfl ?_ ?_; first | exact trivial | exact rfl | assumption | omega | (refine ⟨?_, ?_⟩ <;> omega) | (simp only [Room, List.length_set, List.length_append, List.length_cons, List.length_nil, List.length_replicate]; omega) | skip)
        | (refine WDP.see rfl ?_)
        | (refine WDP.m rfl rfl ?_ ?_; first | exact trivial | exact rfl | assumption | omega | (refine ⟨?_, ?_⟩ <;> omega) | (simp only [Room, List.length_set, List.length_append, List.length_cons, List.length_nil, List.length_replicate]; omega) | skip)
        | (refine WDP.no rfl rfl ?_)
        | (refine WDW.see rfl ?_)
        | (refine WDW.x rfl rfl ?_ (fun x => ?_); first | exact trivial | exact rfl | assumption | omega | (refine ⟨?_, ?_⟩ <;> omega) | (simp only [Room, List.length_set, List.length_append, List.length_cons, List.length_nil, List.length_replicate]; omega) | skip)
        | (refine WDW.st rfl ?_ ?_; first | exact trivial | exact rfl | assumption | omega | (refine ⟨?_, ?_⟩ <;> omega) | (simp only [Room, List.length_set, List.length_append, List.length_cons, List.length_nil, List.length_replicate]; omega) | skip))
      all_goals exact QQ.end_ rfl ⟨l, hp, down_done hu hch⟩ rfl fun w h => h.to
    · obtain ⟨hm1, hm2, hm3, hm4, hm5⟩ := hm.resolve_left hmi
      have him : i < m := by unfold par at hm4; omega
      have hmi2 : ¬ (m : Int) = i := by omega
      have him2 : i ≠ m := by omega
      repeat' (first
        | (refine WLA.m rfl rfl ?_ ?_; first | exact trivial | exact rfl | assumption | omega | (refine ⟨?_, ?_⟩ <;> omega) | (simp only [Room, List.length_set, List.length_append, List.length_cons, List.length_nil, List.length_replicate]; omega) | skip)
        | (refine WLA.nil ?_)
        | (refine WPA.region ?_)
        | (refine WPA.seq ?_)
        | (refine QQ.seq_normal ?_)
        | (refine WPA.skip ?_)
        | (refine WPA.block ?_)
        | (refine WPA.ret ?_)
        | (refine WPA.exit ?_)
        | (refine QQ.seq_ret ?_)
        | (refine QQ.seq_exit ?_)
        | (refine QQ.block_normal ?_)
        | (refine QQ.block_ret ?_)
        | (refine QQ.block_hit ?_)
        | (refine QQ.block_miss rfl ?_)
        | (refine QQ.loop_ret ?_)
        | (refine QQ.loop_exit ?_)
        | (refine WLA.st rfl ?_ ?_; first | exact trivial | exact rfl | assumption | omega | (refine ⟨?_, ?_⟩ <;> omega) | (simp only [Room, List.length_set, List.length_append, List.length_cons, List.length_nil, List.length_replicate]; omega) | skip)
        | (refine WLA.x rfl rfl ?_ (fun x => ?_); first | exact trivial | exact rfl | assumption | omega | (refine ⟨?_, ?_⟩ <;> omega) | (simp only [Room, List.length_set, List.length_append, List.length_cons, List.length_nil, List.length_replicate]; omega) | skip)
        | (refine WLA.x0 rfl ?_ (fun x => ?_); first | exact trivial | exact rfl | assumption | omega | (refine ⟨?_, ?_⟩ <;> omega) | (simp only [Room, List.length_set, List.length_append, List.length_cons, List.length_nil, List.length_replicate]; omega) | skip)
        | (guard_target =~ WPA _ _ _ (.cond _ _ _) _ _ _; first | (refine WPA.ifT ?_) | (refine WPA.ifF ?_) | (refine WPA.ifYes ?_ ?_; (first | assumption | omega | (refine fun h => h ?_; assumption) | (simp only [List.length_append, List.length_cons, List.length_nil, List.length_set] <;> omega))) | (refine WPA.ifNo ?_ ?_; (first | assumption | omega | (refine fun h => h ?_; assumption) | (simp only [List.length_append, List.length_cons, List.length_nil, List.length_set] <;> omega))) | (refine WPA.ifBt ?_ ?_; assumption) | (refine WPA.ifBf ?_ ?_; assumption) | (refine WPA.ifBnt ?_ ?_; assumption) | (refine WPA.ifBnf ?_ ?_; assumption) | (refine WPA.ifs ?_ ?_ <;> intro hc) | (refine WPA.ifB ?_ ?_ <;> intro hc))
        | (guard_target =~ WLA _ _ _ _ _ (⟨_, _, _, _, _, some _⟩ :: _) _ _; first | (refine WLA.no rfl rfl ?_) | (refine WLA.yes rfl rfl ?_ ?_; (first | assumption | omega | (refine fun h => h ?_; assumption) | (simp only [List.length_append, List.length_cons, List.length_nil, List.length_set] <;> omega))) | (refine WLA.nay rfl rfl ?_ ?_; (first | assumption | omega | (refine fun h => h ?_; assumption) | (simp only [List.length_append, List.length_cons, List.length_nil, List.length_set] <;> omega))) | (refine WLA.both rfl rfl ?_ ?_ <;> intro hg) | (refine WLA.bothB rfl rfl ?_ ?_ <;> intro hg))
        | (guard_target =~ WPA _ _ _ (.region 7 _ true) _ _ _; refine WPA.drawT 26 (.p 0 (.p 1 (.p 2 (.q 3 (.p 4 (.p 5 (.p 6 (.p 7 (.q 8 (.p 9 (.p 10 (.p 11 (.p 12 (.q 13 (.p 14 (.q 15 (.q 16 (.p 17 (.p 18 (.p 19 (.q 20 (.p 21 (.q 22 (.q 23 (.q 24 (.w 25 .fin)))))))))))))))))))))))))) mixed ?_ ?_; kernel_rfl)
        | (refine WDA.finish (tl := [⟨_, _, _, _, _, _⟩, ⟨_, _, _, _, _, _⟩]) rfl ?_)
        | (refine WDQ.see rfl ?_)
        | (refine WDQ.m rfl rfl ?_ ?_; first | exact trivial | exact rfl | assumption | omega | (refine ⟨?_, ?_⟩ <;> omega) | (simp only [Room, List.length_set, List.length_append, List.length_cons, List.length_nil, List.length_replicate]; omega) | skip)
        | (refine WDP.see rfl ?_)
        | (refine WDP.m rfl rfl ?_ ?_; first | exact trivial | exact rfl | assumption | omega | (refine ⟨?_, ?_⟩ <;> omega) | (simp only [Room, List.length_set, List.length_append, List.length_cons, List.length_nil, List.length_replicate]; omega) | skip)
        | (refine WDP.no rfl rfl ?_)
        | (refine WDW.see rfl ?_)
        | (refine WDW.x rfl rfl ?_ (fun x => ?_); first | exact trivial | exact rfl | assumption | omega | (refine ⟨?_, ?_⟩ <;> omega) | (simp only [Room, List.length_set, List.length_append, List.length_cons, List.length_nil, List.length_replicate]; omega) | skip)
        | (refine WDW.st rfl ?_ ?_; first | exact trivial | exact rfl | assumption | omega | (refine ⟨?_, ?_⟩ <;> omega) | (simp only [Room, List.length_set, List.length_append, List.length_cons, List.length_nil, List.length_replicate]; omega) | skip))
      all_goals
        rw [sw_walk _ _ _ him2]
        refine QQ.loopS (m, swL l i m) ⟨rfl, rfl, trivial⟩ ⟨.inl (by rw [swL_len]; exact hm2), (sw_perm (by omega) hm2).trans hp, ?_⟩ (by dsimp only; omega) (fun w h => h.to)
        rw [swL_len, atE_sw (by omega) hm2]
        exact down_step hu hm2 hm3 hm4 hm5 hch
end Go.Proofs.Ytfhelnalegochaa
