/- Push, Pop and Top. Conditions: none. -/
import Derived.Test.YtckackfgkidedaaPiA
namespace Go.Proofs.Ytckackfgkidedaa
open Go Go.Fw Go.RowKit
set_option linter.unusedVariables false
set_option linter.unusedSimpArgs false
set_option maxRecDepth 100000
set_option maxHeartbeats 16000000
set_option synthInstance.maxHeartbeats 200000
set_option synthInstance.maxSize 100000
attribute [local irreducible] WPA WLA WDA WDQ WDE QQ seqQ blockQ loopQ fnQ OpP OpT Tr TrP SL SLd OwnS LitS Bk BkE Ob

/-- A pile to which all of l came, c things in all. -/
def PileA (p : Nat) (x : List It × Nat) : HP := exH fun es : List E => pureH (Abs es x.2 x.1) (PileR p (es, (x.2 : Int)))
instance {p c : Nat} {l : List It} : Opn (PileA p (l, c)) { es : List E // Abs es c l } (fun es L => PileR p (es.1, (c : Int)) :: L) := ⟨fun w0 I L w h => by
  obtain ⟨es, h⟩ := h.exH; exact ⟨⟨es, h.pureH.1⟩, h.pureH.2⟩⟩
theorem PileA.fold {p c : Nat} {z : Int} {l : List It} {es : List E} {L : List HP} (h : Abs es c l) (hz : z = c) : Ent (PileR p (es, z) :: L) (PileA p (l, c) :: L) := by
  subst hz; exact Ent.ex es (Ent.pure h Ent.refl)

theorem New_trA (w0 : World) (I : Foot) (L : List HP) : Tr Try.prog 28 #[] (SL w0 I L) (fun p : Nat => .pointer (some ⟨p, 0, none⟩)) (fun p => SL w0 I (PileA p ([], 0) :: L)) :=
  (New_tr w0 I L).conv (fun _ h => h) fun p w h => ⟨p, rfl, (PileA.fold Abs.nil rfl).sl h⟩
theorem Push_tr {p c : Nat} {l : List It} {a b : Int} {L L' : List HP} {w0 : World} {I : Foot} [h : FindK L PileA p (l, c) L'] (hc : c ≤ 100000) (hn : l.length ≤ 100000) :
    Tr Try.prog 30 #[.pointer (some ⟨p, 0, none⟩), .agg #[.int .i64 a, .int .i64 b]] (SL w0 I L) (fun _ : Unit => .tuple #[]) (fun _ => SL w0 I (PileA p (l ++ [(a, b)], c + 1) :: L')) := by
  refine Tr.at h.out (Tr.opn ?_)
  rintro ⟨es, hab⟩
  dsimp only
  have hl := hab.len
  refine Tr.opn fun s => ?_
  refine Tr.intro Try.func30 rfl Try.ntmps30 rfl ?_
  have hu := hab.up (a, b)
  repeat' (first
    | (refine WLA.m rfl rfl ?_ ?_; first | exact trivial | exact rfl | assumption | omega | (refine ⟨?_, ?_⟩ <;> omega) | (simp only [Room, List.length_set, List.length_append, List.length_cons, List.length_nil, List.length_replicate]; omega) | skip)
    | (refine WLA.nil ?_)
    | (refine WPA.region ?_)
    | (refine WPA.seq ?_)
    | (refine QQ.seq_normal ?_)
    | (refine WPA.skip ?_)
    | (refine WPA.block ?_)
    | (refine WPA.ret ?_)
    | (refine WPA.exit ?_)
    | (refine QQ.seq_ret ?_)
    | (refine QQ.seq_exit ?_)
    | (refine QQ.block_normal ?_)
    | (refine QQ.block_ret ?_)
    | (refine QQ.block_hit ?_)
    | (refine QQ.block_miss rfl ?_)
    | (refine QQ.loop_ret ?_)
    | (refine QQ.loop_exit ?_)
    | (guard_target =~ WLA _ _ _ _ _ (⟨_, .call ⟨.value (.func 68), _, _⟩, _, _, _, _⟩ :: _) _ _; first | (refine WLA.call rfl rfl (up_tr es.length (by simp only [List.length_append, List.length_singleton]; omega) (by simp) (by simp; omega) (by simpa using hu)) ?_; rintro ⟨es', hp, hh⟩) | (refine WLA.call0 rfl (up_tr es.length (by simp only [List.length_append, List.length_singleton]; omega) (by simp) (by simp; omega) (by simpa using hu)) ?_; rintro ⟨es', hp, hh⟩))
    | (refine WLA.st rfl ?_ ?_; first | exact trivial | exact rfl | assumption | omega | (refine ⟨?_, ?_⟩ <;> omega) | (simp only [Room, List.length_set, List.length_append, List.length_cons, List.length_nil, List.length_replicate]; omega) | skip)
    | (refine WLA.x rfl rfl ?_ (fun x => ?_); first | exact trivial | exact rfl | assumption | omega | (refine ⟨?_, ?_⟩ <;> omega) | (simp only [Room, List.length_set, List.length_append, List.length_cons, List.length_nil, List.length_replicate]; omega) | skip)
    | (refine WLA.x0 rfl ?_ (fun x => ?_); first | exact trivial | exact rfl | assumption | omega | (refine ⟨?_, ?_⟩ <;> omega) | (simp only [Room, List.length_set, List.length_append, List.length_cons, List.length_nil, List.length_replicate]; omega) | skip)
    | (guard_target =~ WPA _ _ _ (.cond _ _ _) _ _ _; first | (refine WPA.ifT ?_) | (refine WPA.ifF ?_) | (refine WPA.ifYes ?_ ?_; (first | assumption | omega | (refine fun h => h ?_; assumption) | (simp only [List.length_append, List.length_cons, List.length_nil, List.length_set] <;> omega))) | (refine WPA.ifNo ?_ ?_; (first | assumption | omega | (refine fun h => h ?_; assumption) | (simp only [List.length_append, List.length_cons, List.length_nil, List.length_set] <;> omega))) | (refine WPA.ifs ?_ ?_ <;> intro hc) | (refine WPA.ifB ?_ ?_ <;> intro hc))
    | (guard_target =~ WPA _ _ _ (.region 2 _ true) _ _ _; refine WPA.drawT 13 (.p 0 (.p 1 (.p 2 (.p 3 (.q 4 (.q 5 (.p 6 (.p 7 (.p 8 (.q 9 (.p 10 (.e 11 (.w 12 .fin))))))))))))) mixed ?_ ?_; kernel_rfl)
    | (refine WDA.finish (tl := [⟨_, _, _, _, _, _⟩, ⟨_, _, _, _, _, _⟩, ⟨_, _, _, _, _, _⟩]) rfl ?_)
    | (refine WDQ.see rfl ?_)
    | (refine WDQ.m rfl rfl ?_ ?_; first | exact trivial | exact rfl | assumption | omega | (refine ⟨?_, ?_⟩ <;> omega) | (simp only [Room, List.length_set, List.length_append, List.length_cons, List.length_nil, List.length_replicate]; omega) | skip)
    | (refine WDP.see rfl ?_)
    | (refine WDP.m rfl rfl ?_ ?_; first | exact trivial | exact rfl | assumption | omega | (refine ⟨?_, ?_⟩ <;> omega) | (simp only [Room, List.length_set, List.length_append, List.length_cons, List.length_nil, List.length_replicate]; omega) | skip)
    | (refine WDP.no rfl rfl ?_)
    | (refine WDW.see rfl ?_)
    | (refine WDW.x rfl rfl ?_ (fun x => ?_); first | exact trivial | exact rfl | assumption | omega | (refine ⟨?_, ?_⟩ <;> omega) | (simp only [Room, List.length_set, List.length_append, List.length_cons, List.length_nil, List.length_replicate]; omega) | skip)
    | (refine WDW.st rfl ?_ ?_; first | exact trivial | exact rfl | assumption | omega | (refine ⟨?_, ?_⟩ <;> omega) | (simp only [Room, List.length_set, List.length_append, List.length_cons, List.length_nil, List.length_replicate]; omega) | skip)
    | (refine WDE.see rfl ?_)
    | (refine WDE.alloc rfl rfl (fun w h => h) (fun x => ?_))
    | (refine WDE.stE rfl ?_)
    | (refine WDE.x rfl rfl ?_ ?_ (fun x => ?_); rotate_left 1; (intro x w h; exact Ent.drop1.sl h); rotate_left 1; first | exact trivial | exact rfl | assumption | omega | (refine ⟨?_, ?_⟩ <;> omega) | (simp only [Room, List.length_set, List.length_append, List.length_cons, List.length_nil, List.length_replicate]; omega) | skip)
    | (guard_target =~ WDE _ _ _ _ _ _ _ ⟨_, .call ⟨.value (.func 68), _, _⟩, _, _, _, _⟩ _ _ _; refine WDE.call rfl rfl (up_tr es.length (by simp only [List.length_append, List.length_singleton]; omega) (by simp) (by simp; omega) (by simpa using hu)) ?_ ?_; (intro x w h; exact Ent.drop1.sl h); rintro ⟨es', hp, hh⟩)
    | (guard_target =~ WDW _ _ _ _ _ _ _ ⟨_, .call ⟨.value (.func 68), _, _⟩, _, _, _, _⟩ _ _ _; refine WDW.call rfl rfl (up_tr es.length (by simp only [List.length_append, List.length_singleton]; omega) (by simp) (by simp; omega) (by simpa using hu)) ?_; rintro ⟨es', hp, hh⟩))
  exact QQ.endn rfl () rfl fun w h => (PileA.fold (z := (c : Int) + 1) (hab.push (a, b) hp hh) (by omega)).sl h.to

/-- The top, if there is one. -/
def topV (l : List It) : It := if l = [] then (0, 0) else at_ l (topL l)
theorem Top_tr {p c : Nat} {l : List It} {L L' : List HP} {w0 : World} {I : Foot} [h : FindK L PileA p (l, c) L'] (hn : l.length ≤ 100000) :
    Tr Try.prog 33 #[.pointer (some ⟨p, 0, none⟩)] (SL w0 I L) (fun _ : Unit => .tuple #[.agg #[.int .i64 (topV l).1, .int .i64 (topV l).2], .bool (decide (l ≠ []))]) (fun _ => SL w0 I (PileA p (l, c) :: L')) := by
  refine Tr.at h.out (Tr.opn ?_)
  rintro ⟨es, hab⟩
  dsimp only
  have hl := hab.len
  refine Tr.intro Try.func33 rfl Try.ntmps33 rfl ?_
  by_cases h0 : l = []
  · have he : (es.length : Int) = 0 := by rw [hl, h0]; rfl
    repeat' (first
      | (refine WLA.m rfl rfl ?_ ?_; first | exact trivial | exact rfl | assumption | omega | (refine ⟨?_, ?_⟩ <;> omega) | (simp only [Room, List.length_set, List.length_append, List.length_cons, List.length_nil, List.length_replicate]; omega) | skip)
      | (refine WLA.nil ?_)
      | (refine WPA.region ?_)
      | (refine WPA.seq ?_)
      | (refine QQ.seq_normal ?_)
      | (refine WPA.skip ?_)
      | (refine WPA.block ?_)
      | (refine WPA.ret ?_)
      | (refine WPA.exit ?_)
      | (refine QQ.seq_ret ?_)
      | (refine QQ.seq_exit ?_)
      | (refine QQ.block_normal ?_)
      | (refine QQ.block_ret ?_)
      | (refine QQ.block_hit ?_)
      | (refine QQ.block_miss rfl ?_)
      | (refine QQ.loop_ret ?_)
      | (refine QQ.loop_exit ?_)
      | (guard_target =~ WLA _ _ _ _ _ (⟨_, .call ⟨.value (.func 34), _, _⟩, _, _, _, _⟩ :: _) _ _; refine WLA.cq rfl rfl (Len_tr) ?_)
      | (refine WLA.st rfl ?_ ?_; first | exact trivial | exact rfl | assumption | omega | (refine ⟨?_, ?_⟩ <;> omega) | (simp only [Room, List.length_set, List.length_append, List.length_cons, List.length_nil, List.length_replicate]; omega) | skip)
      | (refine WLA.x rfl rfl ?_ (fun x => ?_); first | exact trivial | exact rfl | assumption | omega | (refine ⟨?_, ?_⟩ <;> omega) | (simp only [Room, List.length_set, List.length_append, List.length_cons, List.length_nil, List.length_replicate]; omega) | skip)
      | (refine WLA.x0 rfl ?_ (fun x => ?_); first | exact trivial | exact rfl | assumption | omega | (refine ⟨?_, ?_⟩ <;> omega) | (simp only [Room, List.length_set, List.length_append, List.length_cons, List.length_nil, List.length_replicate]; omega) | skip)
      | (guard_target =~ WPA _ _ _ (.cond _ _ _) _ _ _; first | (refine WPA.ifT ?_) | (refine WPA.ifF ?_) | (refine WPA.ifYes ?_ ?_; (first | assumption | omega | (refine fun h => h ?_; assumption) | (simp only [List.length_append, List.length_cons, List.length_nil, List.length_set] <;> omega))) | (refine WPA.ifNo ?_ ?_; (first | assumption | omega | (refine fun h => h ?_; assumption) | (simp only [List.length_append, List.length_cons, List.length_nil, List.length_set] <;> omega))) | (refine WPA.ifs ?_ ?_ <;> intro hc) | (refine WPA.ifB ?_ ?_ <;> intro hc)))
    have e : topV l = (0, 0) := by simp [topV, h0]
    rw [e]
    exact QQ.endc rfl () (by simp [h0]) fun w h => (PileA.fold hab rfl).sl h.to
  · have hpos : 0 < l.length := List.length_pos_iff.2 h0
    have he : ¬ (es.length : Int) = 0 := by omega
    have ht := (hab.top (by omega)).1
    have e : topV l = (at_ es 0).1 := by rw [topV, if_neg h0, ← ht]; rfl
    refine WPA.opn fun s => ?_
    repeat' (first
      | (refine WLA.m rfl rfl ?_ ?_; first | exact trivial | exact rfl | assumption | omega | (refine ⟨?_, ?_⟩ <;> omega) | (simp only [Room, List.length_set, List.length_append, List.length_cons, List.length_nil, List.length_replicate]; omega) | skip)
      | (refine WLA.nil ?_)
      | (refine WPA.region ?_)
      | (refine WPA.seq ?_)
      | (refine QQ.seq_normal ?_)
      | (refine WPA.skip ?_)
      | (refine WPA.block ?_)
      | (refine WPA.ret ?_)
      | (refine WPA.exit ?_)
      | (refine QQ.seq_ret ?_)
      | (refine QQ.seq_exit ?_)
      | (refine QQ.block_normal ?_)
      | (refine QQ.block_ret ?_)
      | (refine QQ.block_hit ?_)
      | (refine QQ.block_miss rfl ?_)
      | (refine QQ.loop_ret ?_)
      | (refine QQ.loop_exit ?_)
      | (guard_target =~ WLA _ _ _ _ _ (⟨_, .call ⟨.value (.func 34), _, _⟩, _, _, _, _⟩ :: _) _ _; refine WLA.cq rfl rfl (Len_tr) ?_)
      | (refine WLA.st rfl ?_ ?_; first | exact trivial | exact rfl | assumption | omega | (refine ⟨?_, ?_⟩ <;> omega) | (simp only [Room, List.length_set, List.length_append, List.length_cons, List.length_nil, List.length_replicate]; omega) | skip)
      | (refine WLA.x rfl rfl ?_ (fun x => ?_); first | exact trivial | exact rfl | assumption | omega | (refine ⟨?_, ?_⟩ <;> omega) | (simp only [Room, List.length_set, List.length_append, List.length_cons, List.length_nil, List.length_replicate]; omega) | skip)
      | (refine WLA.x0 rfl ?_ (fun x => ?_); first | exact trivial | exact rfl | assumption | omega | (refine ⟨?_, ?_⟩ <;> omega) | (simp only [Room, List.length_set, List.length_append, List.length_cons, List.length_nil, List.length_replicate]; omega) | skip)
      | (guard_target =~ WPA _ _ _ (.cond _ _ _) _ _ _; first | (refine WPA.ifT ?_) | (refine WPA.ifF ?_) | (refine WPA.ifYes ?_ ?_; (first | assumption | omega | (refine fun h => h ?_; assumption) | (simp only [List.length_append, List.length_cons, List.length_nil, List.length_set] <;> omega))) | (refine WPA.ifNo ?_ ?_; (first | assumption | omega | (refine fun h => h ?_; assumption) | (simp only [List.length_append, List.length_cons, List.length_nil, List.length_set] <;> omega))) | (refine WPA.ifs ?_ ?_ <;> intro hc) | (refine WPA.ifB ?_ ?_ <;> intro hc)))
    rw [e]
    exact QQ.endc rfl () (by simp [h0]) fun w h => (PileA.fold hab rfl).sl h.to

theorem Len_trA {p c : Nat} {l : List It} {L L' : List HP} {w0 : World} {I : Foot} [h : FindK L PileA p (l, c) L'] : TrP Try.prog 34 #[.pointer (some ⟨p, 0, none⟩)] (SL w0 I L) (.int .i64 l.length) := by
  refine TrP.at h.out (TrP.opn ?_)
  rintro ⟨es, hab⟩
  rw [← hab.len]
  exact Len_tr

theorem Pop_tr {p c : Nat} {l : List It} {L L' : List HP} {w0 : World} {I : Foot} [h : FindK L PileA p (l, c) L'] (hn : l.length ≤ 100000) :
    Tr Try.prog 31 #[.pointer (some ⟨p, 0, none⟩)] (SL w0 I L) (fun _ : Unit => .tuple #[.agg #[.int .i64 (topV l).1, .int .i64 (topV l).2], .bool (decide (l ≠ []))]) (fun _ => SL w0 I (PileA p (withoutL l (topL l), c) :: L')) := by
  refine Tr.at h.out ?_
  refine Tr.intro Try.func31 rfl Try.ntmps31 rfl ?_
  by_cases h0 : l = []
  · subst h0
    have hne : ¬ ([] : List It) ≠ [] := by simp
    repeat' (first
      | (refine WLA.m rfl rfl ?_ ?_; first | exact trivial | exact rfl | assumption | omega | (refine ⟨?_, ?_⟩ <;> omega) | (simp only [Room, List.length_set, List.length_append, List.length_cons, List.length_nil, List.length_replicate]; omega) | skip)
      | (refine WLA.nil ?_)
      | (refine WPA.region ?_)
      | (refine WPA.seq ?_)
      | (refine QQ.seq_normal ?_)
      | (refine WPA.skip ?_)
      | (refine WPA.block ?_)
      | (refine WPA.ret ?_)
      | (refine WPA.exit ?_)
      | (refine QQ.seq_ret ?_)
      | (refine QQ.seq_exit ?_)
      | (refine QQ.block_normal ?_)
      | (refine QQ.block_ret ?_)
      | (refine QQ.block_hit ?_)
      | (refine QQ.block_miss rfl ?_)
      | (refine QQ.loop_ret ?_)
      | (refine QQ.loop_exit ?_)
      | (guard_target =~ WLA _ _ _ _ _ (⟨_, .call ⟨.value (.func 33), _, _⟩, _, _, _, _⟩ :: _) _ _; first | (refine WLA.call rfl rfl (Top_tr (by simp)) ?_; rintro ⟨⟩) | (refine WLA.call0 rfl (Top_tr (by simp)) ?_; rintro ⟨⟩))
      | (refine WLA.st rfl ?_ ?_; first | exact trivial | exact rfl | assumption | omega | (refine ⟨?_, ?_⟩ <;> omega) | (simp only [Room, List.length_set, List.length_append, List.length_cons, List.length_nil, List.length_replicate]; omega) | skip)
      | (refine WLA.x rfl rfl ?_ (fun x => ?_); first | exact trivial | exact rfl | assumption | omega | (refine ⟨?_, ?_⟩ <;> omega) | (simp only [Room, List.length_set, List.length_append, List.length_cons, List.length_nil, List.length_replicate]; omega) | skip)
      | (refine WLA.x0 rfl ?_ (fun x => ?_); first | exact trivial | exact rfl | assumption | omega | (refine ⟨?_, ?_⟩ <;> omega) | (simp only [Room, List.length_set, List.length_append, List.length_cons, List.length_nil, List.length_replicate]; omega) | skip)
      | (guard_target =~ WPA _ _ _ (.cond _ _ _) _ _ _; first | (refine WPA.ifT ?_) | (refine WPA.ifF ?_) | (refine WPA.ifYes ?_ ?_; (first | assumption | omega | (refine fun h => h ?_; assumption) | (simp only [List.length_append, List.length_cons, List.length_nil, List.length_set] <;> omega))) | (refine WPA.ifNo ?_ ?_; (first | assumption | omega | (refine fun h => h ?_; assumption) | (simp only [List.length_append, List.length_cons, List.length_nil, List.length_set] <;> omega))) | (refine WPA.ifs ?_ ?_ <;> intro hc) | (refine WPA.ifB ?_ ?_ <;> intro hc))
      | (guard_target =~ WPA _ _ _ (.region 5 _ true) _ _ _; refine WPA.drawT 11 (.q 0 (.q 1 (.q 2 (.q 3 (.q 4 (.q 5 (.q 6 (.q 7 (.q 8 (.q 9 (.q 10 .fin))))))))))) mixed ?_ ?_; kernel_rfl)
      | (refine WDA.finish (tl := [⟨_, _, _, _, _, _⟩, ⟨_, _, _, _, _, _⟩]) rfl ?_)
      | (refine WDQ.see rfl ?_)
      | (refine WDQ.m rfl rfl ?_ ?_; first | exact trivial | exact rfl | assumption | omega | (refine ⟨?_, ?_⟩ <;> omega) | (simp only [Room, List.length_set, List.length_append, List.length_cons, List.length_nil, List.length_replicate]; omega) | skip)
      | (guard_target =~ WDE _ _ _ _ _ _ _ ⟨_, .call ⟨.value (.func 33), _, _⟩, _, _, _, _⟩ _ _ _; refine WDE.call rfl rfl (Top_tr (by simp)) ?_ ?_; (intro x w h; exact Ent.drop1.sl h); rintro ⟨⟩)
      | (guard_target =~ WDW _ _ _ _ _ _ _ ⟨_, .call ⟨.value (.func 33), _, _⟩, _, _, _, _⟩ _ _ _; refine WDW.call rfl rfl (Top_tr (by simp)) ?_; rintro ⟨⟩))
    exact QQ.endc rfl () (by simp) fun w h => by
      have e : withoutL [] (topL []) = [] := rfl
      rw [e]; exact h.to
  · have hpos : 0 < l.length := List.length_pos_iff.2 h0
    have hne : l ≠ [] := h0
    repeat' (first
      | (refine WLA.m rfl rfl ?_ ?_; first | exact trivial | exact rfl | assumption | omega | (refine ⟨?_, ?_⟩ <;> omega) | (simp only [Room, List.length_set, List.length_append, List.length_cons, List.length_nil, List.length_replicate]; omega) | skip)
      | (refine WLA.nil ?_)
      | (refine WPA.region ?_)
      | (refine WPA.seq ?_)
      | (refine QQ.seq_normal ?_)
      | (refine WPA.skip ?_)
      | (refine WPA.block ?_)
      | (refine WPA.ret ?_)
      | (refine WPA.exit ?_)
      | (refine QQ.seq_ret ?_)
      | (refine QQ.seq_exit ?_)
      | (refine QQ.block_normal ?_)
      | (refine QQ.block_ret ?_)
      | (refine QQ.block_hit ?_)
      | (refine QQ.block_miss rfl ?_)
      | (refine QQ.loop_ret ?_)
      | (refine QQ.loop_exit ?_)
      | (guard_target =~ WLA _ _ _ _ _ (⟨_, .call ⟨.value (.func 33), _, _⟩, _, _, _, _⟩ :: _) _ _; first | (refine WLA.call rfl rfl (Top_tr hn) ?_; rintro ⟨⟩; refine WLA.opn ?_; rintro ⟨es, hab⟩; dsimp only; have hl := hab.len; refine WLA.opn fun s => ?_) | (refine WLA.call0 rfl (Top_tr hn) ?_; rintro ⟨⟩; refine WLA.opn ?_; rintro ⟨es, hab⟩; dsimp only; have hl := hab.len; refine WLA.opn fun s => ?_))
      | (refine WLA.st rfl ?_ ?_; first | exact trivial | exact rfl | assumption | omega | (refine ⟨?_, ?_⟩ <;> omega) | (simp only [Room, List.length_set, List.length_append, List.length_cons, List.length_nil, List.length_replicate]; omega) | skip)
      | (refine WLA.x rfl rfl ?_ (fun x => ?_); first | exact trivial | exact rfl | assumption | omega | (refine ⟨?_, ?_⟩ <;> omega) | (simp only [Room, List.length_set, List.length_append, List.length_cons, List.length_nil, List.length_replicate]; omega) | skip)
      | (refine WLA.x0 rfl ?_ (fun x => ?_); first | exact trivial | exact rfl | assumption | omega | (refine ⟨?_, ?_⟩ <;> omega) | (simp only [Room, List.length_set, List.length_append, List.length_cons, List.length_nil, List.length_replicate]; omega) | skip)
      | (guard_target =~ WPA _ _ _ (.cond _ _ _) _ _ _; first | (refine WPA.ifT ?_) | (refine WPA.ifF ?_) | (refine WPA.ifYes ?_ ?_; (first | assumption | omega | (refine fun h => h ?_; assumption) | (simp only [List.length_append, List.length_cons, List.length_nil, List.length_set] <;> omega))) | (refine WPA.ifNo ?_ ?_; (first | assumption | omega | (refine fun h => h ?_; assumption) | (simp only [List.length_append, List.length_cons, List.length_nil, List.length_set] <;> omega))) | (refine WPA.ifs ?_ ?_ <;> intro hc) | (refine WPA.ifB ?_ ?_ <;> intro hc))
      | (guard_target =~ WPA _ _ _ (.region 5 _ true) _ _ _; refine WPA.drawT 11 (.q 0 (.q 1 (.q 2 (.q 3 (.q 4 (.q 5 (.q 6 (.q 7 (.q 8 (.q 9 (.q 10 .fin))))))))))) mixed ?_ ?_; kernel_rfl)
      | (refine WDA.finish (tl := [⟨_, _, _, _, _, _⟩, ⟨_, _, _, _, _, _⟩]) rfl ?_)
      | (refine WDQ.see rfl ?_)
      | (refine WDQ.m rfl rfl ?_ ?_; first | exact trivial | exact rfl | assumption | omega | (refine ⟨?_, ?_⟩ <;> omega) | (simp only [Room, List.length_set, List.length_append, List.length_cons, List.length_nil, List.length_replicate]; omega) | skip)
      | (guard_target =~ WDE _ _ _ _ _ _ _ ⟨_, .call ⟨.value (.func 33), _, _⟩, _, _, _, _⟩ _ _ _; refine WDE.call rfl rfl (Top_tr hn) ?_ ?_; (intro x w h; exact Ent.drop1.sl h); rintro ⟨⟩; refine WLA.opn ?_; rintro ⟨es, hab⟩; dsimp only; have hl := hab.len; refine WLA.opn fun s => ?_)
      | (guard_target =~ WDW _ _ _ _ _ _ _ ⟨_, .call ⟨.value (.func 33), _, _⟩, _, _, _, _⟩ _ _ _; refine WDW.call rfl rfl (Top_tr hn) ?_; rintro ⟨⟩; refine WLA.opn ?_; rintro ⟨es, hab⟩; dsimp only; have hl := hab.len; refine WLA.opn fun s => ?_))
    have hes : 0 < es.length := by omega
    have ez : ((es.length : Int) - 1).toNat = es.length - 1 := by omega
    refine WLA.ent (Ent.swap.trans ((Ent.ownCut (sz := 3) ((es.length : Int) - 1) (by simp; omega)).trans Ent.swap)) ?_
    have el : ((es.set (Int.toNat 0) (((at_ es ((es.length : Int) - 1)).1.1, (at_ es ((es.length : Int) - 1)).1.2), (at_ es ((es.length : Int) - 1)).2)).set ((es.length : Int) - 1).toNat ((0, 0), 0)).take ((es.length : Int) - 1).toNat = (es.set 0 (atE es (es.length - 1))).take (es.length - 1) := by
      rw [List.take_set, List.set_eq_of_length_le (by rw [List.length_take, List.length_set]; omega), ez]
      have ea : at_ es ((es.length : Int) - 1) = atE es (es.length - 1) := by unfold at_ atE; rw [ez]; rfl
      rw [ea]; rfl
    rw [el]
    have hd := Abs.down hab.heap hes
    have hlen : ((es.set 0 (atE es (es.length - 1))).take (es.length - 1)).length = es.length - 1 := by rw [List.length_take, List.length_set]; omega
    repeat' (first
      | (refine WLA.m rfl rfl ?_ ?_; first | exact trivial | exact rfl | assumption | omega | (refine ⟨?_, ?_⟩ <;> omega) | (simp only [Room, List.length_set, List.length_append, List.length_cons, List.length_nil, List.length_replicate]; omega) | skip)
      | (refine WLA.nil ?_)
      | (refine WPA.region ?_)
      | (refine WPA.seq ?_)
      | (refine QQ.seq_normal ?_)
      | (refine WPA.skip ?_)
      | (refine WPA.block ?_)
      | (refine WPA.ret ?_)
      | (refine WPA.exit ?_)
      | (refine QQ.seq_ret ?_)
      | (refine QQ.seq_exit ?_)
      | (refine QQ.block_normal ?_)
      | (refine QQ.block_ret ?_)
      | (refine QQ.block_hit ?_)
      | (refine QQ.block_miss rfl ?_)
      | (refine QQ.loop_ret ?_)
      | (refine QQ.loop_exit ?_)
      | (guard_target =~ WLA _ _ _ _ _ (⟨_, .call ⟨.value (.func 69), _, _⟩, _, _, _, _⟩ :: _) _ _; first | (refine WLA.call rfl rfl (down_tr (by rw [hlen]; omega) (by rw [hlen]; exact hd)) ?_; rintro ⟨es', hp, hh⟩) | (refine WLA.call0 rfl (down_tr (by rw [hlen]; omega) (by rw [hlen]; exact hd)) ?_; rintro ⟨es', hp, hh⟩))
      | (refine WLA.st rfl ?_ ?_; first | exact trivial | exact rfl | assumption | omega | (refine ⟨?_, ?_⟩ <;> omega) | (simp only [Room, List.length_set, List.length_append, List.length_cons, List.length_nil, List.length_replicate]; omega) | skip)
      | (refine WLA.x rfl rfl ?_ (fun x => ?_); first | exact trivial | exact rfl | assumption | omega | (refine ⟨?_, ?_⟩ <;> omega) | (simp only [Room, List.length_set, List.length_append, List.length_cons, List.length_nil, List.length_replicate]; omega) | skip)
      | (refine WLA.x0 rfl ?_ (fun x => ?_); first | exact trivial | exact rfl | assumption | omega | (refine ⟨?_, ?_⟩ <;> omega) | (simp only [Room, List.length_set, List.length_append, List.length_cons, List.length_nil, List.length_replicate]; omega) | skip)
      | (guard_target =~ WPA _ _ _ (.cond _ _ _) _ _ _; first | (refine WPA.ifT ?_) | (refine WPA.ifF ?_) | (refine WPA.ifYes ?_ ?_; (first | assumption | omega | (refine fun h => h ?_; assumption) | (simp only [List.length_append, List.length_cons, List.length_nil, List.length_set] <;> omega))) | (refine WPA.ifNo ?_ ?_; (first | assumption | omega | (refine fun h => h ?_; assumption) | (simp only [List.length_append, List.length_cons, List.length_nil, List.length_set] <;> omega))) | (refine WPA.ifs ?_ ?_ <;> intro hc) | (refine WPA.ifB ?_ ?_ <;> intro hc))
      | (guard_target =~ WPA _ _ _ (.region 5 _ true) _ _ _; refine WPA.drawT 11 (.q 0 (.q 1 (.q 2 (.q 3 (.q 4 (.q 5 (.q 6 (.q 7 (.q 8 (.q 9 (.q 10 .fin))))))))))) mixed ?_ ?_; kernel_rfl)
      | (refine WDA.finish (tl := [⟨_, _, _, _, _, _⟩, ⟨_, _, _, _, _, _⟩]) rfl ?_)
      | (refine WDQ.see rfl ?_)
      | (refine WDQ.m rfl rfl ?_ ?_; first | exact trivial | exact rfl | assumption | omega | (refine ⟨?_, ?_⟩ <;> omega) | (simp only [Room, List.length_set, List.length_append, List.length_cons, List.length_nil, List.length_replicate]; omega) | skip)
      | (guard_target =~ WDE _ _ _ _ _ _ _ ⟨_, .call ⟨.value (.func 69), _, _⟩, _, _, _, _⟩ _ _ _; refine WDE.call rfl rfl (down_tr (by rw [hlen]; omega) (by rw [hlen]; exact hd)) ?_ ?_; (intro x w h; exact Ent.drop1.sl h); rintro ⟨es', hp, hh⟩)
      | (guard_target =~ WDW _ _ _ _ _ _ _ ⟨_, .call ⟨.value (.func 69), _, _⟩, _, _, _, _⟩ _ _ _; refine WDW.call rfl rfl (down_tr (by rw [hlen]; omega) (by rw [hlen]; exact hd)) ?_; rintro ⟨es', hp, hh⟩))
    exact QQ.endc rfl () (by simp [h0]) fun w h => (PileA.fold (z := c) (hab.pop hes hp hh) rfl).sl h.to
end Go.Proofs.Ytckackfgkidedaa
