/- A pile of cursors: its small functions. Conditions: none. -/
import Derived.Test.YtfhelnalegochaaMg6
namespace Go.Proofs.Ytfhelnalegochaa
open Go Go.Fw Go.RowKit
set_option linter.unusedVariables false
set_option linter.unusedSimpArgs false
set_option maxRecDepth 100000
set_option maxHeartbeats 16000000
set_option synthInstance.maxHeartbeats 200000
set_option synthInstance.maxSize 100000
attribute [local irreducible] WPA WLA WDA WDQ WDE QQ seqQ blockQ loopQ fnQ OpP OpT Tr TrP SL SLd OwnS LitS Bk BkE Ob

/-- A cursor: its list, its place. -/
abbrev Cu := SV × Int
/-- A thing, and which one it was to come. -/
abbrev E := Cu × Int
/-- The cursor c stands at the n-gram k. -/
def CurAt (I : Foot) (c : Cu) (k : List Int) : Prop := ∃ ps : List (SV × Int), SlI I c.1 (SV × Int) inferInstance ps ∧ (0 ≤ c.2 ∧ c.2 < ps.length) ∧ SlI I (at_ ps c.2).1 Int inferInstance k ∧ k.length ≤ 1000000000
/-- A pile: its entries, and how many have come. -/
def PileR (p : Nat) (x : List E × Int) : HP := exH fun s : SV => star (Bk p 135 [.slice s.a s.n s.cap, .int .i64 x.2]) (OwnS 137 s x.1)
theorem PileR.fold {p : Nat} {c : Int} {s : SV} {es : List E} {L : List HP} : Ent (Bk p 135 [.slice s.a s.n s.cap, .int .i64 c] :: OwnS 137 s es :: L) (PileR p (es, c) :: L) := Ent.ex s (Ent.star Ent.refl)
instance (priority := 800) {p : Nat} {c : Int} {s : SV} {es : List E} {L L1 L2 : List HP} [h1 : FindBk L p 135 [.slice s.a s.n s.cap, .int .i64 c] L1] [h2 : FindOwn L1 s 137 E inferInstance es L2] : FindK L PileR p (es, c) L2 :=
  ⟨h1.out.trans ((Ent.cons h2.out).trans PileR.fold)⟩
instance {p : Nat} {c : Int} {es : List E} : Opn (PileR p (es, c)) SV (fun s L => Bk p 135 [.slice s.a s.n s.cap, .int .i64 c] :: OwnS 137 s es :: L) := ⟨fun w0 I L w h => by
  obtain ⟨s, h⟩ := h.exH; exact ⟨s, Ent.unstar.sl h⟩⟩
section
variable (ky : Cu → List Int)
def ltE (a b : E) : Prop := ltL (ky a.1) (ky b.1) ∨ (¬ ltL (ky b.1) (ky a.1) ∧ a.2 < b.2)
instance (a b : E) : Decidable (ltE ky a b) := inferInstanceAs (Decidable (cmpL _ _ < 0 ∨ (¬ cmpL _ _ < 0 ∧ _)))
end
instance {a b : Value} : Meth Try.prog 93 (.agg #[a, b]) "Less" 155 (.agg #[a, b]) := ⟨fun w => by kernel_rfl⟩
section
variable {L L' : List HP} {w0 : World} {I : Foot}
theorem head_tr {s : SV} {i : Int} {ps : List (SV × Int)} [hr : RdS I L s (SV × Int) inferInstance ps] (hi : 0 ≤ i ∧ i < ps.length) : Tr Try.prog 70 #[.agg #[.slice s.a s.n s.cap, .int .i64 i]] (SL w0 I L) (fun _ : Unit => .agg #[.slice (at_ ps i).1.a (at_ ps i).1.n (at_ ps i).1.cap, .int .i64 (at_ ps i).2]) (fun _ => SL w0 I L) := by
  refine Tr.intro Try.func70 rfl Try.ntmps70 rfl ?_
  repeat' (first
    | (refine WLA.m rfl rfl ?_ ?_; first | exact trivial | exact rfl | assumption | omega | (refine ⟨?_, ?_⟩ <;> omega) | (simp only [Room, List.length_set, List.length_append, List.length_cons, List.length_nil, List.length_replicate]; omega) | skip)
    | (refine WLA.nil ?_)
    | (refine WPA.region ?_)
    | (refine WPA.seq ?_)
    | (refine QQ.seq_normal ?_)
    | (refine WPA.skip ?_)
    | (refine WPA.block ?_)
    | (refine WPA.ret ?_)
    | (refine WPA.exit ?_)
    | (refine QQ.seq_ret ?_)
    | (refine QQ.seq_exit ?_)
    | (refine QQ.block_normal ?_)
    | (refine QQ.block_ret ?_)
    | (refine QQ.block_hit ?_)
    | (refine QQ.block_miss rfl ?_)
    | (refine QQ.loop_ret ?_)
    | (refine QQ.loop_exit ?_)
    | (refine WLA.st rfl ?_ ?_; first | exact trivial | exact rfl | assumption | omega | (refine ⟨?_, ?_⟩ <;> omega) | (simp only [Room, List.length_set, List.length_append, List.length_cons, List.length_nil, List.length_replicate]; omega) | skip)
    | (refine WLA.x rfl rfl ?_ (fun x => ?_); first | exact trivial | exact rfl | assumption | omega | (refine ⟨?_, ?_⟩ <;> omega) | (simp only [Room, List.length_set, List.length_append, List.length_cons, List.length_nil, List.length_replicate]; omega) | skip)
    | (refine WLA.x0 rfl ?_ (fun x => ?_); first | exact trivial | exact rfl | assumption | omega | (refine ⟨?_, ?_⟩ <;> omega) | (simp only [Room, List.length_set, List.length_append, List.length_cons, List.length_nil, List.length_replicate]; omega) | skip)
    | (guard_target =~ WPA _ _ _ (.cond _ _ _) _ _ _; first | (refine WPA.ifT ?_) | (refine WPA.ifF ?_) | (refine WPA.ifYes ?_ ?_; (first | assumption | omega | (refine fun h => h ?_; assumption) | (simp only [List.length_append, List.length_cons, List.length_nil, List.length_set] <;> omega))) | (refine WPA.ifNo ?_ ?_; (first | assumption | omega | (refine fun h => h ?_; assumption) | (simp only [List.length_append, List.length_cons, List.length_nil, List.length_set] <;> omega))) | (refine WPA.ifBt ?_ ?_; assumption) | (refine WPA.ifBf ?_ ?_; assumption) | (refine WPA.ifBnt ?_ ?_; assumption) | (refine WPA.ifBnf ?_ ?_; assumption) | (refine WPA.ifs ?_ ?_ <;> intro hc) | (refine WPA.ifB ?_ ?_ <;> intro hc)))
  exact QQ.endc rfl () rfl fun w h => h.to
theorem Less_tr {a b : Cu} {ka kb : List Int} (ha : CurAt I a ka) (hb : CurAt I b kb) : Tr Try.prog 155 #[.agg #[.slice a.1.a a.1.n a.1.cap, .int .i64 a.2], .agg #[.slice b.1.a b.1.n b.1.cap, .int .i64 b.2]] (SL w0 I L) (fun _ : Unit => .bool (decide (cmpL ka kb < 0))) (fun _ => SL w0 I L) := by
  obtain ⟨ps, h1, h2, h3, h4⟩ := ha
  obtain ⟨qs, g1, g2, g3, g4⟩ := hb
  refine Tr.intro Try.func155 rfl Try.ntmps155 rfl ?_
  repeat' (first
    | (refine WLA.m rfl rfl ?_ ?_; first | exact trivial | exact rfl | assumption | omega | (refine ⟨?_, ?_⟩ <;> omega) | (simp only [Room, List.length_set, List.length_append, List.length_cons, List.length_nil, List.length_replicate]; omega) | skip)
    | (refine WLA.nil ?_)
    | (refine WPA.region ?_)
    | (refine WPA.seq ?_)
    | (refine QQ.seq_normal ?_)
    | (refine WPA.skip ?_)
    | (refine WPA.block ?_)
    | (refine WPA.ret ?_)
    | (refine WPA.exit ?_)
    | (refine QQ.seq_ret ?_)
    | (refine QQ.seq_exit ?_)
    | (refine QQ.block_normal ?_)
    | (refine QQ.block_ret ?_)
    | (refine QQ.block_hit ?_)
    | (refine QQ.block_miss rfl ?_)
    | (refine QQ.loop_ret ?_)
    | (refine QQ.loop_exit ?_)
    | (guard_target =~ WLA _ _ _ _ _ (⟨_, .call ⟨.value (.func 70), _, _⟩, _, _, _, _⟩ :: _) _ _; first | (refine WLA.call rfl rfl (head_tr (by assumption)) ?_; rintro ⟨⟩) | (refine WLA.call0 rfl (head_tr (by assumption)) ?_; rintro ⟨⟩))
    | (guard_target =~ WLA _ _ _ _ _ (⟨_, .call ⟨.value (.func 84), _, _⟩, _, _, _, _⟩ :: _) _ _; refine WLA.cq rfl rfl (gCompare_tr (by assumption) (by assumption)) ?_)
    | (refine WLA.st rfl ?_ ?_; first | exact trivial | exact rfl | assumption | omega | (refine ⟨?_, ?_⟩ <;> omega) | (simp only [Room, List.length_set, List.length_append, List.length_cons, List.length_nil, List.length_replicate]; omega) | skip)
    | (refine WLA.x rfl rfl ?_ (fun x => ?_); first | exact trivial | exact rfl | assumption | omega | (refine ⟨?_, ?_⟩ <;> omega) | (simp only [Room, List.length_set, List.length_append, List.length_cons, List.length_nil, List.length_replicate]; omega) | skip)
    | (refine WLA.x0 rfl ?_ (fun x => ?_); first | exact trivial | exact rfl | assumption | omega | (refine ⟨?_, ?_⟩ <;> omega) | (simp only [Room, List.length_set, List.length_append, List.length_cons, List.length_nil, List.length_replicate]; omega) | skip)
    | (guard_target =~ WPA _ _ _ (.cond _ _ _) _ _ _; first | (refine WPA.ifT ?_) | (refine WPA.ifF ?_) | (refine WPA.ifYes ?_ ?_; (first | assumption | omega | (refine fun h => h ?_; assumption) | (simp only [List.length_append, List.length_cons, List.length_nil, List.length_set] <;> omega))) | (refine WPA.ifNo ?_ ?_; (first | assumption | omega | (refine fun h => h ?_; assumption) | (simp only [List.length_append, List.length_cons, List.length_nil, List.length_set] <;> omega))) | (refine WPA.ifBt ?_ ?_; assumption) | (refine WPA.ifBf ?_ ?_; assumption) | (refine WPA.ifBnt ?_ ?_; assumption) | (refine WPA.ifBnf ?_ ?_; assumption) | (refine WPA.ifs ?_ ?_ <;> intro hc) | (refine WPA.ifB ?_ ?_ <;> intro hc))
    | (guard_target =~ WPA _ _ _ (.region 1 _ true) _ _ _; refine WPA.drawT 6 (.q 0 (.q 3 (.e 1 (.q 2 (.e 4 (.q 5 .fin)))))) mixed ?_ ?_; kernel_rfl)
    | (refine WDA.finish (tl := [⟨_, _, _, _, _, _⟩, ⟨_, _, _, _, _, _⟩, ⟨_, _, _, _, _, _⟩]) rfl ?_)
    | (refine WDQ.see rfl ?_)
    | (refine WDQ.m rfl rfl ?_ ?_; first | exact trivial | exact rfl | assumption | omega | (refine ⟨?_, ?_⟩ <;> omega) | (simp only [Room, List.length_set, List.length_append, List.length_cons, List.length_nil, List.length_replicate]; omega) | skip)
    | (refine WDE.see rfl ?_)
    | (refine WDE.alloc rfl rfl (fun w h => h) (fun x => ?_))
    | (refine WDE.stE rfl ?_)
    | (refine WDE.x rfl rfl ?_ ?_ (fun x => ?_); rotate_left 1; (intro x w h; first | exact h | exact Ent.drop1.sl h); rotate_left 1; first | exact trivial | exact rfl | assumption | omega | (refine ⟨?_, ?_⟩ <;> omega) | (simp only [Room, List.length_set, List.length_append, List.length_cons, List.length_nil, List.length_replicate]; omega) | skip)
    | (guard_target =~ WDE _ _ _ _ _ _ _ ⟨_, .call ⟨.value (.func 70), _, _⟩, _, _, _, _⟩ _ _ _; refine WDE.call rfl rfl (head_tr (by assumption)) ?_ ?_; (intro x w h; first | exact h | exact Ent.drop1.sl h); rintro ⟨⟩)
    | (guard_target =~ WDW _ _ _ _ _ _ _ ⟨_, .call ⟨.value (.func 70), _, _⟩, _, _, _, _⟩ _ _ _; refine WDW.call rfl rfl (head_tr (by assumption)) ?_; rintro ⟨⟩)
    | (guard_target =~ WDQ _ _ _ _ _ _ _ ⟨_, .call ⟨.value (.func 84), _, _⟩, _, _, _, _⟩ _ _ _; refine WDQ.cq rfl rfl (gCompare_tr (by assumption) (by assumption)) ?_))
  exact QQ.end_ rfl () rfl fun w h => h.to
theorem Len_tr {p : Nat} {es : List E} {c : Int} [h : FindK L PileR p (es, c) L'] : TrP Try.prog 131 #[.pointer (some ⟨p, 0, none⟩)] (SL w0 I L) (.int .i64 es.length) := by
  refine TrP.at h.out (TrP.opn fun s => TrP.ofD fun u => ?_)
  refine Tr.intro Try.func131 rfl Try.ntmps131 rfl ?_
  repeat' (first
    | (refine WLA.m rfl rfl ?_ ?_; first | exact trivial | exact rfl | assumption | omega | (refine ⟨?_, ?_⟩ <;> omega) | (simp only [Room, List.length_set, List.length_append, List.length_cons, List.length_nil, List.length_replicate]; omega) | skip)
    | (refine WLA.nil ?_)
    | (refine WPA.region ?_)
    | (refine WPA.seq ?_)
    | (refine QQ.seq_normal ?_)
    | (refine WPA.skip ?_)
    | (refine WPA.block ?_)
    | (refine WPA.ret ?_)
    | (refine WPA.exit ?_)
    | (refine QQ.seq_ret ?_)
    | (refine QQ.seq_exit ?_)
    | (refine QQ.block_normal ?_)
    | (refine QQ.block_ret ?_)
    | (refine QQ.block_hit ?_)
    | (refine QQ.block_miss rfl ?_)
    | (refine QQ.loop_ret ?_)
    | (refine QQ.loop_exit ?_)
    | (refine WLA.st rfl ?_ ?_; first | exact trivial | exact rfl | assumption | omega | (refine ⟨?_, ?_⟩ <;> omega) | (simp only [Room, List.length_set, List.length_append, List.length_cons, List.length_nil, List.length_replicate]; omega) | skip)
    | (refine WLA.x rfl rfl ?_ (fun x => ?_); first | exact trivial | exact rfl | assumption | omega | (refine ⟨?_, ?_⟩ <;> omega) | (simp only [Room, List.length_set, List.length_append, List.length_cons, List.length_nil, List.length_replicate]; omega) | skip)
    | (refine WLA.x0 rfl ?_ (fun x => ?_); first | exact trivial | exact rfl | assumption | omega | (refine ⟨?_, ?_⟩ <;> omega) | (simp only [Room, List.length_set, List.length_append, List.length_cons, List.length_nil, List.length_replicate]; omega) | skip)
    | (guard_target =~ WPA _ _ _ (.cond _ _ _) _ _ _; first | (refine WPA.ifT ?_) | (refine WPA.ifF ?_) | (refine WPA.ifYes ?_ ?_; (first | assumption | omega | (refine fun h => h ?_; assumption) | (simp only [List.length_append, List.length_cons, List.length_nil, List.length_set] <;> omega))) | (refine WPA.ifNo ?_ ?_; (first | assumption | omega | (refine fun h => h ?_; assumption) | (simp only [List.length_append, List.length_cons, List.length_nil, List.length_set] <;> omega))) | (refine WPA.ifBt ?_ ?_; assumption) | (refine WPA.ifBf ?_ ?_; assumption) | (refine WPA.ifBnt ?_ ?_; assumption) | (refine WPA.ifBnf ?_ ?_; assumption) | (refine WPA.ifs ?_ ?_ <;> intro hc) | (refine WPA.ifB ?_ ?_ <;> intro hc)))
  exact QQ.end_ rfl () rfl fun w h => h
theorem New_tr (w0 : World) (I : Foot) (L : List HP) : Tr Try.prog 67 #[] (SL w0 I L) (fun p : Nat => .pointer (some ⟨p, 0, none⟩)) (fun p => SL w0 I (PileR p ([], 0) :: L)) := by
  refine Tr.intro Try.func67 rfl Try.ntmps67 rfl ?_
  repeat' (first
    | (refine WLA.m rfl rfl ?_ ?_; first | exact trivial | exact rfl | assumption | omega | (refine ⟨?_, ?_⟩ <;> omega) | (simp only [Room, List.length_set, List.length_append, List.length_cons, List.length_nil, List.length_replicate]; omega) | skip)
    | (refine WLA.nil ?_)
    | (refine WPA.region ?_)
    | (refine WPA.seq ?_)
    | (refine QQ.seq_normal ?_)
    | (refine WPA.skip ?_)
    | (refine WPA.block ?_)
    | (refine WPA.ret ?_)
    | (refine WPA.exit ?_)
    | (refine QQ.seq_ret ?_)
    | (refine QQ.seq_exit ?_)
    | (refine QQ.block_normal ?_)
    | (refine QQ.block_ret ?_)
    | (refine QQ.block_hit ?_)
    | (refine QQ.block_miss rfl ?_)
    | (refine QQ.loop_ret ?_)
    | (refine QQ.loop_exit ?_)
    | (refine WLA.st rfl ?_ ?_; first | exact trivial | exact rfl | assumption | omega | (refine ⟨?_, ?_⟩ <;> omega) | (simp only [Room, List.length_set, List.length_append, List.length_cons, List.length_nil, List.length_replicate]; omega) | skip)
    | (refine WLA.x rfl rfl ?_ (fun x => ?_); first | exact trivial | exact rfl | assumption | omega | (refine ⟨?_, ?_⟩ <;> omega) | (simp only [Room, List.length_set, List.length_append, List.length_cons, List.length_nil, List.length_replicate]; omega) | skip)
    | (refine WLA.x0 rfl ?_ (fun x => ?_); first | exact trivial | exact rfl | assumption | omega | (refine ⟨?_, ?_⟩ <;> omega) | (simp only [Room, List.length_set, List.length_append, List.length_cons, List.length_nil, List.length_replicate]; omega) | skip)
    | (guard_target =~ WPA _ _ _ (.cond _ _ _) _ _ _; first | (refine WPA.ifT ?_) | (refine WPA.ifF ?_) | (refine WPA.ifYes ?_ ?_; (first | assumption | omega | (refine fun h => h ?_; assumption) | (simp only [List.length_append, List.length_cons, List.length_nil, List.length_set] <;> omega))) | (refine WPA.ifNo ?_ ?_; (first | assumption | omega | (refine fun h => h ?_; assumption) | (simp only [List.length_append, List.length_cons, List.length_nil, List.length_set] <;> omega))) | (refine WPA.ifBt ?_ ?_; assumption) | (refine WPA.ifBf ?_ ?_; assumption) | (refine WPA.ifBnt ?_ ?_; assumption) | (refine WPA.ifBnf ?_ ?_; assumption) | (refine WPA.ifs ?_ ?_ <;> intro hc) | (refine WPA.ifB ?_ ?_ <;> intro hc)))
  exact QQ.end_ rfl _ rfl fun w h => (Ent.ex SV.nil (Ent.star (Ent.take Take.here (Ent.ownNil Ent.refl)))).sl h
theorem ahead_tr {ky : Cu → List Int} {p : Nat} {es : List E} {c : Int} (i k : Int) [h : FindK L PileR p (es, c) L'] (hi : 0 ≤ i ∧ i < es.length) (hk : 0 ≤ k ∧ k < es.length) (hg : ∀ e ∈ es, CurAt I e.1 (ky e.1)) :
    Tr Try.prog 124 #[.pointer (some ⟨p, 0, none⟩), .int .i64 i, .int .i64 k] (SL w0 I L) (fun _ : Unit => .bool (decide (ltE ky (at_ es i) (at_ es k)))) (fun _ => SL w0 I (PileR p (es, c) :: L')) := by
  refine Tr.at h.out (Tr.opn fun s => ?_)
  have h1 : CurAt I (at_ es i).1 (ky (at_ es i).1) := hg _ (by rw [at_int es i hi.1 hi.2]; exact List.getElem_mem _)
  have h2 : CurAt I (at_ es k).1 (ky (at_ es k).1) := hg _ (by rw [at_int es k hk.1 hk.2]; exact List.getElem_mem _)
  refine Tr.intro Try.func124 rfl Try.ntmps124 rfl ?_
  repeat' (first
    | (guard_target =~ WLA _ _ _ _ _ (⟨_, .call ⟨.invoke _ _, _, _⟩, _, _, _, _⟩ :: _) _ _; first | (refine WLA.ci rfl rfl (Less_tr h1 h2) ?_; rintro ⟨⟩) | (refine WLA.ci rfl rfl (Less_tr h2 h1) ?_; rintro ⟨⟩))
    | (refine WLA.m rfl rfl ?_ ?_; first | exact trivial | exact rfl | assumption | omega | (refine ⟨?_, ?_⟩ <;> omega) | (simp only [Room, List.length_set, List.length_append, List.length_cons, List.length_nil, List.length_replicate]; omega) | skip)
    | (refine WLA.nil ?_)
    | (refine WPA.region ?_)
    | (refine WPA.seq ?_)
    | (refine QQ.seq_normal ?_)
    | (refine WPA.skip ?_)
    | (refine WPA.block ?_)
    | (refine WPA.ret ?_)
    | (refine WPA.exit ?_)
    | (refine QQ.seq_ret ?_)
    | (refine QQ.seq_exit ?_)
    | (refine QQ.block_normal ?_)
    | (refine QQ.block_ret ?_)
    | (refine QQ.block_hit ?_)
    | (refine QQ.block_miss rfl ?_)
    | (refine QQ.loop_ret ?_)
    | (refine QQ.loop_exit ?_)
    | (refine WLA.st rfl ?_ ?_; first | exact trivial | exact rfl | assumption | omega | (refine ⟨?_, ?_⟩ <;> omega) | (simp only [Room, List.length_set, List.length_append, List.length_cons, List.length_nil, List.length_replicate]; omega) | skip)
    | (refine WLA.x rfl rfl ?_ (fun x => ?_); first | exact trivial | exact rfl | assumption | omega | (refine ⟨?_, ?_⟩ <;> omega) | (simp only [Room, List.length_set, List.length_append, List.length_cons, List.length_nil, List.length_replicate]; omega) | skip)
    | (refine WLA.x0 rfl ?_ (fun x => ?_); first | exact trivial | exact rfl | assumption | omega | (refine ⟨?_, ?_⟩ <;> omega) | (simp only [Room, List.length_set, List.length_append, List.length_cons, List.length_nil, List.length_replicate]; omega) | skip)
    | (guard_target =~ WPA _ _ _ (.cond _ _ _) _ _ _; first | (refine WPA.ifT ?_) | (refine WPA.ifF ?_) | (refine WPA.ifYes ?_ ?_; (first | assumption | omega | (refine fun h => h ?_; assumption) | (simp only [List.length_append, List.length_cons, List.length_nil, List.length_set] <;> omega))) | (refine WPA.ifNo ?_ ?_; (first | assumption | omega | (refine fun h => h ?_; assumption) | (simp only [List.length_append, List.length_cons, List.length_nil, List.length_set] <;> omega))) | (refine WPA.ifBt ?_ ?_; assumption) | (refine WPA.ifBf ?_ ?_; assumption) | (refine WPA.ifBnt ?_ ?_; assumption) | (refine WPA.ifBnf ?_ ?_; assumption) | (refine WPA.ifs ?_ ?_ <;> intro hc) | (refine WPA.ifB ?_ ?_ <;> intro hc))
    | (guard_target =~ WLA _ _ _ _ _ (⟨_, _, _, _, _, some _⟩ :: _) _ _; first | (refine WLA.no rfl rfl ?_) | (refine WLA.yes rfl rfl ?_ ?_; (first | assumption | omega | (refine fun h => h ?_; assumption) | (simp only [List.length_append, List.length_cons, List.length_nil, List.length_set] <;> omega))) | (refine WLA.nay rfl rfl ?_ ?_; (first | assumption | omega | (refine fun h => h ?_; assumption) | (simp only [List.length_append, List.length_cons, List.length_nil, List.length_set] <;> omega))) | (refine WLA.both rfl rfl ?_ ?_ <;> intro hg) | (refine WLA.bothB rfl rfl ?_ ?_ <;> intro hg))
    | (guard_target =~ WPA _ _ _ (.region 1 _ true) _ _ _; refine WPA.drawT 17 (.q 0 (.q 1 (.q 2 (.q 3 (.q 4 (.q 5 (.q 6 (.q 7 (.q 8 (.q 9 (.q 10 (.q 11 (.q 12 (.q 13 (.b false 14 (.e 15 (.e 16 .fin)) false 15 (.e 14 (.e 16 .fin))))))))))))))))) mixed ?_ ?_; kernel_rfl)
    | (refine WDA.finish (tl := [⟨_, _, _, _, _, _⟩]) rfl ?_)
    | (refine WDQ.see rfl ?_)
    | (refine WDQ.m rfl rfl ?_ ?_; first | exact trivial | exact rfl | assumption | omega | (refine ⟨?_, ?_⟩ <;> omega) | (simp only [Room, List.length_set, List.length_append, List.length_cons, List.length_nil, List.length_replicate]; omega) | skip)
    | (first | (refine WDA.two rfl rfl ?_ ?_) | (refine WDA.twoL rfl rfl ?_ ?_) | (refine WDA.twoR rfl rfl ?_ ?_) | (refine WDA.twoW rfl rfl ?_ ?_))
    | (refine WDE.see rfl ?_)
    | (refine WDE.alloc rfl rfl (fun w h => h) (fun x => ?_))
    | (refine WDE.stE rfl ?_)
    | (refine WDE.x rfl rfl ?_ ?_ (fun x => ?_); rotate_left 1; (intro x w h; first | exact h | exact Ent.drop1.sl h); rotate_left 1; first | exact trivial | exact rfl | assumption | omega | (refine ⟨?_, ?_⟩ <;> omega) | (simp only [Room, List.length_set, List.length_append, List.length_cons, List.length_nil, List.length_replicate]; omega) | skip))
  all_goals refine QQ.end_ rfl () ?_ fun w h => (Ent.drop (Ent.drop PileR.fold)).sl h
  all_goals simp only [ltE, ltL]
  all_goals simp [*]
end
end Go.Proofs.Ytfhelnalegochaa
