/- A pile's small functions. Conditions: none. -/
import Derived.Test.YtckackfgkidedaaSlT
namespace Go.Proofs.Ytckackfgkidedaa
open Go Go.Fw Go.RowKit
set_option linter.unusedVariables false
set_option linter.unusedSimpArgs false
set_option maxRecDepth 100000
set_option maxHeartbeats 16000000
set_option synthInstance.maxHeartbeats 200000
set_option synthInstance.maxSize 100000
attribute [local irreducible] WPA WLA WDA WDQ WDE QQ seqQ blockQ loopQ fnQ OpP OpT Tr TrP SL SLd OwnS LitS Bk BkE Ob

/-- A thing, and which one it was to come. -/
abbrev E := (Int × Int) × Int
/-- A pile: its entries, and how many have come. -/
def PileR (p : Nat) (x : List E × Int) : HP := exH fun s : SV => star (Bk p 104 [.slice s.a s.n s.cap, .int .i64 x.2]) (OwnS 106 s x.1)
theorem PileR.fold {p : Nat} {c : Int} {s : SV} {es : List E} {L : List HP} : Ent (Bk p 104 [.slice s.a s.n s.cap, .int .i64 c] :: OwnS 106 s es :: L) (PileR p (es, c) :: L) := Ent.ex s (Ent.star Ent.refl)
instance (priority := 800) {p : Nat} {c : Int} {s : SV} {es : List E} {L L1 L2 : List HP} [h1 : FindBk L p 104 [.slice s.a s.n s.cap, .int .i64 c] L1] [h2 : FindOwn L1 s 106 E inferInstance es L2] : FindK L PileR p (es, c) L2 :=
  ⟨h1.out.trans ((Ent.cons h2.out).trans PileR.fold)⟩
instance {p : Nat} {c : Int} {es : List E} : Opn (PileR p (es, c)) SV (fun s L => Bk p 104 [.slice s.a s.n s.cap, .int .i64 c] :: OwnS 106 s es :: L) := ⟨fun w0 I L w h => by
  obtain ⟨s, h⟩ := h.exH; exact ⟨s, Ent.unstar.sl h⟩⟩
def ltE (a b : E) : Prop := a.1.1 < b.1.1 ∨ (¬ b.1.1 < a.1.1 ∧ a.2 < b.2)
instance (a b : E) : Decidable (ltE a b) := inferInstanceAs (Decidable (_ ∨ _))
instance {a b : Value} : Meth Try.prog 44 (.agg #[a, b]) "Less" 104 (.agg #[a, b]) := ⟨fun w => by kernel_rfl⟩

theorem Less_tr {a b c d : Int} (w0 : World) (I : Foot) (L : List HP) : Tr Try.prog 104 #[.agg #[.int .i64 a, .int .i64 b], .agg #[.int .i64 c, .int .i64 d]] (SL w0 I L) (fun _ : Unit => .bool (decide (a < c))) (fun _ => SL w0 I L) := by
  refine Tr.intro Try.func104 rfl Try.ntmps104 rfl ?_
  repeat' (first
    | (refine WLA.m rfl rfl ?_ ?_; first | exact trivial | exact rfl | assumption | omega | (refine ⟨?_, ?_⟩ <;> omega) | (simp only [Room, List.length_set, List.length_append, List.length_cons, List.length_nil, List.length_replicate]; omega) | skip)
    | (refine WLA.nil ?_)
    | (refine WPA.region ?_)
    | (refine WPA.seq ?_)
    | (refine QQ.seq_normal ?_)
    | (refine WPA.skip ?_)
    | (refine WPA.block ?_)
    | (refine WPA.ret ?_)
    | (refine WPA.exit ?_)
    | (refine QQ.seq_ret ?_)
    | (refine QQ.seq_exit ?_)
    | (refine QQ.block_normal ?_)
    | (refine QQ.block_ret ?_)
    | (refine QQ.block_hit ?_)
    | (refine QQ.block_miss rfl ?_)
    | (refine QQ.loop_ret ?_)
    | (refine QQ.loop_exit ?_)
    | (refine WLA.st rfl ?_ ?_; first | exact trivial | exact rfl | assumption | omega | (refine ⟨?_, ?_⟩ <;> omega) | (simp only [Room, List.length_set, List.length_append, List.length_cons, List.length_nil, List.length_replicate]; omega) | skip)
    | (refine WLA.x rfl rfl ?_ (fun x => ?_); first | exact trivial | exact rfl | assumption | omega | (refine ⟨?_, ?_⟩ <;> omega) | (simp only [Room, List.length_set, List.length_append, List.length_cons, List.length_nil, List.length_replicate]; omega) | skip)
    | (refine WLA.x0 rfl ?_ (fun x => ?_); first | exact trivial | exact rfl | assumption | omega | (refine ⟨?_, ?_⟩ <;> omega) | (simp only [Room, List.length_set, List.length_append, List.length_cons, List.length_nil, List.length_replicate]; omega) | skip)
    | (guard_target =~ WPA _ _ _ (.cond _ _ _) _ _ _; first | (refine WPA.ifT ?_) | (refine WPA.ifF ?_) | (refine WPA.ifYes ?_ ?_; (first | assumption | omega | (refine fun h => h ?_; assumption) | (simp only [List.length_append, List.length_cons, List.length_nil, List.length_set] <;> omega))) | (refine WPA.ifNo ?_ ?_; (first | assumption | omega | (refine fun h => h ?_; assumption) | (simp only [List.length_append, List.length_cons, List.length_nil, List.length_set] <;> omega))) | (refine WPA.ifs ?_ ?_ <;> intro hc) | (refine WPA.ifB ?_ ?_ <;> intro hc)))
  exact QQ.end_ rfl () rfl fun w h => (Ent.drop Ent.drop1).sl h

theorem Len_tr {p : Nat} {es : List E} {c : Int} {L L' : List HP} {w0 : World} {I : Foot} [h : FindK L PileR p (es, c) L'] : TrP Try.prog 34 #[.pointer (some ⟨p, 0, none⟩)] (SL w0 I L) (.int .i64 es.length) := by
  refine TrP.at h.out (TrP.opn fun s => TrP.ofD fun u => ?_)
  refine Tr.intro Try.func34 rfl Try.ntmps34 rfl ?_
  repeat' (first
    | (refine WLA.m rfl rfl ?_ ?_; first | exact trivial | exact rfl | assumption | omega | (refine ⟨?_, ?_⟩ <;> omega) | (simp only [Room, List.length_set, List.length_append, List.length_cons, List.length_nil, List.length_replicate]; omega) | skip)
    | (refine WLA.nil ?_)
    | (refine WPA.region ?_)
    | (refine WPA.seq ?_)
    | (refine QQ.seq_normal ?_)
    | (refine WPA.skip ?_)
    | (refine WPA.block ?_)
    | (refine WPA.ret ?_)
    | (refine WPA.exit ?_)
    | (refine QQ.seq_ret ?_)
    | (refine QQ.seq_exit ?_)
    | (refine QQ.block_normal ?_)
    | (refine QQ.block_ret ?_)
    | (refine QQ.block_hit ?_)
    | (refine QQ.block_miss rfl ?_)
    | (refine QQ.loop_ret ?_)
    | (refine QQ.loop_exit ?_)
    | (refine WLA.st rfl ?_ ?_; first | exact trivial | exact rfl | assumption | omega | (refine ⟨?_, ?_⟩ <;> omega) | (simp only [Room, List.length_set, List.length_append, List.length_cons, List.length_nil, List.length_replicate]; omega) | skip)
    | (refine WLA.x rfl rfl ?_ (fun x => ?_); first | exact trivial | exact rfl | assumption | omega | (refine ⟨?_, ?_⟩ <;> omega) | (simp only [Room, List.length_set, List.length_append, List.length_cons, List.length_nil, List.length_replicate]; omega) | skip)
    | (refine WLA.x0 rfl ?_ (fun x => ?_); first | exact trivial | exact rfl | assumption | omega | (refine ⟨?_, ?_⟩ <;> omega) | (simp only [Room, List.length_set, List.length_append, List.length_cons, List.length_nil, List.length_replicate]; omega) | skip)
    | (guard_target =~ WPA _ _ _ (.cond _ _ _) _ _ _; first | (refine WPA.ifT ?_) | (refine WPA.ifF ?_) | (refine WPA.ifYes ?_ ?_; (first | assumption | omega | (refine fun h => h ?_; assumption) | (simp only [List.length_append, List.length_cons, List.length_nil, List.length_set] <;> omega))) | (refine WPA.ifNo ?_ ?_; (first | assumption | omega | (refine fun h => h ?_; assumption) | (simp only [List.length_append, List.length_cons, List.length_nil, List.length_set] <;> omega))) | (refine WPA.ifs ?_ ?_ <;> intro hc) | (refine WPA.ifB ?_ ?_ <;> intro hc)))
  exact QQ.end_ rfl () rfl fun w h => h

theorem New_tr (w0 : World) (I : Foot) (L : List HP) : Tr Try.prog 28 #[] (SL w0 I L) (fun p : Nat => .pointer (some ⟨p, 0, none⟩)) (fun p => SL w0 I (PileR p ([], 0) :: L)) := by
  refine Tr.intro Try.func28 rfl Try.ntmps28 rfl ?_
  repeat' (first
    | (refine WLA.m rfl rfl ?_ ?_; first | exact trivial | exact rfl | assumption | omega | (refine ⟨?_, ?_⟩ <;> omega) | (simp only [Room, List.length_set, List.length_append, List.length_cons, List.length_nil, List.length_replicate]; omega) | skip)
    | (refine WLA.nil ?_)
    | (refine WPA.region ?_)
    | (refine WPA.seq ?_)
    | (refine QQ.seq_normal ?_)
    | (refine WPA.skip ?_)
    | (refine WPA.block ?_)
    | (refine WPA.ret ?_)
    | (refine WPA.exit ?_)
    | (refine QQ.seq_ret ?_)
    | (refine QQ.seq_exit ?_)
    | (refine QQ.block_normal ?_)
    | (refine QQ.block_ret ?_)
    | (refine QQ.block_hit ?_)
    | (refine QQ.block_miss rfl ?_)
    | (refine QQ.loop_ret ?_)
    | (refine QQ.loop_exit ?_)
    | (refine WLA.st rfl ?_ ?_; first | exact trivial | exact rfl | assumption | omega | (refine ⟨?_, ?_⟩ <;> omega) | (simp only [Room, List.length_set, List.length_append, List.length_cons, List.length_nil, List.length_replicate]; omega) | skip)
    | (refine WLA.x rfl rfl ?_ (fun x => ?_); first | exact trivial | exact rfl | assumption | omega | (refine ⟨?_, ?_⟩ <;> omega) | (simp only [Room, List.length_set, List.length_append, List.length_cons, List.length_nil, List.length_replicate]; omega) | skip)
    | (refine WLA.x0 rfl ?_ (fun x => ?_); first | exact trivial | exact rfl | assumption | omega | (refine ⟨?_, ?_⟩ <;> omega) | (simp only [Room, List.length_set, List.length_append, List.length_cons, List.length_nil, List.length_replicate]; omega) | skip)
    | (guard_target =~ WPA _ _ _ (.cond _ _ _) _ _ _; first | (refine WPA.ifT ?_) | (refine WPA.ifF ?_) | (refine WPA.ifYes ?_ ?_; (first | assumption | omega | (refine fun h => h ?_; assumption) | (simp only [List.length_append, List.length_cons, List.length_nil, List.length_set] <;> omega))) | (refine WPA.ifNo ?_ ?_; (first | assumption | omega | (refine fun h => h ?_; assumption) | (simp only [List.length_append, List.length_cons, List.length_nil, List.length_set] <;> omega))) | (refine WPA.ifs ?_ ?_ <;> intro hc) | (refine WPA.ifB ?_ ?_ <;> intro hc)))
  exact QQ.end_ rfl _ rfl fun w h => (Ent.ex SV.nil (Ent.star (Ent.take Take.here (Ent.ownNil Ent.refl)))).sl h

theorem ahead_tr {p : Nat} {es : List E} {c : Int} {L L' : List HP} {w0 : World} {I : Foot} (i k : Int) [h : FindK L PileR p (es, c) L'] (hi : 0 ≤ i ∧ i < es.length) (hk : 0 ≤ k ∧ k < es.length) :
    Tr Try.prog 79 #[.pointer (some ⟨p, 0, none⟩), .int .i64 i, .int .i64 k] (SL w0 I L) (fun _ : Unit => .bool (decide (ltE (at_ es i) (at_ es k)))) (fun _ => SL w0 I (PileR p (es, c) :: L')) := by
  refine Tr.at h.out (Tr.opn fun s => ?_)
  refine Tr.intro Try.func79 rfl Try.ntmps79 rfl ?_
  repeat' (first
    | (guard_target =~ WLA _ _ _ _ _ (⟨_, .call ⟨.invoke _ _, _, _⟩, _, _, _, _⟩ :: _) _ _; refine WLA.ci rfl rfl (Less_tr _ _ _) ?_; rintro ⟨⟩)
    | (refine WLA.m rfl rfl ?_ ?_; first | exact trivial | exact rfl | assumption | omega | (refine ⟨?_, ?_⟩ <;> omega) | (simp only [Room, List.length_set, List.length_append, List.length_cons, List.length_nil, List.length_replicate]; omega) | skip)
    | (refine WLA.nil ?_)
    | (refine WPA.region ?_)
    | (refine WPA.seq ?_)
    | (refine QQ.seq_normal ?_)
    | (refine WPA.skip ?_)
    | (refine WPA.block ?_)
    | (refine WPA.ret ?_)
    | (refine WPA.exit ?_)
    | (refine QQ.seq_ret ?_)
    | (refine QQ.seq_exit ?_)
    | (refine QQ.block_normal ?_)
    | (refine QQ.block_ret ?_)
    | (refine QQ.block_hit ?_)
    | (refine QQ.block_miss rfl ?_)
    | (refine QQ.loop_ret ?_)
    | (refine QQ.loop_exit ?_)
    | (refine WLA.st rfl ?_ ?_; first | exact trivial | exact rfl | assumption | omega | (refine ⟨?_, ?_⟩ <;> omega) | (simp only [Room, List.length_set, List.length_append, List.length_cons, List.length_nil, List.length_replicate]; omega) | skip)
    | (refine WLA.x rfl rfl ?_ (fun x => ?_); first | exact trivial | exact rfl | assumption | omega | (refine ⟨?_, ?_⟩ <;> omega) | (simp only [Room, List.length_set, List.length_append, List.length_cons, List.length_nil, List.length_replicate]; omega) | skip)
    | (refine WLA.x0 rfl ?_ (fun x => ?_); first | exact trivial | exact rfl | assumption | omega | (refine ⟨?_, ?_⟩ <;> omega) | (simp only [Room, List.length_set, List.length_append, List.length_cons, List.length_nil, List.length_replicate]; omega) | skip)
    | (guard_target =~ WPA _ _ _ (.cond _ _ _) _ _ _; first | (refine WPA.ifT ?_) | (refine WPA.ifF ?_) | (refine WPA.ifYes ?_ ?_; (first | assumption | omega | (refine fun h => h ?_; assumption) | (simp only [List.length_append, List.length_cons, List.length_nil, List.length_set] <;> omega))) | (refine WPA.ifNo ?_ ?_; (first | assumption | omega | (refine fun h => h ?_; assumption) | (simp only [List.length_append, List.length_cons, List.length_nil, List.length_set] <;> omega))) | (refine WPA.ifs ?_ ?_ <;> intro hc) | (refine WPA.ifB ?_ ?_ <;> intro hc))
    | (guard_target =~ WLA _ _ _ _ _ (⟨_, _, _, _, _, some _⟩ :: _) _ _; first | (refine WLA.no rfl rfl ?_) | (refine WLA.yes rfl rfl ?_ ?_; (first | assumption | omega | (refine fun h => h ?_; assumption) | (simp only [List.length_append, List.length_cons, List.length_nil, List.length_set] <;> omega))) | (refine WLA.nay rfl rfl ?_ ?_; (first | assumption | omega | (refine fun h => h ?_; assumption) | (simp only [List.length_append, List.length_cons, List.length_nil, List.length_set] <;> omega))) | (refine WLA.both rfl rfl ?_ ?_ <;> intro hg) | (refine WLA.bothB rfl rfl ?_ ?_ <;> intro hg))
    | (guard_target =~ WPA _ _ _ (.region 1 _ true) _ _ _; refine WPA.drawT 17 (.q 0 (.q 1 (.q 2 (.q 3 (.q 4 (.q 5 (.q 6 (.q 7 (.q 8 (.q 9 (.q 10 (.q 11 (.q 12 (.q 13 (.b false 14 (.e 15 (.e 16 .fin)) false 15 (.e 14 (.e 16 .fin))))))))))))))))) mixed ?_ ?_; kernel_rfl)
    | (refine WDA.finish (tl := [⟨_, _, _, _, _, _⟩]) rfl ?_)
    | (refine WDQ.see rfl ?_)
    | (refine WDQ.m rfl rfl ?_ ?_; first | exact trivial | exact rfl | assumption | omega | (refine ⟨?_, ?_⟩ <;> omega) | (simp only [Room, List.length_set, List.length_append, List.length_cons, List.length_nil, List.length_replicate]; omega) | skip)
    | (first | (refine WDA.two rfl rfl ?_ ?_) | (refine WDA.twoL rfl rfl ?_ ?_) | (refine WDA.twoR rfl rfl ?_ ?_) | (refine WDA.twoW rfl rfl ?_ ?_))
    | (refine WDE.see rfl ?_)
    | (refine WDE.alloc rfl rfl (fun w h => h) (fun x => ?_))
    | (refine WDE.stE rfl ?_)
    | (refine WDE.x rfl rfl ?_ ?_ (fun x => ?_); rotate_left 1; (intro x w h; exact Ent.drop1.sl h); rotate_left 1; first | exact trivial | exact rfl | assumption | omega | (refine ⟨?_, ?_⟩ <;> omega) | (simp only [Room, List.length_set, List.length_append, List.length_cons, List.length_nil, List.length_replicate]; omega) | skip))
  all_goals refine QQ.end_ rfl () ?_ fun w h => (Ent.drop (Ent.drop PileR.fold)).sl h
  all_goals simp [ltE, *]

end Go.Proofs.Ytckackfgkidedaa
