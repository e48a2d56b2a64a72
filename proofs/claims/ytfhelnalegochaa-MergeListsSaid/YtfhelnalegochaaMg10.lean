/- A pile of cursors: Push, Pop and Drain. Conditions: none. -/
import Derived.Test.YtfhelnalegochaaMg9
namespace Go.Proofs.Ytfhelnalegochaa
open Go Go.Fw Go.RowKit
set_option linter.unusedVariables false
set_option linter.unusedSimpArgs false
set_option maxRecDepth 100000
set_option maxHeartbeats 16000000
set_option synthInstance.maxHeartbeats 200000
set_option synthInstance.maxSize 100000
attribute [local irreducible] WPA WLA WDA WDQ WDE QQ seqQ blockQ loopQ fnQ OpP OpT Tr TrP SL SLd OwnS LitS Bk BkE Ob

theorem atE_get (l : List E) (k : Nat) (h : k < l.length) : atE l k = l[k] := by simp [atE, List.getD_eq_getElem?_getD, h]
section
variable {ky : Cu → List Int}
theorem heap_up {es : List E} (h : HeapL ky es) (a : E) : UpF ky (atE (es ++ [a])) (es.length + 1) es.length := by
  refine ⟨fun k h0 hk hne => ?_, fun k h0 hk hp _ => ?_⟩
  · have hk' : k < es.length := by omega
    have hp : par k < es.length := by unfold par; omega
    have := h k h0 hk'
    have e : ∀ q, q < es.length → atE (es ++ [a]) q = atE es q := fun q hq => by
      simp [atE, List.getD_eq_getElem?_getD, List.getElem?_append, hq]
    rw [e k hk', e _ hp]; exact this
  · unfold par at hp; omega
theorem heap_down {es : List E} (hh : HeapL ky es) (hne : 0 < es.length) : DownF ky (atE ((es.set 0 (atE es (es.length - 1))).take (es.length - 1))) (es.length - 1) 0 := by
  refine ⟨fun k h0 hk hp => ?_, fun k _ _ _ h => by omega⟩
  have hpk : par k < k := by unfold par; omega
  have e : ∀ q, q < es.length - 1 → q ≠ 0 → atE ((es.set 0 (atE es (es.length - 1))).take (es.length - 1)) q = atE es q := fun q hq h0 => by
    simp only [atE, List.getD_eq_getElem?_getD, List.getElem?_take, hq, if_true, List.getElem?_set, show ¬ 0 = q by omega, if_false]
  rw [e k hk (by omega), e _ (by omega) hp]
  exact hh k h0 (by omega)
theorem pop_perm {es : List E} (hne : 0 < es.length) : (atE es 0 :: ((es.set 0 (atE es (es.length - 1))).take (es.length - 1))).Perm es := by
  cases es with
  | nil => simp at hne
  | cons a t =>
    have e0 : atE (a :: t) 0 = a := rfl
    simp only [List.length_cons, Nat.add_sub_cancel, List.set_cons_zero, e0]
    refine List.Perm.cons a ?_
    rcases List.eq_nil_or_concat t with rfl | ⟨t', b, rfl⟩
    · simp
    · have e : atE (a :: (t' ++ [b])) (t' ++ [b]).length = b := by simp [atE, List.getD_eq_getElem?_getD]
      rw [List.concat_eq_append, e]
      simp only [List.length_append, List.length_singleton, List.take_succ_cons]
      rw [List.take_left]
      exact (List.perm_append_singleton b t').symm
end
/-- A pile that has the cursors l, c of which came in all. -/
def PileM (ky : Cu → List Int) (p : Nat) (x : List Cu × Nat) : HP := exH fun es : List E => pureH (HeapL ky es ∧ (es.map Prod.fst).Perm x.1) (PileR p (es, (x.2 : Int)))
instance {ky : Cu → List Int} {p : Nat} {x : List Cu × Nat} : Opn (PileM ky p x) { es : List E // HeapL ky es ∧ (es.map Prod.fst).Perm x.1 } (fun es L => PileR p (es.1, (x.2 : Int)) :: L) := ⟨fun w0 I L w h => by
  obtain ⟨es, h⟩ := h.exH; exact ⟨⟨es, h.pureH.1⟩, h.pureH.2⟩⟩
theorem PileM.fold {ky : Cu → List Int} {p c : Nat} {z : Int} {l : List Cu} {es : List E} {L : List HP} (h : HeapL ky es) (hp : (es.map Prod.fst).Perm l) (hz : z = c) : Ent (PileR p (es, z) :: L) (PileM ky p (l, c) :: L) := by
  subst hz; exact Ent.ex es (Ent.pure ⟨h, hp⟩ Ent.refl)
section
variable {ky : Cu → List Int} {L L' : List HP} {w0 : World} {I : Foot}
theorem New_trM (ky : Cu → List Int) (w0 : World) (I : Foot) (L : List HP) : Tr Try.prog 67 #[] (SL w0 I L) (fun p : Nat => .pointer (some ⟨p, 0, none⟩)) (fun p => SL w0 I (PileM ky p ([], 0) :: L)) :=
  (New_tr w0 I L).conv (fun _ h => h) fun p w h => ⟨p, rfl, (PileM.fold (fun k h0 hk => by simp at hk) (by simp) rfl).sl h⟩
theorem Push_trM {p c : Nat} {l : List Cu} {a : Cu} [h : FindK L (PileM ky) p (l, c) L'] (hc : c ≤ 100000) (hn : l.length ≤ 100000) (hg : ∀ q ∈ l, CurAt I q (ky q)) (ha : CurAt I a (ky a)) :
    Tr Try.prog 68 #[.pointer (some ⟨p, 0, none⟩), .agg #[.slice a.1.a a.1.n a.1.cap, .int .i64 a.2]] (SL w0 I L) (fun _ : Unit => .tuple #[]) (fun _ => SL w0 I (PileM ky p (a :: l, c + 1) :: L')) := by
  refine Tr.at h.out (Tr.opn ?_)
  rintro ⟨es, hh, hp⟩
  dsimp only at hp ⊢
  have hl : es.length = l.length := by have := hp.length_eq; simpa using this
  refine Tr.opn fun s => ?_
  refine Tr.intro Try.func68 rfl Try.ntmps68 rfl ?_
  have hu := heap_up hh (a, (c : Int))
  have hge : ∀ e ∈ es ++ [(a, (c : Int))], CurAt I e.1 (ky e.1) := by
    intro e he
    rcases List.mem_append.1 he with he | he
    · exact hg _ (hp.subset (List.mem_map.2 ⟨e, he, rfl⟩))
    · rw [List.mem_singleton.1 he]; exact ha
  repeat' (first
    | (refine WLA.m rfl rfl ?_ ?_; first | exact trivial | exact rfl | assumption | omega | (refine ⟨?_, ?_⟩ <;> omega) | (simp only [Room, List.length_set, List.length_append, List.length_cons, List.length_nil, List.length_replicate]; omega) | skip)
    | (refine WLA.nil ?_)
    | (refine WPA.region ?_)
    | (refine WPA.seq ?_)
    | (refine QQ.seq_normal ?_)
    | (refine WPA.skip ?_)
    | (refine WPA.block ?_)
    | (refine WPA.ret ?_)
    | (refine WPA.exit ?_)
    | (refine QQ.seq_ret ?_)
    | (refine QQ.seq_exit ?_)
    | (refine QQ.block_normal ?_)
    | (refine QQ.block_ret ?_)
    | (refine QQ.block_hit ?_)
    | (refine QQ.block_miss rfl ?_)
    | (refine QQ.loop_ret ?_)
    | (refine QQ.loop_exit ?_)
    | (guard_target =~ WLA _ _ _ _ _ (⟨_, .call ⟨.value (.func 104), _, _⟩, _, _, _, _⟩ :: _) _ _; first | (refine WLA.call rfl rfl (up_tr es.length (by simp only [List.length_append, List.length_singleton]; omega) (by simp) (by simp; omega) hge (by simpa using hu)) ?_; rintro ⟨es', hp', hh'⟩) | (refine WLA.call0 rfl (up_tr es.length (by simp only [List.length_append, List.length_singleton]; omega) (by simp) (by simp; omega) hge (by simpa using hu)) ?_; rintro ⟨es', hp', hh'⟩))
    | (refine WLA.st rfl ?_ ?_; first | exact trivial | exact rfl | assumption | omega | (refine ⟨?_, ?_⟩ <;> omega) | (simp only [Room, List.length_set, List.length_append, List.length_cons, List.length_nil, List.length_replicate]; omega) | skip)
    | (refine WLA.x rfl rfl ?_ (fun x => ?_); first | exact trivial | exact rfl | assumption | omega | (refine ⟨?_, ?_⟩ <;> omega) | (simp only [Room, List.length_set, List.length_append, List.length_cons, List.length_nil, List.length_replicate]; omega) | skip)
    | (refine WLA.x0 rfl ?_ (fun x => ?_); first | exact trivial | exact rfl | assumption | omega | (refine ⟨?_, ?_⟩ <;> omega) | (simp only [Room, List.length_set, List.length_append, List.length_cons, List.length_nil, List.length_replicate]; omega) | skip)
    | (guard_target =~ WPA _ _ _ (.cond _ _ _) _ _ _; first | (refine WPA.ifT ?_) | (refine WPA.ifF ?_) | (refine WPA.ifYes ?_ ?_; (first | assumption | omega | (refine fun h => h ?_; assumption) | (simp only [List.length_append, List.length_cons, List.length_nil, List.length_set] <;> omega))) | (refine WPA.ifNo ?_ ?_; (first | assumption | omega | (refine fun h => h ?_; assumption) | (simp only [List.length_append, List.length_cons, List.length_nil, List.length_set] <;> omega))) | (refine WPA.ifBt ?_ ?_; assumption) | (refine WPA.ifBf ?_ ?_; assumption) | (refine WPA.ifBnt ?_ ?_; assumption) | (refine WPA.ifBnf ?_ ?_; assumption) | (refine WPA.ifs ?_ ?_ <;> intro hc) | (refine WPA.ifB ?_ ?_ <;> intro hc))
    | (guard_target =~ WPA _ _ _ (.region 2 _ true) _ _ _; refine WPA.drawT 13 (.p 0 (.p 1 (.p 2 (.p 3 (.q 4 (.q 5 (.p 6 (.p 7 (.p 8 (.q 9 (.p 10 (.e 11 (.w 12 .fin))))))))))))) mixed ?_ ?_; kernel_rfl)
    | (refine WDA.finish (tl := [⟨_, _, _, _, _, _⟩, ⟨_, _, _, _, _, _⟩, ⟨_, _, _, _, _, _⟩]) rfl ?_)
    | (refine WDQ.see rfl ?_)
    | (refine WDQ.m rfl rfl ?_ ?_; first | exact trivial | exact rfl | assumption | omega | (refine ⟨?_, ?_⟩ <;> omega) | (simp only [Room, List.length_set, List.length_append, List.length_cons, List.length_nil, List.length_replicate]; omega) | skip)
    | (refine WDP.see rfl ?_)
    | (refine WDP.m rfl rfl ?_ ?_; first | exact trivial | exact rfl | assumption | omega | (refine ⟨?_, ?_⟩ <;> omega) | (simp only [Room, List.length_set, List.length_append, List.length_cons, List.length_nil, List.length_replicate]; omega) | skip)
    | (refine WDP.no rfl rfl ?_)
    | (refine WDW.see rfl ?_)
    | (refine WDW.x rfl rfl ?_ (fun x => ?_); first | exact trivial | exact rfl | assumption | omega | (refine ⟨?_, ?_⟩ <;> omega) | (simp only [Room, List.length_set, List.length_append, List.length_cons, List.length_nil, List.length_replicate]; omega) | skip)
    | (refine WDW.st rfl ?_ ?_; first | exact trivial | exact rfl | assumption | omega | (refine ⟨?_, ?_⟩ <;> omega) | (simp only [Room, List.length_set, List.length_append, List.length_cons, List.length_nil, List.length_replicate]; omega) | skip)
    | (refine WDE.see rfl ?_)
    | (refine WDE.alloc rfl rfl (fun w h => h) (fun x => ?_))
    | (refine WDE.stE rfl ?_)
    | (refine WDE.x rfl rfl ?_ ?_ (fun x => ?_); rotate_left 1; (intro x w h; first | exact h | exact Ent.drop1.sl h); rotate_left 1; first | exact trivial | exact rfl | assumption | omega | (refine ⟨?_, ?_⟩ <;> omega) | (simp only [Room, List.length_set, List.length_append, List.length_cons, List.length_nil, List.length_replicate]; omega) | skip)
    | (guard_target =~ WDE _ _ _ _ _ _ _ ⟨_, .call ⟨.value (.func 104), _, _⟩, _, _, _, _⟩ _ _ _; refine WDE.call rfl rfl (up_tr es.length (by simp only [List.length_append, List.length_singleton]; omega) (by simp) (by simp; omega) hge (by simpa using hu)) ?_ ?_; (intro x w h; first | exact h | exact Ent.drop1.sl h); rintro ⟨es', hp', hh'⟩)
    | (guard_target =~ WDW _ _ _ _ _ _ _ ⟨_, .call ⟨.value (.func 104), _, _⟩, _, _, _, _⟩ _ _ _; refine WDW.call rfl rfl (up_tr es.length (by simp only [List.length_append, List.length_singleton]; omega) (by simp) (by simp; omega) hge (by simpa using hu)) ?_; rintro ⟨es', hp', hh'⟩))
  refine QQ.endn rfl () rfl fun w h => (PileM.fold (z := (c : Int) + 1) hh' ?_ (by omega)).sl h.to
  have h1 := hp'.map Prod.fst
  rw [List.map_append] at h1
  exact h1.trans ((List.perm_append_singleton a _).trans (hp.cons a))
theorem Top_trR {p : Nat} {es : List E} {c : Int} [h : FindK L PileR p (es, c) L'] (hn : es.length ≤ 1000000) (h0 : es ≠ []) :
    Tr Try.prog 125 #[.pointer (some ⟨p, 0, none⟩)] (SL w0 I L) (fun _ : Unit => .tuple #[.agg #[.slice (at_ es 0).1.1.a (at_ es 0).1.1.n (at_ es 0).1.1.cap, .int .i64 (at_ es 0).1.2], .bool true]) (fun _ => SL w0 I (PileR p (es, c) :: L')) := by
  refine Tr.at h.out ?_
  refine Tr.intro Try.func125 rfl Try.ntmps125 rfl ?_
  have hpos : 0 < es.length := List.length_pos_iff.2 h0
  have he : ¬ (es.length : Int) = 0 := by omega
  refine WPA.opn fun s => ?_
  repeat' (first
    | (refine WLA.m rfl rfl ?_ ?_; first | exact trivial | exact rfl | assumption | omega | (refine ⟨?_, ?_⟩ <;> omega) | (simp only [Room, List.length_set, List.length_append, List.length_cons, List.length_nil, List.length_replicate]; omega) | skip)
    | (refine WLA.nil ?_)
    | (refine WPA.region ?_)
    | (refine WPA.seq ?_)
    | (refine QQ.seq_normal ?_)
    | (refine WPA.skip ?_)
    | (refine WPA.block ?_)
    | (refine WPA.ret ?_)
    | (refine WPA.exit ?_)
    | (refine QQ.seq_ret ?_)
    | (refine QQ.seq_exit ?_)
    | (refine QQ.block_normal ?_)
    | (refine QQ.block_ret ?_)
    | (refine QQ.block_hit ?_)
    | (refine QQ.block_miss rfl ?_)
    | (refine QQ.loop_ret ?_)
    | (refine QQ.loop_exit ?_)
    | (guard_target =~ WLA _ _ _ _ _ (⟨_, .call ⟨.value (.func 131), _, _⟩, _, _, _, _⟩ :: _) _ _; refine WLA.cq rfl rfl (Len_tr) ?_)
    | (refine WLA.st rfl ?_ ?_; first | exact trivial | exact rfl | assumption | omega | (refine ⟨?_, ?_⟩ <;> omega) | (simp only [Room, List.length_set, List.length_append, List.length_cons, List.length_nil, List.length_replicate]; omega) | skip)
    | (refine WLA.x rfl rfl ?_ (fun x => ?_); first | exact trivial | exact rfl | assumption | omega | (refine ⟨?_, ?_⟩ <;> omega) | (simp only [Room, List.length_set, List.length_append, List.length_cons, List.length_nil, List.length_replicate]; omega) | skip)
    | (refine WLA.x0 rfl ?_ (fun x => ?_); first | exact trivial | exact rfl | assumption | omega | (refine ⟨?_, ?_⟩ <;> omega) | (simp only [Room, List.length_set, List.length_append, List.length_cons, List.length_nil, List.length_replicate]; omega) | skip)
    | (guard_target =~ WPA _ _ _ (.cond _ _ _) _ _ _; first | (refine WPA.ifT ?_) | (refine WPA.ifF ?_) | (refine WPA.ifYes ?_ ?_; (first | assumption | omega | (refine fun h => h ?_; assumption) | (simp only [List.length_append, List.length_cons, List.length_nil, List.length_set] <;> omega))) | (refine WPA.ifNo ?_ ?_; (first | assumption | omega | (refine fun h => h ?_; assumption) | (simp only [List.length_append, List.length_cons, List.length_nil, List.length_set] <;> omega))) | (refine WPA.ifBt ?_ ?_; assumption) | (refine WPA.ifBf ?_ ?_; assumption) | (refine WPA.ifBnt ?_ ?_; assumption) | (refine WPA.ifBnf ?_ ?_; assumption) | (refine WPA.ifs ?_ ?_ <;> intro hc) | (refine WPA.ifB ?_ ?_ <;> intro hc)))
  exact QQ.endc rfl () rfl fun w h => h.to
theorem Top_trN {p : Nat} {c : Int} [h : FindK L PileR p (([] : List E), c) L'] :
    Tr Try.prog 125 #[.pointer (some ⟨p, 0, none⟩)] (SL w0 I L) (fun _ : Unit => .tuple #[.agg #[.slice none 0 0, .int .i64 0], .bool false]) (fun _ => SL w0 I (PileR p ([], c) :: L')) := by
  refine Tr.at h.out ?_
  refine Tr.intro Try.func125 rfl Try.ntmps125 rfl ?_
  have he : (([] : List E).length : Int) = 0 := rfl
  repeat' (first
    | (refine WLA.m rfl rfl ?_ ?_; first | exact trivial | exact rfl | assumption | omega | (refine ⟨?_, ?_⟩ <;> omega) | (simp only [Room, List.length_set, List.length_append, List.length_cons, List.length_nil, List.length_replicate]; omega) | skip)
    | (refine WLA.nil ?_)
    | (refine WPA.region ?_)
    | (refine WPA.seq ?_)
    | (refine QQ.seq_normal ?_)
    | (refine WPA.skip ?_)
    | (refine WPA.block ?_)
    | (refine WPA.ret ?_)
    | (refine WPA.exit ?_)
    | (refine QQ.seq_ret ?_)
    | (refine QQ.seq_exit ?_)
    | (refine QQ.block_normal ?_)
    | (refine QQ.block_ret ?_)
    | (refine QQ.block_hit ?_)
    | (refine QQ.block_miss rfl ?_)
    | (refine QQ.loop_ret ?_)
    | (refine QQ.loop_exit ?_)
    | (guard_target =~ WLA _ _ _ _ _ (⟨_, .call ⟨.value (.func 131), _, _⟩, _, _, _, _⟩ :: _) _ _; refine WLA.cq rfl rfl (Len_tr) ?_)
    | (refine WLA.st rfl ?_ ?_; first | exact trivial | exact rfl | assumption | omega | (refine ⟨?_, ?_⟩ <;> omega) | (simp only [Room, List.length_set, List.length_append, List.length_cons, List.length_nil, List.length_replicate]; omega) | skip)
    | (refine WLA.x rfl rfl ?_ (fun x => ?_); first | exact trivial | exact rfl | assumption | omega | (refine ⟨?_, ?_⟩ <;> omega) | (simp only [Room, List.length_set, List.length_append, List.length_cons, List.length_nil, List.length_replicate]; omega) | skip)
    | (refine WLA.x0 rfl ?_ (fun x => ?_); first | exact trivial | exact rfl | assumption | omega | (refine ⟨?_, ?_⟩ <;> omega) | (simp only [Room, List.length_set, List.length_append, List.length_cons, List.length_nil, List.length_replicate]; omega) | skip)
    | (guard_target =~ WPA _ _ _ (.cond _ _ _) _ _ _; first | (refine WPA.ifT ?_) | (refine WPA.ifF ?_) | (refine WPA.ifYes ?_ ?_; (first | assumption | omega | (refine fun h => h ?_; assumption) | (simp only [List.length_append, List.length_cons, List.length_nil, List.length_set] <;> omega))) | (refine WPA.ifNo ?_ ?_; (first | assumption | omega | (refine fun h => h ?_; assumption) | (simp only [List.length_append, List.length_cons, List.length_nil, List.length_set] <;> omega))) | (refine WPA.ifBt ?_ ?_; assumption) | (refine WPA.ifBf ?_ ?_; assumption) | (refine WPA.ifBnt ?_ ?_; assumption) | (refine WPA.ifBnf ?_ ?_; assumption) | (refine WPA.ifs ?_ ?_ <;> intro hc) | (refine WPA.ifB ?_ ?_ <;> intro hc)))
  exact QQ.endc rfl () rfl fun w h => h.to
theorem Pop_trN {p c : Nat} [h : FindK L (PileM ky) p (([] : List Cu), c) L'] :
    Tr Try.prog 106 #[.pointer (some ⟨p, 0, none⟩)] (SL w0 I L) (fun _ : Unit => .tuple #[.agg #[.slice none 0 0, .int .i64 0], .bool false]) (fun _ => SL w0 I (PileM ky p ([], c) :: L')) := by
  refine Tr.at h.out (Tr.opn ?_)
  rintro ⟨es, hh, hp⟩
  dsimp only at hp ⊢
  have he : es = [] := by have := hp.length_eq; exact List.eq_nil_of_length_eq_zero (by simpa using this)
  subst he
  refine Tr.intro Try.func106 rfl Try.ntmps106 rfl ?_
  repeat' (first
    | (refine WLA.m rfl rfl ?_ ?_; first | exact trivial | exact rfl | assumption | omega | (refine ⟨?_, ?_⟩ <;> omega) | (simp only [Room, List.length_set, List.length_append, List.length_cons, List.length_nil, List.length_replicate]; omega) | skip)
    | (refine WLA.nil ?_)
    | (refine WPA.region ?_)
    | (refine WPA.seq ?_)
    | (refine QQ.seq_normal ?_)
    | (refine WPA.skip ?_)
    | (refine WPA.block ?_)
    | (refine WPA.ret ?_)
    | (refine WPA.exit ?_)
    | (refine QQ.seq_ret ?_)
    | (refine QQ.seq_exit ?_)
    | (refine QQ.block_normal ?_)
    | (refine QQ.block_ret ?_)
    | (refine QQ.block_hit ?_)
    | (refine QQ.block_miss rfl ?_)
    | (refine QQ.loop_ret ?_)
    | (refine QQ.loop_exit ?_)
    | (guard_target =~ WLA _ _ _ _ _ (⟨_, .call ⟨.value (.func 125), _, _⟩, _, _, _, _⟩ :: _) _ _; first | (refine WLA.call rfl rfl (Top_trN) ?_; rintro ⟨⟩) | (refine WLA.call0 rfl (Top_trN) ?_; rintro ⟨⟩))
    | (refine WLA.st rfl ?_ ?_; first | exact trivial | exact rfl | assumption | omega | (refine ⟨?_, ?_⟩ <;> omega) | (simp only [Room, List.length_set, List.length_append, List.length_cons, List.length_nil, List.length_replicate]; omega) | skip)
    | (refine WLA.x rfl rfl ?_ (fun x => ?_); first | exact trivial | exact rfl | assumption | omega | (refine ⟨?_, ?_⟩ <;> omega) | (simp only [Room, List.length_set, List.length_append, List.length_cons, List.length_nil, List.length_replicate]; omega) | skip)
    | (refine WLA.x0 rfl ?_ (fun x => ?_); first | exact trivial | exact rfl | assumption | omega | (refine ⟨?_, ?_⟩ <;> omega) | (simp only [Room, List.length_set, List.length_append, List.length_cons, List.length_nil, List.length_replicate]; omega) | skip)
    | (guard_target =~ WPA _ _ _ (.cond _ _ _) _ _ _; first | (refine WPA.ifT ?_) | (refine WPA.ifF ?_) | (refine WPA.ifYes ?_ ?_; (first | assumption | omega | (refine fun h => h ?_; assumption) | (simp only [List.length_append, List.length_cons, List.length_nil, List.length_set] <;> omega))) | (refine WPA.ifNo ?_ ?_; (first | assumption | omega | (refine fun h => h ?_; assumption) | (simp only [List.length_append, List.length_cons, List.length_nil, List.length_set] <;> omega))) | (refine WPA.ifBt ?_ ?_; assumption) | (refine WPA.ifBf ?_ ?_; assumption) | (refine WPA.ifBnt ?_ ?_; assumption) | (refine WPA.ifBnf ?_ ?_; assumption) | (refine WPA.ifs ?_ ?_ <;> intro hc) | (refine WPA.ifB ?_ ?_ <;> intro hc))
    | (guard_target =~ WPA _ _ _ (.region 5 _ true) _ _ _; refine WPA.drawT 11 (.q 0 (.q 1 (.q 2 (.q 3 (.q 4 (.q 5 (.q 6 (.q 7 (.q 8 (.q 9 (.q 10 .fin))))))))))) mixed ?_ ?_; kernel_rfl)
    | (refine WDA.finish (tl := [⟨_, _, _, _, _, _⟩, ⟨_, _, _, _, _, _⟩]) rfl ?_)
    | (refine WDQ.see rfl ?_)
    | (refine WDQ.m rfl rfl ?_ ?_; first | exact trivial | exact rfl | assumption | omega | (refine ⟨?_, ?_⟩ <;> omega) | (simp only [Room, List.length_set, List.length_append, List.length_cons, List.length_nil, List.length_replicate]; omega) | skip)
    | (guard_target =~ WDE _ _ _ _ _ _ _ ⟨_, .call ⟨.value (.func 125), _, _⟩, _, _, _, _⟩ _ _ _; refine WDE.call rfl rfl (Top_trN) ?_ ?_; (intro x w h; first | exact h | exact Ent.drop1.sl h); rintro ⟨⟩)
    | (guard_target =~ WDW _ _ _ _ _ _ _ ⟨_, .call ⟨.value (.func 125), _, _⟩, _, _, _, _⟩ _ _ _; refine WDW.call rfl rfl (Top_trN) ?_; rintro ⟨⟩))
  exact QQ.endc rfl () rfl fun w h => (PileM.fold (l := []) hh hp rfl).sl h.to
theorem Pop_trM {p c : Nat} {l : List Cu} [h : FindK L (PileM ky) p (l, c) L'] (hn : l.length ≤ 100000) (h0 : l ≠ []) (hg : ∀ q ∈ l, CurAt I q (ky q)) :
    Tr Try.prog 106 #[.pointer (some ⟨p, 0, none⟩)] (SL w0 I L) (fun x : Cu × List Cu => .tuple #[.agg #[.slice x.1.1.a x.1.1.n x.1.1.cap, .int .i64 x.1.2], .bool true])
      (fun x w => ((x.1 :: x.2).Perm l ∧ ∀ y ∈ x.2, ¬ ltL (ky y) (ky x.1)) ∧ SL w0 I (PileM ky p (x.2, c) :: L') w) := by
  refine Tr.at h.out (Tr.opn ?_)
  rintro ⟨es, hh, hp⟩
  dsimp only at hp ⊢
  have hl : es.length = l.length := by have := hp.length_eq; simpa using this
  have hpos : 0 < l.length := List.length_pos_iff.2 h0
  have hne : es ≠ [] := List.length_pos_iff.1 (by omega)
  refine Tr.intro Try.func106 rfl Try.ntmps106 rfl ?_
  repeat' (first
    | (refine WLA.m rfl rfl ?_ ?_; first | exact trivial | exact rfl | assumption | omega | (refine ⟨?_, ?_⟩ <;> omega) | (simp only [Room, List.length_set, List.length_append, List.length_cons, List.length_nil, List.length_replicate]; omega) | skip)
    | (refine WLA.nil ?_)
    | (refine WPA.region ?_)
    | (refine WPA.seq ?_)
    | (refine QQ.seq_normal ?_)
    | (refine WPA.skip ?_)
    | (refine WPA.block ?_)
    | (refine WPA.ret ?_)
    | (refine WPA.exit ?_)
    | (refine QQ.seq_ret ?_)
    | (refine QQ.seq_exit ?_)
    | (refine QQ.block_normal ?_)
    | (refine QQ.block_ret ?_)
    | (refine QQ.block_hit ?_)
    | (refine QQ.block_miss rfl ?_)
    | (refine QQ.loop_ret ?_)
    | (refine QQ.loop_exit ?_)
    | (guard_target =~ WLA _ _ _ _ _ (⟨_, .call ⟨.value (.func 125), _, _⟩, _, _, _, _⟩ :: _) _ _; first | (refine WLA.call rfl rfl (Top_trR (by omega) hne) ?_; rintro ⟨⟩; refine WLA.opn fun s => ?_) | (refine WLA.call0 rfl (Top_trR (by omega) hne) ?_; rintro ⟨⟩; refine WLA.opn fun s => ?_))
    | (refine WLA.st rfl ?_ ?_; first | exact trivial | exact rfl | assumption | omega | (refine ⟨?_, ?_⟩ <;> omega) | (simp only [Room, List.length_set, List.length_append, List.length_cons, List.length_nil, List.length_replicate]; omega) | skip)
    | (refine WLA.x rfl rfl ?_ (fun x => ?_); first | exact trivial | exact rfl | assumption | omega | (refine ⟨?_, ?_⟩ <;> omega) | (simp only [Room, List.length_set, List.length_append, List.length_cons, List.length_nil, List.length_replicate]; omega) | skip)
    | (refine WLA.x0 rfl ?_ (fun x => ?_); first | exact trivial | exact rfl | assumption | omega | (refine ⟨?_, ?_⟩ <;> omega) | (simp only [Room, List.length_set, List.length_append, List.length_cons, List.length_nil, List.length_replicate]; omega) | skip)
    | (guard_target =~ WPA _ _ _ (.cond _ _ _) _ _ _; first | (refine WPA.ifT ?_) | (refine WPA.ifF ?_) | (refine WPA.ifYes ?_ ?_; (first | assumption | omega | (refine fun h => h ?_; assumption) | (simp only [List.length_append, List.length_cons, List.length_nil, List.length_set] <;> omega))) | (refine WPA.ifNo ?_ ?_; (first | assumption | omega | (refine fun h => h ?_; assumption) | (simp only [List.length_append, List.length_cons, List.length_nil, List.length_set] <;> omega))) | (refine WPA.ifBt ?_ ?_; assumption) | (refine WPA.ifBf ?_ ?_; assumption) | (refine WPA.ifBnt ?_ ?_; assumption) | (refine WPA.ifBnf ?_ ?_; assumption) | (refine WPA.ifs ?_ ?_ <;> intro hc) | (refine WPA.ifB ?_ ?_ <;> intro hc))
    | (guard_target =~ WPA _ _ _ (.region 5 _ true) _ _ _; refine WPA.drawT 11 (.q 0 (.q 1 (.q 2 (.q 3 (.q 4 (.q 5 (.q 6 (.q 7 (.q 8 (.q 9 (.q 10 .fin))))))))))) mixed ?_ ?_; kernel_rfl)
    | (refine WDA.finish (tl := [⟨_, _, _, _, _, _⟩, ⟨_, _, _, _, _, _⟩]) rfl ?_)
    | (refine WDQ.see rfl ?_)
    | (refine WDQ.m rfl rfl ?_ ?_; first | exact trivial | exact rfl | assumption | omega | (refine ⟨?_, ?_⟩ <;> omega) | (simp only [Room, List.length_set, List.length_append, List.length_cons, List.length_nil, List.length_replicate]; omega) | skip)
    | (guard_target =~ WDE _ _ _ _ _ _ _ ⟨_, .call ⟨.value (.func 125), _, _⟩, _, _, _, _⟩ _ _ _; refine WDE.call rfl rfl (Top_trR (by omega) hne) ?_ ?_; (intro x w h; first | exact h | exact Ent.drop1.sl h); rintro ⟨⟩; refine WLA.opn fun s => ?_)
    | (guard_target =~ WDW _ _ _ _ _ _ _ ⟨_, .call ⟨.value (.func 125), _, _⟩, _, _, _, _⟩ _ _ _; refine WDW.call rfl rfl (Top_trR (by omega) hne) ?_; rintro ⟨⟩; refine WLA.opn fun s => ?_))
  have hes : 0 < es.length := by omega
  have ez : ((es.length : Int) - 1).toNat = es.length - 1 := by omega
  refine WLA.ent (Ent.swap.trans ((Ent.ownCut (sz := 3) ((es.length : Int) - 1) (by simp; omega)).trans Ent.swap)) ?_
  have el : ((es.set (Int.toNat 0) (((at_ es ((es.length : Int) - 1)).1.1, (at_ es ((es.length : Int) - 1)).1.2), (at_ es ((es.length : Int) - 1)).2)).set ((es.length : Int) - 1).toNat ((SV.nil, 0), 0)).take ((es.length : Int) - 1).toNat = (es.set 0 (atE es (es.length - 1))).take (es.length - 1) := by
    rw [List.take_set, List.set_eq_of_length_le (by rw [List.length_take, List.length_set]; omega), ez]
    have ea : at_ es ((es.length : Int) - 1) = atE es (es.length - 1) := by unfold at_ atE; rw [ez]; rfl
    rw [ea]; rfl
  rw [el]
  have hd := heap_down hh hes
  have hpp := pop_perm hes
  have hlen : ((es.set 0 (atE es (es.length - 1))).take (es.length - 1)).length = es.length - 1 := by rw [List.length_take, List.length_set]; omega
  generalize hrest : (es.set 0 (atE es (es.length - 1))).take (es.length - 1) = rest at hd hpp hlen
  have hgr : ∀ e ∈ rest, CurAt I e.1 (ky e.1) := fun e he => hg _ (hp.subset (List.mem_map.2 ⟨e, hpp.subset (List.mem_cons_of_mem _ he), rfl⟩))
  repeat' (first
    | (refine WLA.m rfl rfl ?_ ?_; first | exact trivial | exact rfl | assumption | omega | (refine ⟨?_, ?_⟩ <;> omega) | (simp only [Room, List.length_set, List.length_append, List.length_cons, List.length_nil, List.length_replicate]; omega) | skip)
    | (refine WLA.nil ?_)
    | (refine WPA.region ?_)
    | (refine WPA.seq ?_)
    | (refine QQ.seq_normal ?_)
    | (refine WPA.skip ?_)
    | (refine WPA.block ?_)
    | (refine WPA.ret ?_)
    | (refine WPA.exit ?_)
    | (refine QQ.seq_ret ?_)
    | (refine QQ.seq_exit ?_)
    | (refine QQ.block_normal ?_)
    | (refine QQ.block_ret ?_)
    | (refine QQ.block_hit ?_)
    | (refine QQ.block_miss rfl ?_)
    | (refine QQ.loop_ret ?_)
    | (refine QQ.loop_exit ?_)
    | (guard_target =~ WLA _ _ _ _ _ (⟨_, .call ⟨.value (.func 126), _, _⟩, _, _, _, _⟩ :: _) _ _; first | (refine WLA.call rfl rfl (down_tr (by rw [hlen]; omega) hgr (by rw [hlen]; exact hd)) ?_; rintro ⟨es', hp', hh'⟩) | (refine WLA.call0 rfl (down_tr (by rw [hlen]; omega) hgr (by rw [hlen]; exact hd)) ?_; rintro ⟨es', hp', hh'⟩))
    | (refine WLA.st rfl ?_ ?_; first | exact trivial | exact rfl | assumption | omega | (refine ⟨?_, ?_⟩ <;> omega) | (simp only [Room, List.length_set, List.length_append, List.length_cons, List.length_nil, List.length_replicate]; omega) | skip)
    | (refine WLA.x rfl rfl ?_ (fun x => ?_); first | exact trivial | exact rfl | assumption | omega | (refine ⟨?_, ?_⟩ <;> omega) | (simp only [Room, List.length_set, List.length_append, List.length_cons, List.length_nil, List.length_replicate]; omega) | skip)
    | (refine WLA.x0 rfl ?_ (fun x => ?_); first | exact trivial | exact rfl | assumption | omega | (refine ⟨?_, ?_⟩ <;> omega) | (simp only [Room, List.length_set, List.length_append, List.length_cons, List.length_nil, List.length_replicate]; omega) | skip)
    | (guard_target =~ WPA _ _ _ (.cond _ _ _) _ _ _; first | (refine WPA.ifT ?_) | (refine WPA.ifF ?_) | (refine WPA.ifYes ?_ ?_; (first | assumption | omega | (refine fun h => h ?_; assumption) | (simp only [List.length_append, List.length_cons, List.length_nil, List.length_set] <;> omega))) | (refine WPA.ifNo ?_ ?_; (first | assumption | omega | (refine fun h => h ?_; assumption) | (simp only [List.length_append, List.length_cons, List.length_nil, List.length_set] <;> omega))) | (refine WPA.ifBt ?_ ?_; assumption) | (refine WPA.ifBf ?_ ?_; assumption) | (refine WPA.ifBnt ?_ ?_; assumption) | (refine WPA.ifBnf ?_ ?_; assumption) | (refine WPA.ifs ?_ ?_ <;> intro hc) | (refine WPA.ifB ?_ ?_ <;> intro hc))
    | (guard_target =~ WPA _ _ _ (.region 5 _ true) _ _ _; refine WPA.drawT 11 (.q 0 (.q 1 (.q 2 (.q 3 (.q 4 (.q 5 (.q 6 (.q 7 (.q 8 (.q 9 (.q 10 .fin))))))))))) mixed ?_ ?_; kernel_rfl)
    | (refine WDA.finish (tl := [⟨_, _, _, _, _, _⟩, ⟨_, _, _, _, _, _⟩]) rfl ?_)
    | (refine WDQ.see rfl ?_)
    | (refine WDQ.m rfl rfl ?_ ?_; first | exact trivial | exact rfl | assumption | omega | (refine ⟨?_, ?_⟩ <;> omega) | (simp only [Room, List.length_set, List.length_append, List.length_cons, List.length_nil, List.length_replicate]; omega) | skip)
    | (guard_target =~ WDE _ _ _ _ _ _ _ ⟨_, .call ⟨.value (.func 126), _, _⟩, _, _, _, _⟩ _ _ _; refine WDE.call rfl rfl (down_tr (by rw [hlen]; omega) hgr (by rw [hlen]; exact hd)) ?_ ?_; (intro x w h; first | exact h | exact Ent.drop1.sl h); rintro ⟨es', hp', hh'⟩)
    | (guard_target =~ WDW _ _ _ _ _ _ _ ⟨_, .call ⟨.value (.func 126), _, _⟩, _, _, _, _⟩ _ _ _; refine WDW.call rfl rfl (down_tr (by rw [hlen]; omega) hgr (by rw [hlen]; exact hd)) ?_; rintro ⟨es', hp', hh'⟩))
  have ha0 : at_ es 0 = atE es 0 := rfl
  refine QQ.endc rfl ((at_ es 0).1, es'.map Prod.fst) rfl fun w h => ⟨⟨?_, ?_⟩, (PileM.fold (z := c) hh' (List.Perm.refl _) rfl).sl h.to⟩
  · dsimp only
    rw [ha0]
    have h1 := (hp'.cons (atE es 0)).trans hpp
    exact (h1.map Prod.fst).trans hp
  · intro y hy
    dsimp only at hy ⊢
    obtain ⟨e, he, rfl⟩ := List.mem_map.1 hy
    have hm : e ∈ es := hpp.subset (List.mem_cons_of_mem _ (hp'.subset he))
    obtain ⟨j, hj, e1⟩ := List.getElem_of_mem hm
    have := heap_least hh j hj
    rw [atE_get _ _ hj, e1] at this
    rw [ha0]
    exact fun hlt => this (.inl hlt)
theorem Drain_tr {v : Value} (w0 : World) (I : Foot) [CellsV v [v]] : Tr Try.prog 69 #[v] (SL w0 I L) (fun b : Nat => .func (.func 105) #[] #[.pointer (some ⟨b, 0, none⟩)]) (fun b => SL w0 I (Bk b 90 [v] :: L)) := by
  refine Tr.intro Try.func69 rfl Try.ntmps69 rfl ?_
  repeat' (first
    | (refine WLA.m rfl rfl ?_ ?_; first | exact trivial | exact rfl | assumption | omega | (refine ⟨?_, ?_⟩ <;> omega) | (simp only [Room, List.length_set, List.length_append, List.length_cons, List.length_nil, List.length_replicate]; omega) | skip)
    | (refine WLA.nil ?_)
    | (refine WPA.region ?_)
    | (refine WPA.seq ?_)
    | (refine QQ.seq_normal ?_)
    | (refine WPA.skip ?_)
    | (refine WPA.block ?_)
    | (refine WPA.ret ?_)
    | (refine WPA.exit ?_)
    | (refine QQ.seq_ret ?_)
    | (refine QQ.seq_exit ?_)
    | (refine QQ.block_normal ?_)
    | (refine QQ.block_ret ?_)
    | (refine QQ.block_hit ?_)
    | (refine QQ.block_miss rfl ?_)
    | (refine QQ.loop_ret ?_)
    | (refine QQ.loop_exit ?_)
    | (refine WLA.st rfl ?_ ?_; first | exact trivial | exact rfl | assumption | omega | (refine ⟨?_, ?_⟩ <;> omega) | (simp only [Room, List.length_set, List.length_append, List.length_cons, List.length_nil, List.length_replicate]; omega) | skip)
    | (refine WLA.x rfl rfl ?_ (fun x => ?_); first | exact trivial | exact rfl | assumption | omega | (refine ⟨?_, ?_⟩ <;> omega) | (simp only [Room, List.length_set, List.length_append, List.length_cons, List.length_nil, List.length_replicate]; omega) | skip)
    | (refine WLA.x0 rfl ?_ (fun x => ?_); first | exact trivial | exact rfl | assumption | omega | (refine ⟨?_, ?_⟩ <;> omega) | (simp only [Room, List.length_set, List.length_append, List.length_cons, List.length_nil, List.length_replicate]; omega) | skip)
    | (guard_target =~ WPA _ _ _ (.cond _ _ _) _ _ _; first | (refine WPA.ifT ?_) | (refine WPA.ifF ?_) | (refine WPA.ifYes ?_ ?_; (first | assumption | omega | (refine fun h => h ?_; assumption) | (simp only [List.length_append, List.length_cons, List.length_nil, List.length_set] <;> omega))) | (refine WPA.ifNo ?_ ?_; (first | assumption | omega | (refine fun h => h ?_; assumption) | (simp only [List.length_append, List.length_cons, List.length_nil, List.length_set] <;> omega))) | (refine WPA.ifBt ?_ ?_; assumption) | (refine WPA.ifBf ?_ ?_; assumption) | (refine WPA.ifBnt ?_ ?_; assumption) | (refine WPA.ifBnf ?_ ?_; assumption) | (refine WPA.ifs ?_ ?_ <;> intro hc) | (refine WPA.ifB ?_ ?_ <;> intro hc)))
  exact QQ.end_ rfl _ rfl fun w h => h.to
/-- The iterator over a pile: the rounds' state is the caller's; the rounds may push. -/
theorem Drain1_tr {p Bx lb : Nat} {τ ω : Type} (Lk : τ → List HP) (ls : τ → List Cu × Nat) (m : τ → Nat) (C : τ → Prop) (B : ω → World → Prop) (hfew : ∀ x, C x → (ls x).1.length ≤ 100000 ∧ ∀ q ∈ (ls x).1, CurAt I q (ky q))
    (hy : ∀ x q l', C x → (q :: l').Perm (ls x).1 → (∀ y ∈ l', ¬ ltL (ky y) (ky q)) → YTr Try.prog lb #[.agg #[.slice q.1.a q.1.n q.1.cap, .int .i64 q.2]] (SL w0 I (PileM ky p (l', (ls x).2) :: Bk Bx 90 [.pointer (some ⟨p, 0, none⟩)] :: Lk x)) (fun y : τ ⊕ ω => .bool y.isLeft)
      (fun y w => match y with | .inl x' => (C x' ∧ m x' < m x) ∧ SL w0 I (PileM ky p (ls x') :: Bk Bx 90 [.pointer (some ⟨p, 0, none⟩)] :: Lk x') w | .inr z => B z w))
    (x0 : τ) (hC : C x0) :
    Tr Try.prog 105 #[.func (.yield lb) #[] #[], .pointer (some ⟨Bx, 0, none⟩)] (SL w0 I (PileM ky p (ls x0) :: Bk Bx 90 [.pointer (some ⟨p, 0, none⟩)] :: Lk x0)) (fun _ : τ ⊕ ω => .tuple #[])
      (fun y w => match y with | .inl x' => (C x' ∧ (ls x').1 = []) ∧ SL w0 I (PileM ky p (ls x') :: Bk Bx 90 [.pointer (some ⟨p, 0, none⟩)] :: Lk x') w | .inr z => B z w) := by
  refine Tr.intro Try.func105 rfl Try.ntmps105 rfl ?_
  repeat' (first
    | (refine WLA.m rfl rfl ?_ ?_; first | exact trivial | exact rfl | assumption | omega | (refine ⟨?_, ?_⟩ <;> omega) | (simp only [Room, List.length_set, List.length_append, List.length_cons, List.length_nil, List.length_replicate]; omega) | skip)
    | (refine WLA.nil ?_)
    | (refine WPA.region ?_)
    | (refine WPA.seq ?_)
    | (refine QQ.seq_normal ?_)
    | (refine WPA.skip ?_)
    | (refine WPA.block ?_)
    | (refine WPA.ret ?_)
    | (refine WPA.exit ?_)
    | (refine QQ.seq_ret ?_)
    | (refine QQ.seq_exit ?_)
    | (refine QQ.block_normal ?_)
    | (refine QQ.block_ret ?_)
    | (refine QQ.block_hit ?_)
    | (refine QQ.block_miss rfl ?_)
    | (refine QQ.loop_ret ?_)
    | (refine QQ.loop_exit ?_)
    | (refine WLA.st rfl ?_ ?_; first | exact trivial | exact rfl | assumption | omega | (refine ⟨?_, ?_⟩ <;> omega) | (simp only [Room, List.length_set, List.length_append, List.length_cons, List.length_nil, List.length_replicate]; omega) | skip)
    | (refine WLA.x rfl rfl ?_ (fun x => ?_); first | exact trivial | exact rfl | assumption | omega | (refine ⟨?_, ?_⟩ <;> omega) | (simp only [Room, List.length_set, List.length_append, List.length_cons, List.length_nil, List.length_replicate]; omega) | skip)
    | (refine WLA.x0 rfl ?_ (fun x => ?_); first | exact trivial | exact rfl | assumption | omega | (refine ⟨?_, ?_⟩ <;> omega) | (simp only [Room, List.length_set, List.length_append, List.length_cons, List.length_nil, List.length_replicate]; omega) | skip)
    | (guard_target =~ WPA _ _ _ (.cond _ _ _) _ _ _; first | (refine WPA.ifT ?_) | (refine WPA.ifF ?_) | (refine WPA.ifYes ?_ ?_; (first | assumption | omega | (refine fun h => h ?_; assumption) | (simp only [List.length_append, List.length_cons, List.length_nil, List.length_set] <;> omega))) | (refine WPA.ifNo ?_ ?_; (first | assumption | omega | (refine fun h => h ?_; assumption) | (simp only [List.length_append, List.length_cons, List.length_nil, List.length_set] <;> omega))) | (refine WPA.ifBt ?_ ?_; assumption) | (refine WPA.ifBf ?_ ?_; assumption) | (refine WPA.ifBnt ?_ ?_; assumption) | (refine WPA.ifBnf ?_ ?_; assumption) | (refine WPA.ifs ?_ ?_ <;> intro hc) | (refine WPA.ifB ?_ ?_ <;> intro hc))
    | (guard_target =~ WLA _ _ _ _ _ (⟨_, _, _, _, _, some _⟩ :: _) _ _; first | (refine WLA.no rfl rfl ?_) | (refine WLA.yes rfl rfl ?_ ?_; (first | assumption | omega | (refine fun h => h ?_; assumption) | (simp only [List.length_append, List.length_cons, List.length_nil, List.length_set] <;> omega))) | (refine WLA.nay rfl rfl ?_ ?_; (first | assumption | omega | (refine fun h => h ?_; assumption) | (simp only [List.length_append, List.length_cons, List.length_nil, List.length_set] <;> omega))) | (refine WLA.both rfl rfl ?_ ?_ <;> intro hg) | (refine WLA.bothB rfl rfl ?_ ?_ <;> intro hg)))
  refine WPA.loopS (σ := τ) (fun x => [(0, .func (.yield lb) #[] #[]), (1, .pointer (some ⟨Bx, 0, none⟩))]) C
    (fun x => SL w0 I (PileM ky p (ls x) :: Bk Bx 90 [.pointer (some ⟨p, 0, none⟩)] :: Lk x)) m x0 ⟨rfl, rfl, trivial⟩ hC (fun w h => h) ?_
  intro u ρ hCx
  refine WPA.mono (A := SL w0 I (PileM ky p (ls u) :: Bk Bx 90 [.pointer (some ⟨p, 0, none⟩)] :: Lk u)) (fun w h => h) ?_
  obtain ⟨hn, hg⟩ := hfew u hCx
  have hyu := hy u
  generalize hls : ls u = lu at hn hg hyu
  obtain ⟨l, c⟩ := lu
  dsimp only at hn hg hyu
  by_cases h0 : l = []
  · subst h0
    repeat' (first
      | (refine WLA.m rfl rfl ?_ ?_; first | exact trivial | exact rfl | assumption | omega | (refine ⟨?_, ?_⟩ <;> omega) | (simp only [Room, List.length_set, List.length_append, List.length_cons, List.length_nil, List.length_replicate]; omega) | skip)
      | (refine WLA.nil ?_)
      | (refine WPA.region ?_)
      | (refine WPA.seq ?_)
      | (refine QQ.seq_normal ?_)
      | (refine WPA.skip ?_)
      | (refine WPA.block ?_)
      | (refine WPA.ret ?_)
      | (refine WPA.exit ?_)
      | (refine QQ.seq_ret ?_)
      | (refine QQ.seq_exit ?_)
      | (refine QQ.block_normal ?_)
      | (refine QQ.block_ret ?_)
      | (refine QQ.block_hit ?_)
      | (refine QQ.block_miss rfl ?_)
      | (refine QQ.loop_ret ?_)
      | (refine QQ.loop_exit ?_)
      | (guard_target =~ WLA _ _ _ _ _ (⟨_, .call ⟨.value (.func 106), _, _⟩, _, _, _, _⟩ :: _) _ _; first | (refine WLA.call rfl rfl (Pop_trN (ky := ky)) ?_; rintro ⟨⟩) | (refine WLA.call0 rfl (Pop_trN (ky := ky)) ?_; rintro ⟨⟩))
      | (refine WLA.st rfl ?_ ?_; first | exact trivial | exact rfl | assumption | omega | (refine ⟨?_, ?_⟩ <;> omega) | (simp only [Room, List.length_set, List.length_append, List.length_cons, List.length_nil, List.length_replicate]; omega) | skip)
      | (refine WLA.x rfl rfl ?_ (fun x => ?_); first | exact trivial | exact rfl | assumption | omega | (refine ⟨?_, ?_⟩ <;> omega) | (simp only [Room, List.length_set, List.length_append, List.length_cons, List.length_nil, List.length_replicate]; omega) | skip)
      | (refine WLA.x0 rfl ?_ (fun x => ?_); first | exact trivial | exact rfl | assumption | omega | (refine ⟨?_, ?_⟩ <;> omega) | (simp only [Room, List.length_set, List.length_append, List.length_cons, List.length_nil, List.length_replicate]; omega) | skip)
      | (guard_target =~ WPA _ _ _ (.cond _ _ _) _ _ _; first | (refine WPA.ifT ?_) | (refine WPA.ifF ?_) | (refine WPA.ifYes ?_ ?_; (first | assumption | omega | (refine fun h => h ?_; assumption) | (simp only [List.length_append, List.length_cons, List.length_nil, List.length_set] <;> omega))) | (refine WPA.ifNo ?_ ?_; (first | assumption | omega | (refine fun h => h ?_; assumption) | (simp only [List.length_append, List.length_cons, List.length_nil, List.length_set] <;> omega))) | (refine WPA.ifBt ?_ ?_; assumption) | (refine WPA.ifBf ?_ ?_; assumption) | (refine WPA.ifBnt ?_ ?_; assumption) | (refine WPA.ifBnf ?_ ?_; assumption) | (refine WPA.ifs ?_ ?_ <;> intro hc) | (refine WPA.ifB ?_ ?_ <;> intro hc))
      | (guard_target =~ WLA _ _ _ _ _ (⟨_, _, _, _, _, some _⟩ :: _) _ _; first | (refine WLA.no rfl rfl ?_) | (refine WLA.yes rfl rfl ?_ ?_; (first | assumption | omega | (refine fun h => h ?_; assumption) | (simp only [List.length_append, List.length_cons, List.length_nil, List.length_set] <;> omega))) | (refine WLA.nay rfl rfl ?_ ?_; (first | assumption | omega | (refine fun h => h ?_; assumption) | (simp only [List.length_append, List.length_cons, List.length_nil, List.length_set] <;> omega))) | (refine WLA.both rfl rfl ?_ ?_ <;> intro hg) | (refine WLA.bothB rfl rfl ?_ ?_ <;> intro hg)))
    refine QQ.end_ rfl (.inl u) rfl fun w h => ⟨⟨hCx, by rw [hls]⟩, ?_⟩
    rw [hls]
    exact h.to
  · skip
    repeat' (first
      | (refine WLA.m rfl rfl ?_ ?_; first | exact trivial | exact rfl | assumption | omega | (refine ⟨?_, ?_⟩ <;> omega) | (simp only [Room, List.length_set, List.length_append, List.length_cons, List.length_nil, List.length_replicate]; omega) | skip)
      | (refine WLA.nil ?_)
      | (refine WPA.region ?_)
      | (refine WPA.seq ?_)
      | (refine QQ.seq_normal ?_)
      | (refine WPA.skip ?_)
      | (refine WPA.block ?_)
      | (refine WPA.ret ?_)
      | (refine WPA.exit ?_)
      | (refine QQ.seq_ret ?_)
      | (refine QQ.seq_exit ?_)
      | (refine QQ.block_normal ?_)
      | (refine QQ.block_ret ?_)
      | (refine QQ.block_hit ?_)
      | (refine QQ.block_miss rfl ?_)
      | (refine QQ.loop_ret ?_)
      | (refine QQ.loop_exit ?_)
      | (guard_target =~ WLA _ _ _ _ _ (⟨_, .call ⟨.value (.func 106), _, _⟩, _, _, _, _⟩ :: _) _ _; first | (refine WLA.call rfl rfl (Pop_trM hn h0 hg) ?_; rintro ⟨q, l'⟩; refine WLA.pure fun hq => ?_; dsimp only at hq ⊢) | (refine WLA.call0 rfl (Pop_trM hn h0 hg) ?_; rintro ⟨q, l'⟩; refine WLA.pure fun hq => ?_; dsimp only at hq ⊢))
      | (guard_target =~ WLA _ _ _ _ _ (⟨_, .call ⟨.value (.tmp _), _, _⟩, _, _, _, _⟩ :: _) _ _; refine WLA.yield rfl rfl ((hyu q l' hCx hq.1 hq.2).ent) ?_; rintro (x' | z))
      | (refine WLA.st rfl ?_ ?_; first | exact trivial | exact rfl | assumption | omega | (refine ⟨?_, ?_⟩ <;> omega) | (simp only [Room, List.length_set, List.length_append, List.length_cons, List.length_nil, List.length_replicate]; omega) | skip)
      | (refine WLA.x rfl rfl ?_ (fun x => ?_); first | exact trivial | exact rfl | assumption | omega | (refine ⟨?_, ?_⟩ <;> omega) | (simp only [Room, List.length_set, List.length_append, List.length_cons, List.length_nil, List.length_replicate]; omega) | skip)
      | (refine WLA.x0 rfl ?_ (fun x => ?_); first | exact trivial | exact rfl | assumption | omega | (refine ⟨?_, ?_⟩ <;> omega) | (simp only [Room, List.length_set, List.length_append, List.length_cons, List.length_nil, List.length_replicate]; omega) | skip)
      | (guard_target =~ WPA _ _ _ (.cond _ _ _) _ _ _; first | (refine WPA.ifT ?_) | (refine WPA.ifF ?_) | (refine WPA.ifYes ?_ ?_; (first | assumption | omega | (refine fun h => h ?_; assumption) | (simp only [List.length_append, List.length_cons, List.length_nil, List.length_set] <;> omega))) | (refine WPA.ifNo ?_ ?_; (first | assumption | omega | (refine fun h => h ?_; assumption) | (simp only [List.length_append, List.length_cons, List.length_nil, List.length_set] <;> omega))) | (refine WPA.ifBt ?_ ?_; assumption) | (refine WPA.ifBf ?_ ?_; assumption) | (refine WPA.ifBnt ?_ ?_; assumption) | (refine WPA.ifBnf ?_ ?_; assumption) | (refine WPA.ifs ?_ ?_ <;> intro hc) | (refine WPA.ifB ?_ ?_ <;> intro hc))
      | (guard_target =~ WLA _ _ _ _ _ (⟨_, _, _, _, _, some _⟩ :: _) _ _; first | (refine WLA.no rfl rfl ?_) | (refine WLA.yes rfl rfl ?_ ?_; (first | assumption | omega | (refine fun h => h ?_; assumption) | (simp only [List.length_append, List.length_cons, List.length_nil, List.length_set] <;> omega))) | (refine WLA.nay rfl rfl ?_ ?_; (first | assumption | omega | (refine fun h => h ?_; assumption) | (simp only [List.length_append, List.length_cons, List.length_nil, List.length_set] <;> omega))) | (refine WLA.both rfl rfl ?_ ?_ <;> intro hg) | (refine WLA.bothB rfl rfl ?_ ?_ <;> intro hg)))
    · refine QQ.pre fun hC' => ?_
      exact QQ.loopS x' ⟨rfl, rfl, trivial⟩ hC'.1 hC'.2 (fun w h => h)
    · exact QQ.end_ rfl (.inr z) rfl fun w h => h
end
end Go.Proofs.Ytfhelnalegochaa
