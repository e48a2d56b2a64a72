/- Texts that TallyFree_law leans on, part 8. Conditions: none. -/
import Derived.Test.YtamnobjdgjbmbaaGreatQf7
namespace Go.Proofs.YtamnobjdgjbmbaaGreat
open Go Go.Fw Go.RowKit
set_option linter.unusedVariables false
set_option linter.unusedSimpArgs false
set_option maxRecDepth 100000
set_option maxHeartbeats 16000000
set_option synthInstance.maxHeartbeats 200000
set_option synthInstance.maxSize 100000
attribute [local irreducible] WPA WLA WDA WDQ WDE QQ seqQ blockQ loopQ fnQ OpP OpT Tr TrP SL SLd OwnS LitS Bk BkE Ob
theorem atE_get (l : List E) (k : Nat) (h : k < l.length) : atE l k = l[k] := by simp [atE, List.getD_eq_getElem?_getD, h]
section
variable {ky : Cu → List Int}
theorem heap_up {es : List E} (h : HeapL ky es) (a : E) : UpF ky (atE (es ++ [a])) (es.length + 1) es.length := by
  refine ⟨fun k h0 hk hne => ?_, fun k h0 hk hp _ => ?_⟩
  · have hk' : k < es.length := by omega
    have hp : par k < es.length := by unfold par; omega
    have := h k h0 hk'
    have e : ∀ q, q < es.length → atE (es ++ [a]) q = atE es q := fun q hq => by
      simp [atE, List.getD_eq_getElem?_getD, List.getElem?_append, hq]
    rw [e k hk', e _ hp]; exact this
  · unfold par at hp; omega
theorem heap_down {es : List E} (hh : HeapL ky es) (hne : 0 < es.length) : DownF ky (atE ((es.set 0 (atE es (es.length - 1))).take (es.length - 1))) (es.length - 1) 0 := by
  refine ⟨fun k h0 hk hp => ?_, fun k _ _ _ h => by omega⟩
  have hpk : par k < k := by unfold par; omega
  have e : ∀ q, q < es.length - 1 → q ≠ 0 → atE ((es.set 0 (atE es (es.length - 1))).take (es.length - 1)) q = atE es q := fun q hq h0 => by
    simp only [atE, List.getD_eq_getElem?_getD, List.getElem?_take, hq, if_true, List.getElem?_set, show ¬ 0 = q by omega, if_false]
  rw [e k hk (by omega), e _ (by omega) hp]
  exact hh k h0 (by omega)
theorem pop_perm {es : List E} (hne : 0 < es.length) : (atE es 0 :: ((es.set 0 (atE es (es.length - 1))).take (es.length - 1))).Perm es := by
  cases es with
  | nil => simp at hne
  | cons a t =>
    have e0 : atE (a :: t) 0 = a := rfl
    simp only [List.length_cons, Nat.add_sub_cancel, List.set_cons_zero, e0]
    refine List.Perm.cons a ?_
    rcases List.eq_nil_or_concat t with rfl | ⟨t', b, rfl⟩
    · simp
    · have e : atE (a :: (t' ++ [b])) (t' ++ [b]).length = b := by simp [atE, List.getD_eq_getElem?_getD]
      rw [List.concat_eq_append, e]
      simp only [List.length_append, List.length_singleton, List.take_succ_cons]
      rw [List.take_left]
      exact (List.perm_append_singleton b t').symm
end
def PileM (ky : Cu → List Int) (p : Nat) (x : List Cu × Nat) : HP := exH fun es : List E => pureH (HeapL ky es ∧ (es.map Prod.fst).Perm x.1) (PileR p (es, (x.2 : Int)))
instance {ky : Cu → List Int} {p : Nat} {x : List Cu × Nat} : Opn (PileM ky p x) { es : List E // HeapL ky es ∧ (es.map Prod.fst).Perm x.1 } (fun es L => PileR p (es.1, (x.2 : Int)) :: L) := ⟨fun w0 I L w h => by
  obtain ⟨es, h⟩ := h.exH; exact ⟨⟨es, h.pureH.1⟩, h.pureH.2⟩⟩
theorem PileM.fold {ky : Cu → List Int} {p c : Nat} {z : Int} {l : List Cu} {es : List E} {L : List HP} (h : HeapL ky es) (hp : (es.map Prod.fst).Perm l) (hz : z = c) : Ent (PileR p (es, z) :: L) (PileM ky p (l, c) :: L) := by
  subst hz; exact Ent.ex es (Ent.pure ⟨h, hp⟩ Ent.refl)
section
variable {ky : Cu → List Int} {L L' : List HP} {w0 : World} {I : Foot}
theorem New_trM (ky : Cu → List Int) (w0 : World) (I : Foot) (L : List HP) : Tr Tryz.prog 64 #[] (SL w0 I L) (fun p : Nat => .pointer (some ⟨p, 0, none⟩)) (fun p => SL w0 I (PileM ky p ([], 0) :: L)) :=
  (pNew_tr w0 I L).conv (fun _ h => h) fun p w h => ⟨p, rfl, (PileM.fold (fun k h0 hk => by simp at hk) (by simp) rfl).sl h⟩
theorem Push_trM {p c : Nat} {l : List Cu} {a : Cu} [h : FindK L (PileM ky) p (l, c) L'] (hc : c ≤ 100000) (hn : l.length ≤ 100000) (hg : ∀ q ∈ l, CurAt I q (ky q)) (ha : CurAt I a (ky a)) :
    Tr Tryz.prog 65 #[.pointer (some ⟨p, 0, none⟩), .agg #[.slice a.1.a a.1.n a.1.cap, .int .i64 a.2]] (SL w0 I L) (fun _ : Unit => .tuple #[]) (fun _ => SL w0 I (PileM ky p (a :: l, c + 1) :: L')) := by
  refine Tr.at h.out (Tr.opn ?_)
  rintro ⟨es, hh, hp⟩
  dsimp only at hp ⊢
  have hl : es.length = l.length := by have := hp.length_eq; simpa using this
  refine Tr.opn fun s => ?_
  refine Tr.intro Tryz.func65 rfl Tryz.ntmps65 rfl ?_
  have hu := heap_up hh (a, (c : Int))
  have hge : ∀ e ∈ es ++ [(a, (c : Int))], CurAt I e.1 (ky e.1) := by
    intro e he
    rcases List.mem_append.1 he with he | he
    · exact hg _ (hp.subset (List.mem_map.2 ⟨e, he, rfl⟩))
    · rw [List.mem_singleton.1 he]; exact ha
  repeat' (first | ((first | refine WLA.m rfl rfl ?_ ?_ | refine WDQ.m rfl rfl ?_ ?_ | refine WDP.m rfl rfl ?_ ?_ | refine WLA.st rfl ?_ ?_ | refine WLA.x rfl rfl ?_ (fun x => ?_) | refine WLA.x0 rfl ?_ (fun x => ?_) | refine WDW.x rfl rfl ?_ (fun x => ?_) | refine WDW.st rfl ?_ ?_); first | exact trivial | exact rfl | assumption | omega | (refine ⟨?_, ?_⟩ <;> omega) | (simp only [Room, lenS]; omega) | decide | skip) | (refine Stp.go ?_) | (guard_target =~ WLA _ _ _ _ _ (⟨_, .call ⟨.value (.func 93), _, _⟩, _, _, _, _⟩ :: _) _ _; refine WLA.call rfl rfl (up_tr es.length (by simp only [List.length_append, List.length_singleton]; omega) (by simp) (by simp; omega) hge (by simpa using hu)) ?_; rintro ⟨es', hp', hh'⟩) | (refine WPA.ifT ?_) | (refine WPA.ifF ?_) | ((first | refine WPA.dec ?_); first | refine .inl ⟨by first | assumption | omega | with_reducible rfl | (refine fun h => h ?_; first | assumption | with_reducible rfl) | (simp only [lenS] <;> omega) | decide, ?_⟩ | refine .inr ⟨by first | assumption | omega | with_reducible rfl | (refine fun h => h ?_; first | assumption | with_reducible rfl) | (simp only [lenS] <;> omega) | decide, ?_⟩) | ((first | refine WPA.ifBt ?_ ?_ | refine WPA.ifBnf ?_ ?_); assumption) | ((first | refine WPA.ifBnt ?_ ?_ | refine WPA.ifBf ?_ ?_); assumption) | ((first | refine WPA.ifs ?_ ?_ | refine WPA.ifB ?_ ?_) <;> intro hc) | (guard_target =~ WPA _ _ _ (.region 2 _ true) _ _ _; refine WPA.drawT 13 (.p 0 (.p 1 (.p 2 (.p 3 (.q 4 (.q 5 (.p 6 (.p 7 (.p 8 (.q 9 (.p 10 (.e 11 (.w 12 .fin))))))))))))) mixed ?_ ?_; kernel_rfl) | (refine WDA.finish (tl := [⟨_, _, _, _, _, _⟩, ⟨_, _, _, _, _, _⟩, ⟨_, _, _, _, _, _⟩]) rfl ?_) | (refine WDQ.see rfl ?_) | (refine WDP.see rfl ?_) | (refine WDW.see rfl ?_) | (refine WDE.see rfl ?_) | (refine WDE.alloc rfl rfl (fun w h => h) (fun x => ?_)) | (refine WDE.stE rfl ?_) | (refine WDE.x rfl rfl ?_ ?_ (fun x => ?_); rotate_left 1; (intro x w h; first | exact h | exact Ent.drop1.sl h | exact SL.unI h | exact SL.to h); rotate_left 1; first | exact trivial | exact rfl | assumption | omega | (refine ⟨?_, ?_⟩ <;> omega) | (simp only [Room, lenS]; omega) | decide | skip) | (guard_target =~ WDE _ _ _ _ _ _ _ ⟨_, .call ⟨.value (.func 93), _, _⟩, _, _, _, _⟩ _ _ _; refine WDE.call rfl rfl (up_tr es.length (by simp only [List.length_append, List.length_singleton]; omega) (by simp) (by simp; omega) hge (by simpa using hu)) ?_ ?_; (intro x w h; first | exact h | exact Ent.drop1.sl h | exact SL.unI h | exact SL.to h); rintro ⟨es', hp', hh'⟩) | (guard_target =~ WDW _ _ _ _ _ _ _ ⟨_, .call ⟨.value (.func 93), _, _⟩, _, _, _, _⟩ _ _ _; refine WDW.call rfl rfl (up_tr es.length (by simp only [List.length_append, List.length_singleton]; omega) (by simp) (by simp; omega) hge (by simpa using hu)) ?_; rintro ⟨es', hp', hh'⟩))
  refine QQ.endn rfl () rfl fun w h => (PileM.fold (z := (c : Int) + 1) hh' ?_ (by omega)).sl h.to
  have h1 := hp'.map Prod.fst
  rw [List.map_append] at h1
  exact h1.trans ((List.perm_append_singleton a _).trans (hp.cons a))
theorem Top_trR {p : Nat} {es : List E} {c : Int} [h : FindK L PileR p (es, c) L'] (hn : es.length ≤ 1000000) (h0 : es ≠ []) :
    Tr Tryz.prog 113 #[.pointer (some ⟨p, 0, none⟩)] (SL w0 I L) (fun _ : Unit => .tuple #[.agg #[.slice (at_ es 0).1.1.a (at_ es 0).1.1.n (at_ es 0).1.1.cap, .int .i64 (at_ es 0).1.2], .bool true]) (fun _ => SL w0 I (PileR p (es, c) :: L')) := by
  refine Tr.at h.out ?_
  refine Tr.intro Tryz.func113 rfl Tryz.ntmps113 rfl ?_
  have hpos : 0 < es.length := List.length_pos_iff.2 h0
  have he : ¬ (es.length : Int) = 0 := by omega
  refine WPA.opn fun s => ?_
  repeat' (first | ((first | refine WLA.m rfl rfl ?_ ?_ | refine WLA.st rfl ?_ ?_ | refine WLA.x rfl rfl ?_ (fun x => ?_) | refine WLA.x0 rfl ?_ (fun x => ?_)); first | exact trivial | exact rfl | assumption | omega | (refine ⟨?_, ?_⟩ <;> omega) | (simp only [Room, lenS]; omega) | decide | skip) | (refine Stp.go ?_) | (guard_target =~ WLA _ _ _ _ _ (⟨_, .call ⟨.value (.func 122), _, _⟩, _, _, _, _⟩ :: _) _ _; refine WLA.cq rfl rfl (Len_tr) ?_) | (refine WPA.ifT ?_) | (refine WPA.ifF ?_) | ((first | refine WPA.dec ?_); first | refine .inl ⟨by first | assumption | omega | with_reducible rfl | (refine fun h => h ?_; first | assumption | with_reducible rfl) | (simp only [lenS] <;> omega) | decide, ?_⟩ | refine .inr ⟨by first | assumption | omega | with_reducible rfl | (refine fun h => h ?_; first | assumption | with_reducible rfl) | (simp only [lenS] <;> omega) | decide, ?_⟩) | ((first | refine WPA.ifBt ?_ ?_ | refine WPA.ifBnf ?_ ?_); assumption) | ((first | refine WPA.ifBnt ?_ ?_ | refine WPA.ifBf ?_ ?_); assumption) | ((first | refine WPA.ifs ?_ ?_ | refine WPA.ifB ?_ ?_) <;> intro hc))
  exact QQ.endc rfl () rfl fun w h => h.to
theorem Top_trN {p : Nat} {c : Int} [h : FindK L PileR p (([] : List E), c) L'] :
    Tr Tryz.prog 113 #[.pointer (some ⟨p, 0, none⟩)] (SL w0 I L) (fun _ : Unit => .tuple #[.agg #[.slice none 0 0, .int .i64 0], .bool false]) (fun _ => SL w0 I (PileR p ([], c) :: L')) := by
  refine Tr.at h.out ?_
  refine Tr.intro Tryz.func113 rfl Tryz.ntmps113 rfl ?_
  have he : (([] : List E).length : Int) = 0 := rfl
  repeat' (first | ((first | refine WLA.m rfl rfl ?_ ?_ | refine WLA.st rfl ?_ ?_ | refine WLA.x rfl rfl ?_ (fun x => ?_) | refine WLA.x0 rfl ?_ (fun x => ?_)); first | exact trivial | exact rfl | assumption | omega | (refine ⟨?_, ?_⟩ <;> omega) | (simp only [Room, lenS]; omega) | decide | skip) | (refine Stp.go ?_) | (guard_target =~ WLA _ _ _ _ _ (⟨_, .call ⟨.value (.func 122), _, _⟩, _, _, _, _⟩ :: _) _ _; refine WLA.cq rfl rfl (Len_tr) ?_) | (refine WPA.ifT ?_) | (refine WPA.ifF ?_) | ((first | refine WPA.dec ?_); first | refine .inl ⟨by first | assumption | omega | with_reducible rfl | (refine fun h => h ?_; first | assumption | with_reducible rfl) | (simp only [lenS] <;> omega) | decide, ?_⟩ | refine .inr ⟨by first | assumption | omega | with_reducible rfl | (refine fun h => h ?_; first | assumption | with_reducible rfl) | (simp only [lenS] <;> omega) | decide, ?_⟩) | ((first | refine WPA.ifBt ?_ ?_ | refine WPA.ifBnf ?_ ?_); assumption) | ((first | refine WPA.ifBnt ?_ ?_ | refine WPA.ifBf ?_ ?_); assumption) | ((first | refine WPA.ifs ?_ ?_ | refine WPA.ifB ?_ ?_) <;> intro hc))
  exact QQ.endc rfl () rfl fun w h => h.to
theorem Pop_trN {p c : Nat} [h : FindK L (PileM ky) p (([] : List Cu), c) L'] :
    Tr Tryz.prog 95 #[.pointer (some ⟨p, 0, none⟩)] (SL w0 I L) (fun _ : Unit => .tuple #[.agg #[.slice none 0 0, .int .i64 0], .bool false]) (fun _ => SL w0 I (PileM ky p ([], c) :: L')) := by
  refine Tr.at h.out (Tr.opn ?_)
  rintro ⟨es, hh, hp⟩
  dsimp only at hp ⊢
  have he : es = [] := by have := hp.length_eq; exact List.eq_nil_of_length_eq_zero (by simpa using this)
  subst he
  refine Tr.intro Tryz.func95 rfl Tryz.ntmps95 rfl ?_
  repeat' (first | ((first | refine WLA.m rfl rfl ?_ ?_ | refine WDQ.m rfl rfl ?_ ?_ | refine WLA.st rfl ?_ ?_ | refine WLA.x rfl rfl ?_ (fun x => ?_) | refine WLA.x0 rfl ?_ (fun x => ?_)); first | exact trivial | exact rfl | assumption | omega | (refine ⟨?_, ?_⟩ <;> omega) | (simp only [Room, lenS]; omega) | decide | skip) | (refine Stp.go ?_) | (guard_target =~ WLA _ _ _ _ _ (⟨_, .call ⟨.value (.func 113), _, _⟩, _, _, _, _⟩ :: _) _ _; refine WLA.call rfl rfl (Top_trN) ?_; rintro ⟨⟩) | (refine WPA.ifT ?_) | (refine WPA.ifF ?_) | ((first | refine WPA.dec ?_); first | refine .inl ⟨by first | assumption | omega | with_reducible rfl | (refine fun h => h ?_; first | assumption | with_reducible rfl) | (simp only [lenS] <;> omega) | decide, ?_⟩ | refine .inr ⟨by first | assumption | omega | with_reducible rfl | (refine fun h => h ?_; first | assumption | with_reducible rfl) | (simp only [lenS] <;> omega) | decide, ?_⟩) | ((first | refine WPA.ifBt ?_ ?_ | refine WPA.ifBnf ?_ ?_); assumption) | ((first | refine WPA.ifBnt ?_ ?_ | refine WPA.ifBf ?_ ?_); assumption) | ((first | refine WPA.ifs ?_ ?_ | refine WPA.ifB ?_ ?_) <;> intro hc) | (guard_target =~ WPA _ _ _ (.region 5 _ true) _ _ _; refine WPA.drawT 11 (.q 0 (.q 1 (.q 2 (.q 3 (.q 4 (.q 5 (.q 6 (.q 7 (.q 8 (.q 9 (.q 10 .fin))))))))))) mixed ?_ ?_; kernel_rfl) | (refine WDA.finish (tl := [⟨_, _, _, _, _, _⟩, ⟨_, _, _, _, _, _⟩]) rfl ?_) | (refine WDQ.see rfl ?_) | (guard_target =~ WDE _ _ _ _ _ _ _ ⟨_, .call ⟨.value (.func 113), _, _⟩, _, _, _, _⟩ _ _ _; refine WDE.call rfl rfl (Top_trN) ?_ ?_; (intro x w h; first | exact h | exact Ent.drop1.sl h | exact SL.unI h | exact SL.to h); rintro ⟨⟩) | (guard_target =~ WDW _ _ _ _ _ _ _ ⟨_, .call ⟨.value (.func 113), _, _⟩, _, _, _, _⟩ _ _ _; refine WDW.call rfl rfl (Top_trN) ?_; rintro ⟨⟩))
  exact QQ.endc rfl () rfl fun w h => (PileM.fold (l := []) hh hp rfl).sl h.to
theorem Pop_trM {p c : Nat} {l : List Cu} [h : FindK L (PileM ky) p (l, c) L'] (hn : l.length ≤ 100000) (h0 : l ≠ []) (hg : ∀ q ∈ l, CurAt I q (ky q)) :
    Tr Tryz.prog 95 #[.pointer (some ⟨p, 0, none⟩)] (SL w0 I L) (fun x : Cu × List Cu => .tuple #[.agg #[.slice x.1.1.a x.1.1.n x.1.1.cap, .int .i64 x.1.2], .bool true])
      (fun x w => ((x.1 :: x.2).Perm l ∧ ∀ y ∈ x.2, ¬ ltL (ky y) (ky x.1)) ∧ SL w0 I (PileM ky p (x.2, c) :: L') w) := by
  refine Tr.at h.out (Tr.opn ?_)
  rintro ⟨es, hh, hp⟩
  dsimp only at hp ⊢
  have hl : es.length = l.length := by have := hp.length_eq; simpa using this
  have hpos : 0 < l.length := List.length_pos_iff.2 h0
  have hne : es ≠ [] := List.length_pos_iff.1 (by omega)
  refine Tr.intro Tryz.func95 rfl Tryz.ntmps95 rfl ?_
  repeat' (first | ((first | refine WLA.m rfl rfl ?_ ?_ | refine WDQ.m rfl rfl ?_ ?_ | refine WLA.st rfl ?_ ?_ | refine WLA.x rfl rfl ?_ (fun x => ?_) | refine WLA.x0 rfl ?_ (fun x => ?_)); first | exact trivial | exact rfl | assumption | omega | (refine ⟨?_, ?_⟩ <;> omega) | (simp only [Room, lenS]; omega) | decide | skip) | (refine Stp.go ?_) | (guard_target =~ WLA _ _ _ _ _ (⟨_, .call ⟨.value (.func 113), _, _⟩, _, _, _, _⟩ :: _) _ _; refine WLA.call rfl rfl (Top_trR (by omega) hne) ?_; rintro ⟨⟩; refine WLA.opn fun s => ?_) | (refine WPA.ifT ?_) | (refine WPA.ifF ?_) | ((first | refine WPA.dec ?_); first | refine .inl ⟨by first | assumption | omega | with_reducible rfl | (refine fun h => h ?_; first | assumption | with_reducible rfl) | (simp only [lenS] <;> omega) | decide, ?_⟩ | refine .inr ⟨by first | assumption | omega | with_reducible rfl | (refine fun h => h ?_; first | assumption | with_reducible rfl) | (simp only [lenS] <;> omega) | decide, ?_⟩) | ((first | refine WPA.ifBt ?_ ?_ | refine WPA.ifBnf ?_ ?_); assumption) | ((first | refine WPA.ifBnt ?_ ?_ | refine WPA.ifBf ?_ ?_); assumption) | ((first | refine WPA.ifs ?_ ?_ | refine WPA.ifB ?_ ?_) <;> intro hc) | (guard_target =~ WPA _ _ _ (.region 5 _ true) _ _ _; refine WPA.drawT 11 (.q 0 (.q 1 (.q 2 (.q 3 (.q 4 (.q 5 (.q 6 (.q 7 (.q 8 (.q 9 (.q 10 .fin))))))))))) mixed ?_ ?_; kernel_rfl) | (refine WDA.finish (tl := [⟨_, _, _, _, _, _⟩, ⟨_, _, _, _, _, _⟩]) rfl ?_) | (refine WDQ.see rfl ?_) | (guard_target =~ WDE _ _ _ _ _ _ _ ⟨_, .call ⟨.value (.func 113), _, _⟩, _, _, _, _⟩ _ _ _; refine WDE.call rfl rfl (Top_trR (by omega) hne) ?_ ?_; (intro x w h; first | exact h | exact Ent.drop1.sl h | exact SL.unI h | exact SL.to h); rintro ⟨⟩; refine WLA.opn fun s => ?_) | (guard_target =~ WDW _ _ _ _ _ _ _ ⟨_, .call ⟨.value (.func 113), _, _⟩, _, _, _, _⟩ _ _ _; refine WDW.call rfl rfl (Top_trR (by omega) hne) ?_; rintro ⟨⟩; refine WLA.opn fun s => ?_))
  have hes : 0 < es.length := by omega
  have ez : ((es.length : Int) - 1).toNat = es.length - 1 := by omega
  refine WLA.ent (Ent.swap.trans ((Ent.ownCut (sz := 3) ((es.length : Int) - 1) (by simp; omega)).trans Ent.swap)) ?_
  have el : ((es.set (Int.toNat 0) (((at_ es ((es.length : Int) - 1)).1.1, (at_ es ((es.length : Int) - 1)).1.2), (at_ es ((es.length : Int) - 1)).2)).set ((es.length : Int) - 1).toNat ((SV.nil, 0), 0)).take ((es.length : Int) - 1).toNat = (es.set 0 (atE es (es.length - 1))).take (es.length - 1) := by
    rw [List.take_set, List.set_eq_of_length_le (by rw [List.length_take, List.length_set]; omega), ez]
    have ea : at_ es ((es.length : Int) - 1) = atE es (es.length - 1) := by unfold at_ atE; rw [ez]; rfl
    rw [ea]; rfl
  rw [el]
  have hd := heap_down hh hes
  have hpp := pop_perm hes
  have hlen : ((es.set 0 (atE es (es.length - 1))).take (es.length - 1)).length = es.length - 1 := by rw [List.length_take, List.length_set]; omega
  generalize hrest : (es.set 0 (atE es (es.length - 1))).take (es.length - 1) = rest at hd hpp hlen
  have hgr : ∀ e ∈ rest, CurAt I e.1 (ky e.1) := fun e he => hg _ (hp.subset (List.mem_map.2 ⟨e, hpp.subset (List.mem_cons_of_mem _ he), rfl⟩))
  repeat' (first | ((first | refine WLA.m rfl rfl ?_ ?_ | refine WDQ.m rfl rfl ?_ ?_ | refine WLA.st rfl ?_ ?_ | refine WLA.x rfl rfl ?_ (fun x => ?_) | refine WLA.x0 rfl ?_ (fun x => ?_)); first | exact trivial | exact rfl | assumption | omega | (refine ⟨?_, ?_⟩ <;> omega) | (simp only [Room, lenS]; omega) | decide | skip) | (refine Stp.go ?_) | (guard_target =~ WLA _ _ _ _ _ (⟨_, .call ⟨.value (.func 114), _, _⟩, _, _, _, _⟩ :: _) _ _; refine WLA.call rfl rfl (down_tr (by rw [hlen]; omega) hgr (by rw [hlen]; exact hd)) ?_; rintro ⟨es', hp', hh'⟩) | (refine WPA.ifT ?_) | (refine WPA.ifF ?_) | ((first | refine WPA.dec ?_); first | refine .inl ⟨by first | assumption | omega | with_reducible rfl | (refine fun h => h ?_; first | assumption | with_reducible rfl) | (simp only [lenS] <;> omega) | decide, ?_⟩ | refine .inr ⟨by first | assumption | omega | with_reducible rfl | (refine fun h => h ?_; first | assumption | with_reducible rfl) | (simp only [lenS] <;> omega) | decide, ?_⟩) | ((first | refine WPA.ifBt ?_ ?_ | refine WPA.ifBnf ?_ ?_); assumption) | ((first | refine WPA.ifBnt ?_ ?_ | refine WPA.ifBf ?_ ?_); assumption) | ((first | refine WPA.ifs ?_ ?_ | refine WPA.ifB ?_ ?_) <;> intro hc) | (guard_target =~ WPA _ _ _ (.region 5 _ true) _ _ _; refine WPA.drawT 11 (.q 0 (.q 1 (.q 2 (.q 3 (.q 4 (.q 5 (.q 6 (.q 7 (.q 8 (.q 9 (.q 10 .fin))))))))))) mixed ?_ ?_; kernel_rfl) | (refine WDA.finish (tl := [⟨_, _, _, _, _, _⟩, ⟨_, _, _, _, _, _⟩]) rfl ?_) | (refine WDQ.see rfl ?_) | (guard_target =~ WDE _ _ _ _ _ _ _ ⟨_, .call ⟨.value (.func 114), _, _⟩, _, _, _, _⟩ _ _ _; refine WDE.call rfl rfl (down_tr (by rw [hlen]; omega) hgr (by rw [hlen]; exact hd)) ?_ ?_; (intro x w h; first | exact h | exact Ent.drop1.sl h | exact SL.unI h | exact SL.to h); rintro ⟨es', hp', hh'⟩) | (guard_target =~ WDW _ _ _ _ _ _ _ ⟨_, .call ⟨.value (.func 114), _, _⟩, _, _, _, _⟩ _ _ _; refine WDW.call rfl rfl (down_tr (by rw [hlen]; omega) hgr (by rw [hlen]; exact hd)) ?_; rintro ⟨es', hp', hh'⟩))
  have ha0 : at_ es 0 = atE es 0 := rfl
  refine QQ.endc rfl ((at_ es 0).1, es'.map Prod.fst) rfl fun w h => ⟨⟨?_, ?_⟩, (PileM.fold (z := c) hh' (List.Perm.refl _) rfl).sl h.to⟩
  · dsimp only
    rw [ha0]
    have h1 := (hp'.cons (atE es 0)).trans hpp
    exact (h1.map Prod.fst).trans hp
  · intro y hy
    dsimp only at hy ⊢
    obtain ⟨e, he, rfl⟩ := List.mem_map.1 hy
    have hm : e ∈ es := hpp.subset (List.mem_cons_of_mem _ (hp'.subset he))
    obtain ⟨j, hj, e1⟩ := List.getElem_of_mem hm
    have := heap_least hh j hj
    rw [atE_get _ _ hj, e1] at this
    rw [ha0]
    exact fun hlt => this (.inl hlt)
theorem Drain_tr {v : Value} (w0 : World) (I : Foot) [CellsV v [v]] : Tr Tryz.prog 66 #[v] (SL w0 I L) (fun b : Nat => .func (.func 94) #[] #[.pointer (some ⟨b, 0, none⟩)]) (fun b => SL w0 I (Bk b 133 [v] :: L)) := by
  refine Tr.intro Tryz.func66 rfl Tryz.ntmps66 rfl ?_
  repeat' (first | ((first | refine WLA.m rfl rfl ?_ ?_ | refine WLA.st rfl ?_ ?_ | refine WLA.x rfl rfl ?_ (fun x => ?_) | refine WLA.x0 rfl ?_ (fun x => ?_)); first | exact trivial | exact rfl | assumption | omega | (refine ⟨?_, ?_⟩ <;> omega) | (simp only [Room, lenS]; omega) | decide | skip) | (refine Stp.go ?_) | (refine WPA.ifT ?_) | (refine WPA.ifF ?_) | ((first | refine WPA.dec ?_); first | refine .inl ⟨by first | assumption | omega | with_reducible rfl | (refine fun h => h ?_; first | assumption | with_reducible rfl) | (simp only [lenS] <;> omega) | decide, ?_⟩ | refine .inr ⟨by first | assumption | omega | with_reducible rfl | (refine fun h => h ?_; first | assumption | with_reducible rfl) | (simp only [lenS] <;> omega) | decide, ?_⟩) | ((first | refine WPA.ifBt ?_ ?_ | refine WPA.ifBnf ?_ ?_); assumption) | ((first | refine WPA.ifBnt ?_ ?_ | refine WPA.ifBf ?_ ?_); assumption) | ((first | refine WPA.ifs ?_ ?_ | refine WPA.ifB ?_ ?_) <;> intro hc))
  exact QQ.end_ rfl _ rfl fun w h => h.to
theorem Drain1_tr {p Bx lb : Nat} {τ ω : Type} (Lk : τ → List HP) (ls : τ → List Cu × Nat) (m : τ → Nat) (C : τ → Prop) (B : ω → World → Prop) (hfew : ∀ x, C x → (ls x).1.length ≤ 100000 ∧ ∀ q ∈ (ls x).1, CurAt I q (ky q))
    (hy : ∀ x q l', C x → (q :: l').Perm (ls x).1 → (∀ y ∈ l', ¬ ltL (ky y) (ky q)) → YTr Tryz.prog lb #[.agg #[.slice q.1.a q.1.n q.1.cap, .int .i64 q.2]] (SL w0 I (PileM ky p (l', (ls x).2) :: Bk Bx 133 [.pointer (some ⟨p, 0, none⟩)] :: Lk x)) (fun y : τ ⊕ ω => .bool y.isLeft)
      (fun y w => match y with | .inl x' => (C x' ∧ m x' < m x) ∧ SL w0 I (PileM ky p (ls x') :: Bk Bx 133 [.pointer (some ⟨p, 0, none⟩)] :: Lk x') w | .inr z => B z w))
    (x0 : τ) (hC : C x0) :
    Tr Tryz.prog 94 #[.func (.yield lb) #[] #[], .pointer (some ⟨Bx, 0, none⟩)] (SL w0 I (PileM ky p (ls x0) :: Bk Bx 133 [.pointer (some ⟨p, 0, none⟩)] :: Lk x0)) (fun _ : τ ⊕ ω => .tuple #[])
      (fun y w => match y with | .inl x' => (C x' ∧ (ls x').1 = []) ∧ SL w0 I (PileM ky p (ls x') :: Bk Bx 133 [.pointer (some ⟨p, 0, none⟩)] :: Lk x') w | .inr z => B z w) := by
  refine Tr.intro Tryz.func94 rfl Tryz.ntmps94 rfl ?_
  repeat' (first | ((first | refine WLA.m rfl rfl ?_ ?_ | refine WLA.st rfl ?_ ?_ | refine WLA.x rfl rfl ?_ (fun x => ?_) | refine WLA.x0 rfl ?_ (fun x => ?_)); first | exact trivial | exact rfl | assumption | omega | (refine ⟨?_, ?_⟩ <;> omega) | (simp only [Room, lenS]; omega) | decide | skip) | (refine Stp.go ?_) | (refine WPA.ifT ?_) | (refine WPA.ifF ?_) | (refine WLA.no rfl rfl ?_) | ((first | refine WPA.dec ?_ | ((fail_if_success (guard_target =~ WLA _ _ _ _ _ _ (put1 _ _ (.bool true)) _)); (fail_if_success (guard_target =~ WLA _ _ _ _ _ _ (put1 _ _ (.bool false)) _)); refine WLA.dec rfl rfl ?_) | refine WLA.pk ?_); first | refine .inl ⟨by first | assumption | omega | with_reducible rfl | (refine fun h => h ?_; first | assumption | with_reducible rfl) | (simp only [lenS] <;> omega) | decide, ?_⟩ | refine .inr ⟨by first | assumption | omega | with_reducible rfl | (refine fun h => h ?_; first | assumption | with_reducible rfl) | (simp only [lenS] <;> omega) | decide, ?_⟩) | ((first | refine WPA.ifBt ?_ ?_ | refine WPA.ifBnf ?_ ?_); assumption) | ((first | refine WPA.ifBnt ?_ ?_ | refine WPA.ifBf ?_ ?_); assumption) | ((first | refine WPA.ifs ?_ ?_ | refine WPA.ifB ?_ ?_) <;> intro hc) | ((fail_if_success (guard_target =~ WLA _ _ _ _ _ _ (put1 _ _ (.bool true)) _)); (fail_if_success (guard_target =~ WLA _ _ _ _ _ _ (put1 _ _ (.bool false)) _)); (first | refine WLA.both rfl rfl ?_ ?_ | refine WLA.bothB rfl rfl ?_ ?_) <;> intro hg))
  refine WPA.loopS (σ := τ) (fun x => [(0, .func (.yield lb) #[] #[]), (1, .pointer (some ⟨Bx, 0, none⟩))]) C
    (fun x => SL w0 I (PileM ky p (ls x) :: Bk Bx 133 [.pointer (some ⟨p, 0, none⟩)] :: Lk x)) m x0 ⟨rfl, rfl, trivial⟩ hC (fun w h => h) ?_
  intro u ρ hCx
  refine WPA.mono (A := SL w0 I (PileM ky p (ls u) :: Bk Bx 133 [.pointer (some ⟨p, 0, none⟩)] :: Lk u)) (fun w h => h) ?_
  obtain ⟨hn, hg⟩ := hfew u hCx
  have hyu := hy u
  generalize hls : ls u = lu at hn hg hyu
  obtain ⟨l, c⟩ := lu
  dsimp only at hn hg hyu
  by_cases h0 : l = []
  · subst h0
    repeat' (first | ((first | refine WLA.m rfl rfl ?_ ?_ | refine WLA.st rfl ?_ ?_ | refine WLA.x rfl rfl ?_ (fun x => ?_) | refine WLA.x0 rfl ?_ (fun x => ?_)); first | exact trivial | exact rfl | assumption | omega | (refine ⟨?_, ?_⟩ <;> omega) | (simp only [Room, lenS]; omega) | decide | skip) | (refine Stp.go ?_) | (guard_target =~ WLA _ _ _ _ _ (⟨_, .call ⟨.value (.func 95), _, _⟩, _, _, _, _⟩ :: _) _ _; refine WLA.call rfl rfl (Pop_trN (ky := ky)) ?_; rintro ⟨⟩) | (refine WPA.ifT ?_) | (refine WPA.ifF ?_) | (refine WLA.no rfl rfl ?_) | ((first | refine WPA.dec ?_ | ((fail_if_success (guard_target =~ WLA _ _ _ _ _ _ (put1 _ _ (.bool true)) _)); (fail_if_success (guard_target =~ WLA _ _ _ _ _ _ (put1 _ _ (.bool false)) _)); refine WLA.dec rfl rfl ?_) | refine WLA.pk ?_); first | refine .inl ⟨by first | assumption | omega | with_reducible rfl | (refine fun h => h ?_; first | assumption | with_reducible rfl) | (simp only [lenS] <;> omega) | decide, ?_⟩ | refine .inr ⟨by first | assumption | omega | with_reducible rfl | (refine fun h => h ?_; first | assumption | with_reducible rfl) | (simp only [lenS] <;> omega) | decide, ?_⟩) | ((first | refine WPA.ifBt ?_ ?_ | refine WPA.ifBnf ?_ ?_); assumption) | ((first | refine WPA.ifBnt ?_ ?_ | refine WPA.ifBf ?_ ?_); assumption) | ((first | refine WPA.ifs ?_ ?_ | refine WPA.ifB ?_ ?_) <;> intro hc) | ((fail_if_success (guard_target =~ WLA _ _ _ _ _ _ (put1 _ _ (.bool true)) _)); (fail_if_success (guard_target =~ WLA _ _ _ _ _ _ (put1 _ _ (.bool false)) _)); (first | refine WLA.both rfl rfl ?_ ?_ | refine WLA.bothB rfl rfl ?_ ?_) <;> intro hg))
    refine QQ.end_ rfl (.inl u) rfl fun w h => ⟨⟨hCx, by rw [hls]⟩, ?_⟩
    rw [hls]
    exact h.to
  · skip
    repeat' (first | ((first | refine WLA.m rfl rfl ?_ ?_ | refine WLA.st rfl ?_ ?_ | refine WLA.x rfl rfl ?_ (fun x => ?_) | refine WLA.x0 rfl ?_ (fun x => ?_)); first | exact trivial | exact rfl | assumption | omega | (refine ⟨?_, ?_⟩ <;> omega) | (simp only [Room, lenS]; omega) | decide | skip) | (refine Stp.go ?_) | (guard_target =~ WLA _ _ _ _ _ (⟨_, .call ⟨.value (.func 95), _, _⟩, _, _, _, _⟩ :: _) _ _; refine WLA.call rfl rfl (Pop_trM hn h0 hg) ?_; rintro ⟨q, l'⟩; refine WLA.pure fun hq => ?_; dsimp only at hq ⊢) | (guard_target =~ WLA _ _ _ _ _ (⟨_, .call ⟨.value (.tmp _), _, _⟩, _, _, _, _⟩ :: _) _ _; refine WLA.yield rfl rfl ((hyu q l' hCx hq.1 hq.2).ent) ?_; rintro (x' | z)) | (refine WPA.ifT ?_) | (refine WPA.ifF ?_) | (refine WLA.no rfl rfl ?_) | ((first | refine WPA.dec ?_ | ((fail_if_success (guard_target =~ WLA _ _ _ _ _ _ (put1 _ _ (.bool true)) _)); (fail_if_success (guard_target =~ WLA _ _ _ _ _ _ (put1 _ _ (.bool false)) _)); refine WLA.dec rfl rfl ?_) | refine WLA.pk ?_); first | refine .inl ⟨by first | assumption | omega | with_reducible rfl | (refine fun h => h ?_; first | assumption | with_reducible rfl) | (simp only [lenS] <;> omega) | decide, ?_⟩ | refine .inr ⟨by first | assumption | omega | with_reducible rfl | (refine fun h => h ?_; first | assumption | with_reducible rfl) | (simp only [lenS] <;> omega) | decide, ?_⟩) | ((first | refine WPA.ifBt ?_ ?_ | refine WPA.ifBnf ?_ ?_); assumption) | ((first | refine WPA.ifBnt ?_ ?_ | refine WPA.ifBf ?_ ?_); assumption) | ((first | refine WPA.ifs ?_ ?_ | refine WPA.ifB ?_ ?_) <;> intro hc) | ((fail_if_success (guard_target =~ WLA _ _ _ _ _ _ (put1 _ _ (.bool true)) _)); (fail_if_success (guard_target =~ WLA _ _ _ _ _ _ (put1 _ _ (.bool false)) _)); (first | refine WLA.both rfl rfl ?_ ?_ | refine WLA.bothB rfl rfl ?_ ?_) <;> intro hg))
    · refine QQ.pre fun hC' => ?_
      exact QQ.loopS x' ⟨rfl, rfl, trivial⟩ hC'.1 hC'.2 (fun w h => h)
    · exact QQ.end_ rfl (.inr z) rfl fun w h => h
end
end Go.Proofs.YtamnobjdgjbmbaaGreat
namespace Go.Proofs.YtamnobjdgjbmbaaGreat
open Go Go.Fw Go.RowKit
set_option linter.unusedVariables false
set_option linter.unusedSimpArgs false
set_option maxRecDepth 100000
set_option maxHeartbeats 16000000
set_option synthInstance.maxHeartbeats 200000
set_option synthInstance.maxSize 100000
attribute [local irreducible] WPA WLA WDA WDQ WDE QQ seqQ blockQ loopQ fnQ OpP OpT Tr TrP SL SLd OwnS LitS Bk BkE Ob
attribute [local irreducible] RowH PileM
structure GoodL (I : Foot) (kg : SV → List Int) (tp : SV → List (SV × Int)) (h : SV) : Prop where
  sl : SlI I h (SV × Int) inferInstance (tp h)
  el : ∀ p ∈ tp h, SlI I p.1 Int inferInstance (kg p.1) ∧ (kg p.1).length ≤ 1000000
  ris : Ris kg (tp h)
def moP (kg : SV → List Int) (p : SV × Int) : Ct := (kg p.1, p.2)
section
variable (kg : SV → List Int) (tp : SV → List (SV × Int))
def ckey (c : Cu) : List Int := kg (at_ (tp c.1) c.2).1
def remC (c : Cu) : List Ct := ((tp c.1).drop c.2.toNat).map (moP kg)
def remL (l : List Cu) : List Ct := l.flatMap (remC kg tp)
def curB (hs : List SV) (c : Cu) : Prop := c.1 ∈ hs ∧ 0 ≤ c.2 ∧ c.2 < (tp c.1).length
end
section
variable {kg : SV → List Int} {tp : SV → List (SV × Int)} {I : Foot} {hs : List SV}
theorem curAt (hG : ∀ h ∈ hs, GoodL I kg tp h) {c : Cu} (hc : curB tp hs c) : CurAt I c (ckey kg tp c) := by
  obtain ⟨h1, h2, h3⟩ := hc
  have hm : at_ (tp c.1) c.2 ∈ tp c.1 := by rw [at_int _ _ h2 h3]; exact List.getElem_mem _
  exact ⟨tp c.1, (hG _ h1).sl, ⟨h2, h3⟩, ((hG _ h1).el _ hm).1, by have := ((hG _ h1).el _ hm).2; unfold ckey; omega⟩
theorem remC_cons {c : Cu} (hc : curB tp hs c) : remC kg tp c = (ckey kg tp c, (at_ (tp c.1) c.2).2) :: remC kg tp (c.1, c.2 + 1) := by
  obtain ⟨h1, h2, h3⟩ := hc
  unfold remC
  rw [List.drop_eq_getElem_cons (show c.2.toNat < (tp c.1).length by omega), List.map_cons, ← at_int _ _ h2 h3]
  dsimp only
  rw [show (c.2 + 1).toNat = c.2.toNat + 1 by omega]
  rfl
theorem remC_end {c : Cu} (h : ¬ c.2 < (tp c.1).length) : remC kg tp c = [] := by
  unfold remC
  rw [List.drop_of_length_le (by omega)]; rfl
theorem remL_mem {c : Cu} : ∀ {l : List Cu}, c ∈ l → (remC kg tp c).length ≤ (remL kg tp l).length
  | [], h => by simp at h
  | d :: l, h => by
    have e : remL kg tp (d :: l) = remC kg tp d ++ remL kg tp l := rfl
    rw [e, List.length_append]
    rcases List.mem_cons.1 h with rfl | h
    · omega
    · have := remL_mem h; omega
theorem tp_len {h : SV} (hm : h ∈ hs) : (tp h).length ≤ (remL kg tp (hs.map fun h => (h, 0))).length := by
  have h1 : ((h, 0) : Cu) ∈ hs.map fun h => (h, 0) := List.mem_map.2 ⟨h, hm, rfl⟩
  have h2 := remL_mem (kg := kg) (tp := tp) h1
  unfold remC at h2
  simpa using h2
theorem key_next (hG : ∀ h ∈ hs, GoodL I kg tp h) {c : Cu} (hc : curB tp hs c) (hn : c.2 + 1 < (tp c.1).length) : ltL (ckey kg tp c) (ckey kg tp (c.1, c.2 + 1)) := by
  obtain ⟨h1, h2, h3⟩ := hc
  have := (hG _ h1).ris
  unfold ckey
  rw [at_int _ _ h2 h3]
  dsimp only
  rw [at_int _ (c.2 + 1) (by omega) hn]
  exact List.pairwise_iff_getElem.1 this _ _ _ _ (by omega)
end
structure ML where
  l : List Cu
  c : Nat
  out : SV
  cs : List (SV × Int)
  ms : List Ct
theorem map_set_fst {α β : Type} {l : List (α × β)} {i : Nat} {x : α × β} (h : ∀ y, l[i]? = some y → y.1 = x.1) : (l.set i x).map Prod.fst = l.map Prod.fst := by
  apply List.ext_getElem?
  intro j
  rw [List.getElem?_map, List.getElem?_map, List.getElem?_set]
  by_cases e : i = j
  · subst e
    rw [if_pos rfl]
    split
    · rename_i hl
      rw [List.getElem?_eq_getElem hl, Option.map_some, Option.map_some, h _ (List.getElem?_eq_getElem hl)]
    · rename_i hl
      rw [List.getElem?_eq_none (by omega)]
  · rw [if_neg e]
theorem map_set_snd {α β γ : Type} {l : List (α × β)} {m : List (γ × β)} {i : Nat} {x : α × β} {y : γ × β} (hl : l.map Prod.snd = m.map Prod.snd) (h : x.2 = y.2) : (l.set i x).map Prod.snd = (m.set i y).map Prod.snd := by
  rw [List.map_set, List.map_set, hl, h]
theorem Lists_tr {kg : SV → List Int} {tp : SV → List (SV × Int)} {s : SV} {hs : List SV} {L : List HP} {w0 : World} {I : Foot} [hr : RdS I L s SV inferInstance hs] (hG : ∀ h ∈ hs, GoodL I kg tp h) (hn : hs.length + (remL kg tp (hs.map fun h => (h, 0))).length ≤ 50000) :
    Tr Tryz.prog 36 #[.slice s.a s.n s.cap] (SL w0 I L) (fun x : SV × List (SV × Int) => .slice x.1.a x.1.n x.1.cap)
      (fun x w => x.2.map Prod.snd = (((remL kg tp (hs.map fun h => (h, 0))).foldl putM []).map Prod.snd) ∧ SL w0 I (OwnS 84 x.1 x.2 :: RowH 3 (x.2.map Prod.fst) (((remL kg tp (hs.map fun h => (h, 0))).foldl putM []).map Prod.fst) :: L) w) := by
  refine Tr.intro Tryz.func36 rfl Tryz.ntmps36 rfl ?_
  generalize hall : remL kg tp (hs.map fun h => (h, 0)) = all at hn
  repeat' (first | ((first | refine WLA.m rfl rfl ?_ ?_ | refine WLA.st rfl ?_ ?_ | refine WLA.x rfl rfl ?_ (fun x => ?_) | refine WLA.x0 rfl ?_ (fun x => ?_)); first | exact trivial | exact rfl | assumption | omega | (refine ⟨?_, ?_⟩ <;> omega) | (simp only [Room, lenS]; omega) | decide | skip) | (refine Stp.go ?_) | (guard_target =~ WLA _ _ _ _ _ (⟨_, .call ⟨.value (.func 64), _, _⟩, _, _, _, _⟩ :: _) _ _; refine WLA.call rfl rfl (New_trM (ckey kg tp) _ _ _) ?_; rintro p) | (refine WPA.ifT ?_) | (refine WPA.ifF ?_) | ((first | refine WPA.dec ?_); first | refine .inl ⟨by first | assumption | omega | with_reducible rfl | (refine fun h => h ?_; first | assumption | with_reducible rfl) | (simp only [lenS] <;> omega) | decide, ?_⟩ | refine .inr ⟨by first | assumption | omega | with_reducible rfl | (refine fun h => h ?_; first | assumption | with_reducible rfl) | (simp only [lenS] <;> omega) | decide, ?_⟩) | ((first | refine WPA.ifBt ?_ ?_ | refine WPA.ifBnf ?_ ?_); assumption) | ((first | refine WPA.ifBnt ?_ ?_ | refine WPA.ifBf ?_ ?_); assumption) | ((first | refine WPA.ifs ?_ ?_ | refine WPA.ifB ?_ ?_) <;> intro hc))
  revert x; intro pb
  refine WPA.loopS (σ := Nat × List Cu × Nat) (fun y => [(3, .pointer (some ⟨pb, 0, none⟩)), (11, .slice s.a s.n s.cap), (12, .int .i64 hs.length), (13, .int .i64 y.1)])
    (fun y => (y.1 ≤ hs.length ∧ y.2.1.length ≤ y.1 ∧ y.2.2 ≤ y.1) ∧ (∀ q ∈ y.2.1, curB tp hs q) ∧ (remL kg tp y.2.1).Perm (remL kg tp ((hs.take y.1).map fun h => (h, 0))))
    (fun y => SL w0 I (PileM (ckey kg tp) p y.2 :: Bk pb 133 [.pointer (some ⟨p, 0, none⟩)] :: L)) (fun y => hs.length - y.1) (0, [], 0) ⟨rfl, rfl, rfl, rfl, trivial⟩ ⟨⟨Nat.zero_le _, Nat.le_refl _, Nat.le_refl _⟩, by simp, by simp⟩ (fun w h => h.to) ?_
  rintro ⟨i, l, c⟩ ρ ⟨⟨hi, hl, hc⟩, hq, hp⟩
  dsimp only at hi hl hc hq hp ⊢
  have hgl : ∀ q ∈ l, CurAt I q (ckey kg tp q) := fun q h => curAt hG (hq q h)
  by_cases hlt : i < hs.length
  · have hlt' : (i : Int) < hs.length := by omega
    have ei : at_ hs (i : Int) = hs[i] := at_nat hs i hlt
    have hm : at_ hs (i : Int) ∈ hs := by rw [ei]; exact List.getElem_mem _
    have hsl := (hG _ hm).sl
    have et : (hs.take (i + 1)).map (fun h => ((h, 0) : Cu)) = (hs.take i).map (fun h => (h, 0)) ++ [(at_ hs (i : Int), 0)] := by
      rw [List.take_add_one, List.getElem?_eq_getElem hlt, ei, List.map_append]; rfl
    have er : remL kg tp ((hs.take (i + 1)).map fun h => (h, 0)) = remL kg tp ((hs.take i).map fun h => (h, 0)) ++ remC kg tp (at_ hs (i : Int), 0) := by
      rw [et]; simp [remL]
    by_cases h0 : (0 : Int) < (tp (at_ hs (i : Int))).length
    · have hcb : curB tp hs (at_ hs (i : Int), 0) := ⟨hm, Int.le_refl _, h0⟩
      have hca := curAt hG hcb
      repeat' (first | ((first | refine WLA.m rfl rfl ?_ ?_ | refine WLA.st rfl ?_ ?_ | refine WLA.x rfl rfl ?_ (fun x => ?_) | refine WLA.x0 rfl ?_ (fun x => ?_)); first | exact trivial | exact rfl | assumption | omega | (refine ⟨?_, ?_⟩ <;> omega) | (simp only [Room, lenS]; omega) | decide | skip) | (refine Stp.go ?_) | (guard_target =~ WLA _ _ _ _ _ (⟨_, .call ⟨.value (.func 65), _, _⟩, _, _, _, _⟩ :: _) _ _; refine WLA.call rfl rfl (Push_trM (a := (at_ hs (i : Int), 0)) (by omega) (by omega) hgl hca) ?_; rintro ⟨⟩) | (refine WPA.ifT ?_) | (refine WPA.ifF ?_) | ((first | refine WPA.dec ?_); first | refine .inl ⟨by first | assumption | omega | with_reducible rfl | (refine fun h => h ?_; first | assumption | with_reducible rfl) | (simp only [lenS] <;> omega) | decide, ?_⟩ | refine .inr ⟨by first | assumption | omega | with_reducible rfl | (refine fun h => h ?_; first | assumption | with_reducible rfl) | (simp only [lenS] <;> omega) | decide, ?_⟩) | ((first | refine WPA.ifBt ?_ ?_ | refine WPA.ifBnf ?_ ?_); assumption) | ((first | refine WPA.ifBnt ?_ ?_ | refine WPA.ifBf ?_ ?_); assumption) | ((first | refine WPA.ifs ?_ ?_ | refine WPA.ifB ?_ ?_) <;> intro hc))
      refine QQ.loopS (i + 1, (at_ hs (i : Int), 0) :: l, c + 1) ⟨rfl, rfl, rfl, rfl, trivial⟩ ⟨⟨hlt, by simp; omega, by dsimp only; omega⟩, ?_, ?_⟩ (by dsimp only; omega) (fun w h => h.to)
      · intro q hm'
        rcases List.mem_cons.1 hm' with rfl | hm'
        · exact hcb
        · exact hq q hm'
      · dsimp only
        rw [er]
        exact (List.perm_append_comm (l₁ := remC kg tp (at_ hs (i : Int), 0)) (l₂ := remL kg tp l)).trans (hp.append_right _)
    · skip
      repeat' (first | ((first | refine WLA.m rfl rfl ?_ ?_ | refine WLA.st rfl ?_ ?_ | refine WLA.x rfl rfl ?_ (fun x => ?_) | refine WLA.x0 rfl ?_ (fun x => ?_)); first | exact trivial | exact rfl | assumption | omega | (refine ⟨?_, ?_⟩ <;> omega) | (simp only [Room, lenS]; omega) | decide | skip) | (refine Stp.go ?_) | (refine WPA.ifT ?_) | (refine WPA.ifF ?_) | ((first | refine WPA.dec ?_); first | refine .inl ⟨by first | assumption | omega | with_reducible rfl | (refine fun h => h ?_; first | assumption | with_reducible rfl) | (simp only [lenS] <;> omega) | decide, ?_⟩ | refine .inr ⟨by first | assumption | omega | with_reducible rfl | (refine fun h => h ?_; first | assumption | with_reducible rfl) | (simp only [lenS] <;> omega) | decide, ?_⟩) | ((first | refine WPA.ifBt ?_ ?_ | refine WPA.ifBnf ?_ ?_); assumption) | ((first | refine WPA.ifBnt ?_ ?_ | refine WPA.ifBf ?_ ?_); assumption) | ((first | refine WPA.ifs ?_ ?_ | refine WPA.ifB ?_ ?_) <;> intro hc))
      refine QQ.loopS (i + 1, l, c) ⟨rfl, rfl, rfl, rfl, trivial⟩ ⟨⟨hlt, by dsimp only; omega, by dsimp only; omega⟩, hq, ?_⟩ (by dsimp only; omega) (fun w h => h.to)
      dsimp only
      rw [er, remC_end (by dsimp only; omega), List.append_nil]
      exact hp
  · have hie : i = hs.length := by omega
    subst hie
    rw [List.take_length, hall] at hp
    repeat' (first | ((first | refine WLA.m rfl rfl ?_ ?_ | refine WLA.st rfl ?_ ?_ | refine WLA.x rfl rfl ?_ (fun x => ?_) | refine WLA.x0 rfl ?_ (fun x => ?_)); first | exact trivial | exact rfl | assumption | omega | (refine ⟨?_, ?_⟩ <;> omega) | (simp only [Room, lenS]; omega) | decide | skip) | (refine Stp.go ?_) | (guard_target =~ WLA _ _ _ _ _ (⟨_, .call ⟨.value (.func 66), _, _⟩, _, _, _, _⟩ :: _) _ _; refine WLA.call rfl rfl (Drain_tr _ _) ?_; rintro bx) | (refine WPA.ifT ?_) | (refine WPA.ifF ?_) | ((first | refine WPA.dec ?_); first | refine .inl ⟨by first | assumption | omega | with_reducible rfl | (refine fun h => h ?_; first | assumption | with_reducible rfl) | (simp only [lenS] <;> omega) | decide, ?_⟩ | refine .inr ⟨by first | assumption | omega | with_reducible rfl | (refine fun h => h ?_; first | assumption | with_reducible rfl) | (simp only [lenS] <;> omega) | decide, ?_⟩) | ((first | refine WPA.ifBt ?_ ?_ | refine WPA.ifBnf ?_ ?_); assumption) | ((first | refine WPA.ifBnt ?_ ?_ | refine WPA.ifBf ?_ ?_); assumption) | ((first | refine WPA.ifs ?_ ?_ | refine WPA.ifB ?_ ?_) <;> intro hc))
    revert x; intro t6
    refine WPA.rangeS fun D rc hrc => ?_
    let C : ML → Prop := fun x => ((∀ q ∈ x.l, curB tp hs q) ∧ x.l.length ≤ 50000 ∧ x.c + (remL kg tp x.l).length ≤ 50000 ∧ x.ms.length + (remL kg tp x.l).length ≤ 50000) ∧ (x.cs.map Prod.snd = x.ms.map Prod.snd ∧ Ris id x.ms ∧ ∀ m ∈ x.ms, m.1.length ≤ 1000000) ∧ (remL kg tp x.l).foldl putM x.ms = all.foldl putM [] ∧ ∀ m ∈ x.ms, ∀ q ∈ x.l, ¬ ltL (ckey kg tp q) m.1
    let Lk : ML → List HP := fun x => Ob (D + 1) (rc .ready none) :: Ob D (.deferred (some [])) :: Bk t6 27 [.slice x.out.a x.out.n x.out.cap] :: OwnS 84 x.out x.cs :: RowH 3 (x.cs.map Prod.fst) (x.ms.map Prod.fst) :: Bk pb 133 [.pointer (some ⟨p, 0, none⟩)] :: L
    refine ⟨{x : ML // C x ∧ x.l = []}, fun _ => .tuple #[], fun _ => .ready, fun _ => none, fun x => Ob D (.deferred (some [])) :: Bk t6 27 [.slice x.1.out.a x.1.out.n x.1.out.cap] :: OwnS 84 x.1.out x.1.cs :: RowH 3 (x.1.cs.map Prod.fst) (x.1.ms.map Prod.fst) :: L, ?_, ?_⟩
    · refine (Drain1_tr (w0 := w0) (I := I) (ky := ckey kg tp) (p := p) (Bx := bx) (ω := Empty) Lk (fun x => (x.l, x.c)) (fun x => (remL kg tp x.l).length) C (fun z _ => z.elim) ?_ ?_ ⟨l, c, SV.nil, [], []⟩ ?_).conv (fun w h => ?_) ?_
      · rintro x ⟨⟨h1, h2, -⟩, -⟩
        exact ⟨by dsimp only; omega, fun q hq => curAt hG (h1 q hq)⟩
      · rintro ⟨l, c, out, cs, ms⟩ q l' ⟨⟨h1, h2, h3, h4⟩, ⟨h5, h6, h6b⟩, h7, h8⟩ hpq hmin
        dsimp only at h1 h2 h3 h4 h5 h6 h6b h7 h8 hpq hmin
        dsimp only [Lk]
        have hcb : curB tp hs q := h1 q (hpq.subset (List.mem_cons_self ..))
        have hl'b : ∀ y ∈ l', curB tp hs y := fun y hy => h1 y (hpq.subset (List.mem_cons_of_mem _ hy))
        have hll : l'.length + 1 = l.length := by have := hpq.length_eq; simpa using this
        obtain ⟨hq1, hq2, hq3⟩ := hcb
        have hqg := hG _ hq1
        have htl := tp_len (kg := kg) (tp := tp) hq1
        rw [hall] at htl
        have hsl := hqg.sl
        have hxm : at_ (tp q.1) q.2 ∈ tp q.1 := by rw [at_int _ _ hq2 hq3]; exact List.getElem_mem _
        obtain ⟨hxs, hxl⟩ := hqg.el _ hxm
        have hrp : (remL kg tp l).Perm (remC kg tp q ++ remL kg tp l') := (hpq.flatMap_right (remC kg tp)).symm
        have hrc0 : remC kg tp q = (kg (at_ (tp q.1) q.2).1, (at_ (tp q.1) q.2).2) :: remC kg tp (q.1, q.2 + 1) := remC_cons ⟨hq1, hq2, hq3⟩
        rw [hrc0] at hrp
        have hrl := hrp.length_eq
        rw [List.length_append, List.length_cons] at hrl
        rw [foldl_perm hrp h6, List.cons_append, List.foldl_cons] at h7
        have hmq : ∀ m ∈ ms, ¬ ltL (ckey kg tp q) m.1 := fun m hm => h8 m hm q (hpq.subset (List.mem_cons_self ..))
        have hpl := put_last (x := (kg (at_ (tp q.1) q.2).1, (at_ (tp q.1) q.2).2)) h6 hmq
        have hcl : cs.length = ms.length := by have := congrArg List.length h5; simpa using this
        -- the heads that are left
        have hms' : ∀ m ∈ putM ms (kg (at_ (tp q.1) q.2).1, (at_ (tp q.1) q.2).2), (¬ ltL (ckey kg tp q) m.1 ∧ m.1.length ≤ 1000000) ∧ ∀ y ∈ l', ¬ ltL (ckey kg tp y) m.1 := by
          intro m hm
          rcases putL_mem m hm with e | ⟨z, hz, e⟩
          · have e : m.1 = ckey kg tp q := e
            rw [e]; exact ⟨⟨ltL_irr _, hxl⟩, hmin⟩
          · rw [e]; exact ⟨⟨hmq z hz, h6b z hz⟩, fun y hy => h8 z hz y (hpq.subset (List.mem_cons_of_mem _ hy))⟩
        have hris' : Ris id (putM ms (kg (at_ (tp q.1) q.2).1, (at_ (tp q.1) q.2).2)) := putL_ris h6
        have hlen' : (putM ms (kg (at_ (tp q.1) q.2).1, (at_ (tp q.1) q.2).2)).length ≤ ms.length + 1 := putL_len ms
        have hgl' : ∀ y ∈ l', CurAt I y (ckey kg tp y) := fun y hy => curAt hG (hl'b y hy)
        have hnext : q.2 + 1 < (tp q.1).length → CurAt I (q.1, q.2 + 1) (ckey kg tp (q.1, q.2 + 1)) := fun h => curAt hG ⟨hq1, by dsimp only; omega, h⟩
        -- the round's end, whatever the list is then
        have hfin : ∀ (out' : SV) (cs' : List (SV × Int)) (c' : Nat) (l2 : List Cu), cs'.map Prod.snd = (putM ms (kg (at_ (tp q.1) q.2).1, (at_ (tp q.1) q.2).2)).map Prod.snd →
            (q.2 + 1 < (tp q.1).length ∧ l2 = (q.1, q.2 + 1) :: l' ∧ c' = c + 1 ∨ ¬ q.2 + 1 < (tp q.1).length ∧ l2 = l' ∧ c' = c) → C ⟨l2, c', out', cs', putM ms (kg (at_ (tp q.1) q.2).1, (at_ (tp q.1) q.2).2)⟩ ∧ (remL kg tp l2).length < (remL kg tp l).length := by
          rintro out' cs' c' l2 hcs (⟨hn1, rfl, rfl⟩ | ⟨hn1, rfl, rfl⟩)
          · have hr2 : remL kg tp ((q.1, q.2 + 1) :: l') = remC kg tp (q.1, q.2 + 1) ++ remL kg tp l' := rfl
            have hr3 : (remL kg tp ((q.1, q.2 + 1) :: l')).length + 1 = (remL kg tp l).length := by rw [hr2, List.length_append]; omega
            refine ⟨⟨⟨?_, by simp; omega, by dsimp only; omega, by dsimp only; omega⟩, ⟨hcs, hris', fun m hm => (hms' m hm).1.2⟩, h7, ?_⟩, by omega⟩
            · intro y hy
              rcases List.mem_cons.1 hy with rfl | hy
              · exact ⟨hq1, by dsimp only; omega, hn1⟩
              · exact hl'b y hy
            · intro m hm y hy
              obtain ⟨⟨g1, -⟩, g2⟩ := hms' m hm
              rcases List.mem_cons.1 hy with rfl | hy
              · exact leL_tr g1 (ltL_as (key_next hG ⟨hq1, hq2, hq3⟩ hn1))
              · exact g2 y hy
          · have hr0 : remC kg tp (q.1, q.2 + 1) = [] := remC_end hn1
            rw [hr0] at hrl h7
            rw [List.nil_append] at h7
            simp only [List.length_nil] at hrl
            refine ⟨⟨⟨hl'b, by dsimp only; omega, by dsimp only; omega, by dsimp only; omega⟩, ⟨hcs, hris', fun m hm => (hms' m hm).1.2⟩, h7, ?_⟩, by omega⟩
            exact fun m hm y hy => (hms' m hm).2 y hy
        refine (YTr.ofS (val := fun y : ML ⊕ Empty => y.isLeft) hrc (agreeP rfl) rfl ?_)
        repeat' (first | ((first | refine WLA.m rfl rfl ?_ ?_ | refine WLA.st rfl ?_ ?_ | refine WLA.x rfl rfl ?_ (fun x => ?_) | refine WLA.x0 rfl ?_ (fun x => ?_)); first | exact trivial | exact rfl | assumption | omega | (refine ⟨?_, ?_⟩ <;> omega) | (simp only [Room, lenS]; omega) | decide | skip) | (refine Stp.go ?_) | (refine WPA.ifT ?_) | (refine WPA.ifF ?_) | ((first | refine WPA.dec ?_); first | refine .inl ⟨by first | assumption | omega | with_reducible rfl | (refine fun h => h ?_; first | assumption | with_reducible rfl) | (simp only [lenS] <;> omega) | decide, ?_⟩ | refine .inr ⟨by first | assumption | omega | with_reducible rfl | (refine fun h => h ?_; first | assumption | with_reducible rfl) | (simp only [lenS] <;> omega) | decide, ?_⟩) | ((first | refine WPA.ifBt ?_ ?_ | refine WPA.ifBnf ?_ ?_); assumption) | ((first | refine WPA.ifBnt ?_ ?_ | refine WPA.ifBf ?_ ?_); assumption) | ((first | refine WPA.ifs ?_ ?_ | refine WPA.ifB ?_ ?_) <;> intro hc))
        refine QQ.midS ?_
        have hfin' := hfin
        generalize hX : at_ (tp q.1) q.2 = x at hxs hxl hpl hfin
        obtain ⟨xg, xn⟩ := x
        dsimp only at hxs hxl hpl hfin
        have hxl' : (kg xg).length ≤ 1000000000 := by omega
        have haux : ∀ (g' : SV), cs.map Prod.snd ++ [xn] = (cs ++ [(g', xn)]).map Prod.snd := by simp
        by_cases hz : cs.length = 0
        · have hz0 : ¬ (0 : Int) < cs.length := by omega
          have hms0 : ms = [] := List.eq_nil_of_length_eq_zero (by omega)
          rw [dif_neg (fun h => h.1 hms0)] at hpl
          rw [hpl] at hfin
          by_cases hnx : q.2 + 1 < (tp q.1).length
          all_goals skip
          repeat' (first | ((first | refine WLA.m rfl rfl ?_ ?_ | refine WDQ.m rfl rfl ?_ ?_ | refine WLA.st rfl ?_ ?_ | refine WLA.x rfl rfl ?_ (fun x => ?_) | refine WLA.x0 rfl ?_ (fun x => ?_)); first | exact trivial | exact rfl | assumption | omega | (refine ⟨?_, ?_⟩ <;> omega) | (simp only [Room, lenS]; omega) | decide | skip) | (refine Stp.go ?_) | (guard_target =~ WLA _ _ _ _ _ (⟨_, .call ⟨.value (.func 67), _, _⟩, _, _, _, _⟩ :: _) _ _; refine WLA.call rfl rfl (head_tr ⟨hq2, hq3⟩) ?_; rintro ⟨⟩; rw [hX]; dsimp only) | (guard_target =~ WLA _ _ _ _ _ (⟨_, .call ⟨.value (.func 68), _, _⟩, _, _, _, _⟩ :: _) _ _; refine WLA.cq rfl rfl (Equal_tr (by assumption)) ?_) | (guard_target =~ WLA _ _ _ _ _ (⟨_, .call ⟨.value (.func 46), _, _⟩, _, _, _, _⟩ :: _) _ _; refine WLA.call rfl rfl (Clone_tr (by assumption)) ?_; rintro g') | (guard_target =~ WLA _ _ _ _ _ (⟨_, .call ⟨.value (.func 65), _, _⟩, _, _, _, _⟩ :: _) _ _; refine WLA.call rfl rfl (Push_trM (a := (q.1, q.2 + 1)) (by omega) (by omega) hgl' (hnext hnx)) ?_; rintro ⟨⟩) | (refine WPA.ifT ?_) | (refine WPA.ifF ?_) | (refine WLA.no rfl rfl ?_) | (refine WDQ.no rfl rfl ?_) | ((first | refine WPA.dec ?_ | ((fail_if_success (guard_target =~ WLA _ _ _ _ _ _ (put1 _ _ (.bool true)) _)); (fail_if_success (guard_target =~ WLA _ _ _ _ _ _ (put1 _ _ (.bool false)) _)); refine WLA.dec rfl rfl ?_) | refine WLA.pk ?_ | refine WDQ.dec rfl rfl ?_); first | refine .inl ⟨by first | assumption | omega | with_reducible rfl | (refine fun h => h ?_; first | assumption | with_reducible rfl) | (simp only [lenS] <;> omega) | decide, ?_⟩ | refine .inr ⟨by first | assumption | omega | with_reducible rfl | (refine fun h => h ?_; first | assumption | with_reducible rfl) | (simp only [lenS] <;> omega) | decide, ?_⟩) | ((first | refine WPA.ifBt ?_ ?_ | refine WPA.ifBnf ?_ ?_); assumption) | ((first | refine WPA.ifBnt ?_ ?_ | refine WPA.ifBf ?_ ?_); assumption) | ((first | refine WPA.ifs ?_ ?_ | refine WPA.ifB ?_ ?_) <;> intro hc) | ((fail_if_success (guard_target =~ WLA _ _ _ _ _ _ (put1 _ _ (.bool true)) _)); (fail_if_success (guard_target =~ WLA _ _ _ _ _ _ (put1 _ _ (.bool false)) _)); (first | refine WLA.both rfl rfl ?_ ?_ | refine WLA.bothB rfl rfl ?_ ?_) <;> intro hg) | (guard_target =~ WPA _ _ _ (.region 13 _ true) _ _ _; refine WPA.drawT 11 (.q 0 (.q 1 (.q 2 (.q 3 (.q 4 (.q 5 (.q 6 (.q 7 (.q 8 (.q 9 (.q 10 .fin))))))))))) mixed ?_ ?_; kernel_rfl) | (guard_target =~ WPA _ _ _ (.region 14 _ true) _ _ _; refine WPA.drawT 8 (.q 0 (.q 1 (.q 2 (.q 3 (.q 4 (.q 5 (.q 6 (.q 7 .fin)))))))) mixed ?_ ?_; kernel_rfl) | (guard_target =~ WPA _ _ _ (.region 15 _ true) _ _ _; refine WPA.drawT 8 (.q 0 (.q 1 (.q 2 (.q 4 (.q 5 (.e 3 (.q 6 (.e 7 .fin)))))))) mixed ?_ ?_; kernel_rfl) | (refine WDA.finish (tl := [⟨_, _, _, _, _, _⟩, ⟨_, _, _, _, _, _⟩]) rfl ?_) | (refine WDA.finish (tl := [⟨_, _, _, _, _, _⟩, ⟨_, _, _, _, _, _⟩, ⟨_, _, _, _, _, _⟩, ⟨_, _, _, _, _, _⟩]) rfl ?_) | (refine WDQ.see rfl ?_) | (refine WDE.see rfl ?_) | (refine WDE.alloc rfl rfl (fun w h => h) (fun x => ?_)) | (refine WDE.stE rfl ?_) | (refine WDE.x rfl rfl ?_ ?_ (fun x => ?_); rotate_left 1; (intro x w h; first | exact h | exact Ent.drop1.sl h | exact SL.unI h | exact SL.to h); rotate_left 1; first | exact trivial | exact rfl | assumption | omega | (refine ⟨?_, ?_⟩ <;> omega) | (simp only [Room, lenS]; omega) | decide | skip) | (guard_target =~ WDE _ _ _ _ _ _ _ ⟨_, .call ⟨.value (.func 67), _, _⟩, _, _, _, _⟩ _ _ _; refine WDE.call rfl rfl (head_tr ⟨hq2, hq3⟩) ?_ ?_; (intro x w h; first | exact h | exact Ent.drop1.sl h | exact SL.unI h | exact SL.to h); rintro ⟨⟩; rw [hX]; dsimp only) | (guard_target =~ WDW _ _ _ _ _ _ _ ⟨_, .call ⟨.value (.func 67), _, _⟩, _, _, _, _⟩ _ _ _; refine WDW.call rfl rfl (head_tr ⟨hq2, hq3⟩) ?_; rintro ⟨⟩; rw [hX]; dsimp only) | (guard_target =~ WDQ _ _ _ _ _ _ _ ⟨_, .call ⟨.value (.func 68), _, _⟩, _, _, _, _⟩ _ _ _; refine WDQ.cq rfl rfl (Equal_tr (by assumption)) ?_) | (guard_target =~ WDE _ _ _ _ _ _ _ ⟨_, .call ⟨.value (.func 46), _, _⟩, _, _, _, _⟩ _ _ _; refine WDE.call rfl rfl (Clone_tr (by assumption)) ?_ ?_; (intro x w h; first | exact h | exact Ent.drop1.sl h | exact SL.unI h | exact SL.to h); rintro g') | (guard_target =~ WDW _ _ _ _ _ _ _ ⟨_, .call ⟨.value (.func 46), _, _⟩, _, _, _, _⟩ _ _ _; refine WDW.call rfl rfl (Clone_tr (by assumption)) ?_; rintro g') | (guard_target =~ WDE _ _ _ _ _ _ _ ⟨_, .call ⟨.value (.func 65), _, _⟩, _, _, _, _⟩ _ _ _; refine WDE.call rfl rfl (Push_trM (a := (q.1, q.2 + 1)) (by omega) (by omega) hgl' (hnext hnx)) ?_ ?_; (intro x w h; first | exact h | exact Ent.drop1.sl h | exact SL.unI h | exact SL.to h); rintro ⟨⟩) | (guard_target =~ WDW _ _ _ _ _ _ _ ⟨_, .call ⟨.value (.func 65), _, _⟩, _, _, _, _⟩ _ _ _; refine WDW.call rfl rfl (Push_trM (a := (q.1, q.2 + 1)) (by omega) (by omega) hgl' (hnext hnx)) ?_; rintro ⟨⟩) | ((first | refine WDQ.both rfl rfl ?_ ?_) <;> intro hg))
          all_goals have hsn : (cs.map Prod.fst).length = (ms.map Prod.fst).length := by rw [List.length_map, List.length_map, hcl]
          all_goals have hcs2 : (cs ++ [(g', xn)]).map Prod.snd = (ms ++ [(kg xg, xn)]).map Prod.snd := by rw [List.map_append, List.map_append, h5]; rfl
          · refine QQ.rndN (fun w h => ⟨.inl ⟨(q.1, q.2 + 1) :: l', c + 1, x, cs ++ [(g', xn)], ms ++ [(kg xg, xn)]⟩, rfl, hfin x _ _ _ hcs2 (.inl ⟨hnx, rfl, rfl⟩), ?_⟩)
            have h2 := (RowH.snoc hsn).sl ((EntC.out (L' := OwnS 3 g' (kg xg) :: RowH 3 (cs.map Prod.fst) (ms.map Prod.fst) :: PileM (ckey kg tp) p ((q.1, q.2 + 1) :: l', c + 1) :: Bk bx 133 [.pointer (some ⟨p, 0, none⟩)] :: Ob (D + 1) (rc .ready none) :: Ob D (.deferred (some [])) :: Bk t6 27 [.slice x.a x.n x.cap] :: OwnS 84 x (cs ++ [(g', xn)]) :: Bk pb 133 [.pointer (some ⟨p, 0, none⟩)] :: L)).sl h)
            dsimp only [Lk]
            simp only [List.map_append, List.map_cons, List.map_nil]
            exact h2.to
          · refine QQ.rndN (fun w h => ⟨.inl ⟨l', c, x, cs ++ [(g', xn)], ms ++ [(kg xg, xn)]⟩, rfl, hfin x _ _ _ hcs2 (.inr ⟨hnx, rfl, rfl⟩), ?_⟩)
            have h2 := (RowH.snoc hsn).sl ((EntC.out (L' := OwnS 3 g' (kg xg) :: RowH 3 (cs.map Prod.fst) (ms.map Prod.fst) :: PileM (ckey kg tp) p (l', c) :: Bk bx 133 [.pointer (some ⟨p, 0, none⟩)] :: Ob (D + 1) (rc .ready none) :: Ob D (.deferred (some [])) :: Bk t6 27 [.slice x.a x.n x.cap] :: OwnS 84 x (cs ++ [(g', xn)]) :: Bk pb 133 [.pointer (some ⟨p, 0, none⟩)] :: L)).sl h)
            dsimp only [Lk]
            simp only [List.map_append, List.map_cons, List.map_nil]
            exact h2.to
        · have hz0 : (0 : Int) < cs.length := by omega
          have hmi : ms.length - 1 < ms.length := by omega
          have hlast : ms.getD (ms.length - 1) ([], 0) = ms[ms.length - 1] := by simp [List.getD_eq_getElem?_getD, hmi]
          have hci : (cs.length : Int) - 1 = ((ms.length - 1 : Nat) : Int) := by omega
          have hcat : at_ cs ((cs.length : Int) - 1) = cs[ms.length - 1] := by rw [hci]; exact at_nat _ _ (by omega)
          rw [hlast] at hpl
          have hlb := h6b _ (List.getElem_mem hmi)
          have hsnd : (at_ cs ((cs.length : Int) - 1)).2 = ms[ms.length - 1].2 := by
            rw [hcat]
            have := congrArg (fun l => l[ms.length - 1]?) h5
            simp only [List.getElem?_map, List.getElem?_eq_getElem hmi, List.getElem?_eq_getElem (show ms.length - 1 < cs.length by omega), Option.map_some] at this
            injection this
          have hmne : ms ≠ [] := fun e => by rw [e] at hmi; simp at hmi
          haveI hrow : IsRow (cs.map Prod.fst) (ms.map Prod.fst) (at_ cs ((cs.length : Int) - 1)).1 ms[ms.length - 1].1 := ⟨⟨ms.length - 1, by rw [List.length_map]; omega, by rw [List.length_map]; omega, by
            rw [hcat, List.getD_eq_getElem?_getD, List.getElem?_map, List.getElem?_eq_getElem (by omega)]; rfl, by
            rw [List.getD_eq_getElem?_getD, List.getElem?_map, List.getElem?_eq_getElem hmi]; rfl⟩⟩
          have hlb' : ms[ms.length - 1].1.length ≤ 1000000000 := by omega
          by_cases heq : ms[ms.length - 1].1 = kg xg
          · rw [dif_pos ⟨hmne, heq⟩] at hpl
            rw [hpl] at hfin
            have hnat : ((cs.length : Int) - 1).toNat = ms.length - 1 := by omega
            have hf1 : (cs.set ((cs.length : Int) - 1).toNat ((at_ cs ((cs.length : Int) - 1)).1, IntKind.i64.wrap ((at_ cs ((cs.length : Int) - 1)).2 + xn))).map Prod.fst = cs.map Prod.fst := map_set_fst fun y hy => by
              rw [hnat, List.getElem?_eq_getElem (by omega)] at hy; injection hy with hy; show y.1 = (at_ cs ((cs.length : Int) - 1)).1; rw [hcat, ← hy]
            have hf2 : (ms.set (ms.length - 1) (kg xg, addN ms[ms.length - 1].2 xn)).map Prod.fst = ms.map Prod.fst := map_set_fst fun y hy => by
              rw [List.getElem?_eq_getElem hmi] at hy; injection hy with hy; show y.1 = kg xg; rw [← heq, ← hy]
            have hcs2 : (cs.set ((cs.length : Int) - 1).toNat ((at_ cs ((cs.length : Int) - 1)).1, IntKind.i64.wrap ((at_ cs ((cs.length : Int) - 1)).2 + xn))).map Prod.snd = (ms.set (ms.length - 1) (kg xg, addN ms[ms.length - 1].2 xn)).map Prod.snd := by
              rw [hnat]; exact map_set_snd h5 (by rw [hsnd])
            by_cases hnx : q.2 + 1 < (tp q.1).length
            all_goals skip
            repeat' (first | ((first | refine WLA.m rfl rfl ?_ ?_ | refine WDQ.m rfl rfl ?_ ?_ | refine WLA.st rfl ?_ ?_ | refine WLA.x rfl rfl ?_ (fun x => ?_) | refine WLA.x0 rfl ?_ (fun x => ?_)); first | exact trivial | exact rfl | assumption | omega | (refine ⟨?_, ?_⟩ <;> omega) | (simp only [Room, lenS]; omega) | decide | skip) | (refine Stp.go ?_) | (guard_target =~ WLA _ _ _ _ _ (⟨_, .call ⟨.value (.func 67), _, _⟩, _, _, _, _⟩ :: _) _ _; refine WLA.call rfl rfl (head_tr ⟨hq2, hq3⟩) ?_; rintro ⟨⟩; rw [hX]; dsimp only) | (guard_target =~ WLA _ _ _ _ _ (⟨_, .call ⟨.value (.func 68), _, _⟩, _, _, _, _⟩ :: _) _ _; refine WLA.cq rfl rfl (Equal_tr (by assumption)) ?_) | (guard_target =~ WLA _ _ _ _ _ (⟨_, .call ⟨.value (.func 46), _, _⟩, _, _, _, _⟩ :: _) _ _; refine WLA.call rfl rfl (Clone_tr (by assumption)) ?_; rintro g') | (guard_target =~ WLA _ _ _ _ _ (⟨_, .call ⟨.value (.func 65), _, _⟩, _, _, _, _⟩ :: _) _ _; refine WLA.call rfl rfl (Push_trM (a := (q.1, q.2 + 1)) (by omega) (by omega) hgl' (hnext hnx)) ?_; rintro ⟨⟩) | (refine WPA.ifT ?_) | (refine WPA.ifF ?_) | (refine WLA.no rfl rfl ?_) | (refine WDQ.no rfl rfl ?_) | ((first | refine WPA.dec ?_ | ((fail_if_success (guard_target =~ WLA _ _ _ _ _ _ (put1 _ _ (.bool true)) _)); (fail_if_success (guard_target =~ WLA _ _ _ _ _ _ (put1 _ _ (.bool false)) _)); refine WLA.dec rfl rfl ?_) | refine WLA.pk ?_ | refine WDQ.dec rfl rfl ?_); first | refine .inl ⟨by first | assumption | omega | with_reducible rfl | (refine fun h => h ?_; first | assumption | with_reducible rfl) | (simp only [lenS] <;> omega) | decide, ?_⟩ | refine .inr ⟨by first | assumption | omega | with_reducible rfl | (refine fun h => h ?_; first | assumption | with_reducible rfl) | (simp only [lenS] <;> omega) | decide, ?_⟩) | ((first | refine WPA.ifBt ?_ ?_ | refine WPA.ifBnf ?_ ?_); assumption) | ((first | refine WPA.ifBnt ?_ ?_ | refine WPA.ifBf ?_ ?_); assumption) | ((first | refine WPA.ifs ?_ ?_ | refine WPA.ifB ?_ ?_) <;> intro hc) | ((fail_if_success (guard_target =~ WLA _ _ _ _ _ _ (put1 _ _ (.bool true)) _)); (fail_if_success (guard_target =~ WLA _ _ _ _ _ _ (put1 _ _ (.bool false)) _)); (first | refine WLA.both rfl rfl ?_ ?_ | refine WLA.bothB rfl rfl ?_ ?_) <;> intro hg) | (guard_target =~ WPA _ _ _ (.region 13 _ true) _ _ _; refine WPA.drawT 11 (.q 0 (.q 1 (.q 2 (.q 3 (.q 4 (.q 5 (.q 6 (.q 7 (.q 8 (.q 9 (.q 10 .fin))))))))))) mixed ?_ ?_; kernel_rfl) | (refine WDA.finish (tl := [⟨_, _, _, _, _, _⟩, ⟨_, _, _, _, _, _⟩]) rfl ?_) | (refine WDQ.see rfl ?_) | (guard_target =~ WDE _ _ _ _ _ _ _ ⟨_, .call ⟨.value (.func 67), _, _⟩, _, _, _, _⟩ _ _ _; refine WDE.call rfl rfl (head_tr ⟨hq2, hq3⟩) ?_ ?_; (intro x w h; first | exact h | exact Ent.drop1.sl h | exact SL.unI h | exact SL.to h); rintro ⟨⟩; rw [hX]; dsimp only) | (guard_target =~ WDW _ _ _ _ _ _ _ ⟨_, .call ⟨.value (.func 67), _, _⟩, _, _, _, _⟩ _ _ _; refine WDW.call rfl rfl (head_tr ⟨hq2, hq3⟩) ?_; rintro ⟨⟩; rw [hX]; dsimp only) | (guard_target =~ WDQ _ _ _ _ _ _ _ ⟨_, .call ⟨.value (.func 68), _, _⟩, _, _, _, _⟩ _ _ _; refine WDQ.cq rfl rfl (Equal_tr (by assumption)) ?_) | (guard_target =~ WDE _ _ _ _ _ _ _ ⟨_, .call ⟨.value (.func 46), _, _⟩, _, _, _, _⟩ _ _ _; refine WDE.call rfl rfl (Clone_tr (by assumption)) ?_ ?_; (intro x w h; first | exact h | exact Ent.drop1.sl h | exact SL.unI h | exact SL.to h); rintro g') | (guard_target =~ WDW _ _ _ _ _ _ _ ⟨_, .call ⟨.value (.func 46), _, _⟩, _, _, _, _⟩ _ _ _; refine WDW.call rfl rfl (Clone_tr (by assumption)) ?_; rintro g') | (guard_target =~ WDE _ _ _ _ _ _ _ ⟨_, .call ⟨.value (.func 65), _, _⟩, _, _, _, _⟩ _ _ _; refine WDE.call rfl rfl (Push_trM (a := (q.1, q.2 + 1)) (by omega) (by omega) hgl' (hnext hnx)) ?_ ?_; (intro x w h; first | exact h | exact Ent.drop1.sl h | exact SL.unI h | exact SL.to h); rintro ⟨⟩) | (guard_target =~ WDW _ _ _ _ _ _ _ ⟨_, .call ⟨.value (.func 65), _, _⟩, _, _, _, _⟩ _ _ _; refine WDW.call rfl rfl (Push_trM (a := (q.1, q.2 + 1)) (by omega) (by omega) hgl' (hnext hnx)) ?_; rintro ⟨⟩) | ((first | refine WDQ.both rfl rfl ?_ ?_) <;> intro hg))
            all_goals skip
            repeat' ((fail_if_success (guard_target =~ WPA _ _ _ (.region 16 _ _) _ _ _)); first | (guard_target =~ WLA _ _ _ _ _ (⟨_, .binOp .add _ _ _ _, _, _, _, _⟩ :: _) _ _; refine WLA.m (h := addW) rfl rfl trivial ?_) | (guard_target =~ WDQ _ _ _ _ _ _ _ ⟨_, .binOp .add _ _ _ _, _, _, _, _⟩ _ _ _; refine WDQ.m (h := addW) rfl rfl trivial ?_) | (guard_target =~ WDP _ _ _ _ _ _ _ ⟨_, .binOp .add _ _ _ _, _, _, _, _⟩ _ _ _; refine WDP.m (h := addW) rfl rfl trivial ?_) | ((first | refine WLA.m rfl rfl ?_ ?_ | refine WDQ.m rfl rfl ?_ ?_ | refine WLA.st rfl ?_ ?_ | refine WLA.x rfl rfl ?_ (fun x => ?_) | refine WLA.x0 rfl ?_ (fun x => ?_)); first | exact trivial | exact rfl | assumption | omega | (refine ⟨?_, ?_⟩ <;> omega) | (simp only [Room, lenS]; omega) | decide | skip) | (refine Stp.go ?_) | (refine WPA.ifT ?_) | (refine WPA.ifF ?_) | ((first | refine WPA.dec ?_); first | refine .inl ⟨by first | assumption | omega | with_reducible rfl | (refine fun h => h ?_; first | assumption | with_reducible rfl) | (simp only [lenS] <;> omega) | decide, ?_⟩ | refine .inr ⟨by first | assumption | omega | with_reducible rfl | (refine fun h => h ?_; first | assumption | with_reducible rfl) | (simp only [lenS] <;> omega) | decide, ?_⟩) | ((first | refine WPA.ifBt ?_ ?_ | refine WPA.ifBnf ?_ ?_); assumption) | ((first | refine WPA.ifBnt ?_ ?_ | refine WPA.ifBf ?_ ?_); assumption) | ((first | refine WPA.ifs ?_ ?_ | refine WPA.ifB ?_ ?_) <;> intro hc) | (guard_target =~ WPA _ _ _ (.region 14 _ true) _ _ _; refine WPA.drawT 8 (.q 0 (.q 1 (.q 2 (.q 3 (.q 4 (.q 5 (.q 6 (.q 7 .fin)))))))) mixed ?_ ?_; kernel_rfl) | (refine WDA.finish (tl := [⟨_, _, _, _, _, _⟩, ⟨_, _, _, _, _, _⟩, ⟨_, _, _, _, _, _⟩, ⟨_, _, _, _, _, _⟩]) rfl ?_) | (refine WDQ.see rfl ?_))
            all_goals skip
            repeat' (first | ((first | refine WLA.m rfl rfl ?_ ?_ | refine WLA.st rfl ?_ ?_ | refine WLA.x rfl rfl ?_ (fun x => ?_) | refine WLA.x0 rfl ?_ (fun x => ?_)); first | exact trivial | exact rfl | assumption | omega | (refine ⟨?_, ?_⟩ <;> omega) | (simp only [Room, lenS]; omega) | decide | skip) | (refine Stp.go ?_) | (guard_target =~ WLA _ _ _ _ _ (⟨_, .call ⟨.value (.func 65), _, _⟩, _, _, _, _⟩ :: _) _ _; refine WLA.call rfl rfl (Push_trM (a := (q.1, q.2 + 1)) (by omega) (by omega) hgl' (hnext hnx)) ?_; rintro ⟨⟩) | (refine WPA.ifT ?_) | (refine WPA.ifF ?_) | ((first | refine WPA.dec ?_); first | refine .inl ⟨by first | assumption | omega | with_reducible rfl | (refine fun h => h ?_; first | assumption | with_reducible rfl) | (simp only [lenS] <;> omega) | decide, ?_⟩ | refine .inr ⟨by first | assumption | omega | with_reducible rfl | (refine fun h => h ?_; first | assumption | with_reducible rfl) | (simp only [lenS] <;> omega) | decide, ?_⟩) | ((first | refine WPA.ifBt ?_ ?_ | refine WPA.ifBnf ?_ ?_); assumption) | ((first | refine WPA.ifBnt ?_ ?_ | refine WPA.ifBf ?_ ?_); assumption) | ((first | refine WPA.ifs ?_ ?_ | refine WPA.ifB ?_ ?_) <;> intro hc))
            · refine QQ.rndN (fun w h => ⟨.inl ⟨(q.1, q.2 + 1) :: l', c + 1, out, _, _⟩, rfl, hfin out _ _ _ hcs2 (.inl ⟨hnx, rfl, rfl⟩), ?_⟩)
              dsimp only [Lk]
              rw [hf1, hf2]
              exact h.to
            · refine QQ.rndN (fun w h => ⟨.inl ⟨l', c, out, _, _⟩, rfl, hfin out _ _ _ hcs2 (.inr ⟨hnx, rfl, rfl⟩), ?_⟩)
              dsimp only [Lk]
              rw [hf1, hf2]
              exact h.to
          · rw [dif_neg (fun h => heq h.2)] at hpl
            rw [hpl] at hfin
            by_cases hnx : q.2 + 1 < (tp q.1).length
            all_goals skip
            repeat' (first | ((first | refine WLA.m rfl rfl ?_ ?_ | refine WDQ.m rfl rfl ?_ ?_ | refine WLA.st rfl ?_ ?_ | refine WLA.x rfl rfl ?_ (fun x => ?_) | refine WLA.x0 rfl ?_ (fun x => ?_)); first | exact trivial | exact rfl | assumption | omega | (refine ⟨?_, ?_⟩ <;> omega) | (simp only [Room, lenS]; omega) | decide | skip) | (refine Stp.go ?_) | (guard_target =~ WLA _ _ _ _ _ (⟨_, .call ⟨.value (.func 67), _, _⟩, _, _, _, _⟩ :: _) _ _; refine WLA.call rfl rfl (head_tr ⟨hq2, hq3⟩) ?_; rintro ⟨⟩; rw [hX]; dsimp only) | (guard_target =~ WLA _ _ _ _ _ (⟨_, .call ⟨.value (.func 68), _, _⟩, _, _, _, _⟩ :: _) _ _; refine WLA.cq rfl rfl (Equal_tr (by assumption)) ?_) | (guard_target =~ WLA _ _ _ _ _ (⟨_, .call ⟨.value (.func 46), _, _⟩, _, _, _, _⟩ :: _) _ _; refine WLA.call rfl rfl (Clone_tr (by assumption)) ?_; rintro g') | (guard_target =~ WLA _ _ _ _ _ (⟨_, .call ⟨.value (.func 65), _, _⟩, _, _, _, _⟩ :: _) _ _; refine WLA.call rfl rfl (Push_trM (a := (q.1, q.2 + 1)) (by omega) (by omega) hgl' (hnext hnx)) ?_; rintro ⟨⟩) | (refine WPA.ifT ?_) | (refine WPA.ifF ?_) | (refine WLA.no rfl rfl ?_) | (refine WDQ.no rfl rfl ?_) | ((first | refine WPA.dec ?_ | ((fail_if_success (guard_target =~ WLA _ _ _ _ _ _ (put1 _ _ (.bool true)) _)); (fail_if_success (guard_target =~ WLA _ _ _ _ _ _ (put1 _ _ (.bool false)) _)); refine WLA.dec rfl rfl ?_) | refine WLA.pk ?_ | refine WDQ.dec rfl rfl ?_); first | refine .inl ⟨by first | assumption | omega | with_reducible rfl | (refine fun h => h ?_; first | assumption | with_reducible rfl) | (simp only [lenS] <;> omega) | decide, ?_⟩ | refine .inr ⟨by first | assumption | omega | with_reducible rfl | (refine fun h => h ?_; first | assumption | with_reducible rfl) | (simp only [lenS] <;> omega) | decide, ?_⟩) | ((first | refine WPA.ifBt ?_ ?_ | refine WPA.ifBnf ?_ ?_); assumption) | ((first | refine WPA.ifBnt ?_ ?_ | refine WPA.ifBf ?_ ?_); assumption) | ((first | refine WPA.ifs ?_ ?_ | refine WPA.ifB ?_ ?_) <;> intro hc) | ((fail_if_success (guard_target =~ WLA _ _ _ _ _ _ (put1 _ _ (.bool true)) _)); (fail_if_success (guard_target =~ WLA _ _ _ _ _ _ (put1 _ _ (.bool false)) _)); (first | refine WLA.both rfl rfl ?_ ?_ | refine WLA.bothB rfl rfl ?_ ?_) <;> intro hg) | (guard_target =~ WPA _ _ _ (.region 13 _ true) _ _ _; refine WPA.drawT 11 (.q 0 (.q 1 (.q 2 (.q 3 (.q 4 (.q 5 (.q 6 (.q 7 (.q 8 (.q 9 (.q 10 .fin))))))))))) mixed ?_ ?_; kernel_rfl) | (guard_target =~ WPA _ _ _ (.region 14 _ true) _ _ _; refine WPA.drawT 8 (.q 0 (.q 1 (.q 2 (.q 3 (.q 4 (.q 5 (.q 6 (.q 7 .fin)))))))) mixed ?_ ?_; kernel_rfl) | (guard_target =~ WPA _ _ _ (.region 15 _ true) _ _ _; refine WPA.drawT 8 (.q 0 (.q 1 (.q 2 (.q 4 (.q 5 (.e 3 (.q 6 (.e 7 .fin)))))))) mixed ?_ ?_; kernel_rfl) | (refine WDA.finish (tl := [⟨_, _, _, _, _, _⟩, ⟨_, _, _, _, _, _⟩]) rfl ?_) | (refine WDA.finish (tl := [⟨_, _, _, _, _, _⟩, ⟨_, _, _, _, _, _⟩, ⟨_, _, _, _, _, _⟩, ⟨_, _, _, _, _, _⟩]) rfl ?_) | (refine WDQ.see rfl ?_) | (refine WDE.see rfl ?_) | (refine WDE.alloc rfl rfl (fun w h => h) (fun x => ?_)) | (refine WDE.stE rfl ?_) | (refine WDE.x rfl rfl ?_ ?_ (fun x => ?_); rotate_left 1; (intro x w h; first | exact h | exact Ent.drop1.sl h | exact SL.unI h | exact SL.to h); rotate_left 1; first | exact trivial | exact rfl | assumption | omega | (refine ⟨?_, ?_⟩ <;> omega) | (simp only [Room, lenS]; omega) | decide | skip) | (guard_target =~ WDE _ _ _ _ _ _ _ ⟨_, .call ⟨.value (.func 67), _, _⟩, _, _, _, _⟩ _ _ _; refine WDE.call rfl rfl (head_tr ⟨hq2, hq3⟩) ?_ ?_; (intro x w h; first | exact h | exact Ent.drop1.sl h | exact SL.unI h | exact SL.to h); rintro ⟨⟩; rw [hX]; dsimp only) | (guard_target =~ WDW _ _ _ _ _ _ _ ⟨_, .call ⟨.value (.func 67), _, _⟩, _, _, _, _⟩ _ _ _; refine WDW.call rfl rfl (head_tr ⟨hq2, hq3⟩) ?_; rintro ⟨⟩; rw [hX]; dsimp only) | (guard_target =~ WDQ _ _ _ _ _ _ _ ⟨_, .call ⟨.value (.func 68), _, _⟩, _, _, _, _⟩ _ _ _; refine WDQ.cq rfl rfl (Equal_tr (by assumption)) ?_) | (guard_target =~ WDE _ _ _ _ _ _ _ ⟨_, .call ⟨.value (.func 46), _, _⟩, _, _, _, _⟩ _ _ _; refine WDE.call rfl rfl (Clone_tr (by assumption)) ?_ ?_; (intro x w h; first | exact h | exact Ent.drop1.sl h | exact SL.unI h | exact SL.to h); rintro g') | (guard_target =~ WDW _ _ _ _ _ _ _ ⟨_, .call ⟨.value (.func 46), _, _⟩, _, _, _, _⟩ _ _ _; refine WDW.call rfl rfl (Clone_tr (by assumption)) ?_; rintro g') | (guard_target =~ WDE _ _ _ _ _ _ _ ⟨_, .call ⟨.value (.func 65), _, _⟩, _, _, _, _⟩ _ _ _; refine WDE.call rfl rfl (Push_trM (a := (q.1, q.2 + 1)) (by omega) (by omega) hgl' (hnext hnx)) ?_ ?_; (intro x w h; first | exact h | exact Ent.drop1.sl h | exact SL.unI h | exact SL.to h); rintro ⟨⟩) | (guard_target =~ WDW _ _ _ _ _ _ _ ⟨_, .call ⟨.value (.func 65), _, _⟩, _, _, _, _⟩ _ _ _; refine WDW.call rfl rfl (Push_trM (a := (q.1, q.2 + 1)) (by omega) (by omega) hgl' (hnext hnx)) ?_; rintro ⟨⟩) | ((first | refine WDQ.both rfl rfl ?_ ?_) <;> intro hg))
            all_goals have hsn : (cs.map Prod.fst).length = (ms.map Prod.fst).length := by rw [List.length_map, List.length_map, hcl]
            all_goals have hcs2 : (cs ++ [(g', xn)]).map Prod.snd = (ms ++ [(kg xg, xn)]).map Prod.snd := by rw [List.map_append, List.map_append, h5]; rfl
            · refine QQ.rndN (fun w h => ⟨.inl ⟨(q.1, q.2 + 1) :: l', c + 1, x, cs ++ [(g', xn)], ms ++ [(kg xg, xn)]⟩, rfl, hfin x _ _ _ hcs2 (.inl ⟨hnx, rfl, rfl⟩), ?_⟩)
              have h2 := (RowH.snoc hsn).sl ((EntC.out (L' := OwnS 3 g' (kg xg) :: RowH 3 (cs.map Prod.fst) (ms.map Prod.fst) :: PileM (ckey kg tp) p ((q.1, q.2 + 1) :: l', c + 1) :: Bk bx 133 [.pointer (some ⟨p, 0, none⟩)] :: Ob (D + 1) (rc .ready none) :: Ob D (.deferred (some [])) :: Bk t6 27 [.slice x.a x.n x.cap] :: OwnS 84 x (cs ++ [(g', xn)]) :: Bk pb 133 [.pointer (some ⟨p, 0, none⟩)] :: L)).sl h)
              dsimp only [Lk]
              simp only [List.map_append, List.map_cons, List.map_nil]
              exact h2.to
            · refine QQ.rndN (fun w h => ⟨.inl ⟨l', c, x, cs ++ [(g', xn)], ms ++ [(kg xg, xn)]⟩, rfl, hfin x _ _ _ hcs2 (.inr ⟨hnx, rfl, rfl⟩), ?_⟩)
              have h2 := (RowH.snoc hsn).sl ((EntC.out (L' := OwnS 3 g' (kg xg) :: RowH 3 (cs.map Prod.fst) (ms.map Prod.fst) :: PileM (ckey kg tp) p (l', c) :: Bk bx 133 [.pointer (some ⟨p, 0, none⟩)] :: Ob (D + 1) (rc .ready none) :: Ob D (.deferred (some [])) :: Bk t6 27 [.slice x.a x.n x.cap] :: OwnS 84 x (cs ++ [(g', xn)]) :: Bk pb 133 [.pointer (some ⟨p, 0, none⟩)] :: L)).sl h)
              dsimp only [Lk]
              simp only [List.map_append, List.map_cons, List.map_nil]
              exact h2.to
      · have hrl := hp.length_eq
        exact ⟨⟨hq, by dsimp only; omega, by dsimp only; omega, by dsimp only [List.length_nil]; omega⟩, ⟨rfl, List.Pairwise.nil, by simp⟩, foldl_perm hp List.Pairwise.nil, by simp⟩
      · show SL w0 I (PileM (ckey kg tp) p (l, c) :: Bk bx 133 [.pointer (some ⟨p, 0, none⟩)] :: Ob (D + 1) (rc .ready none) :: Ob D (.deferred (some [])) :: Bk t6 27 [.slice SV.nil.a SV.nil.n SV.nil.cap] :: OwnS 84 SV.nil ([] : List (SV × Int)) :: RowH 3 [] ([] : List (List Int)) :: Bk pb 133 [.pointer (some ⟨p, 0, none⟩)] :: L) w
        have h2 : SL w0 I (Ob (D + 1) (rc .ready none) :: Ob D (.deferred (some [])) :: Bk bx 133 [.pointer (some ⟨p, 0, none⟩)] :: Bk t6 27 [.slice SV.nil.a SV.nil.n SV.nil.cap] :: PileM (ckey kg tp) p (l, c) :: Bk pb 133 [.pointer (some ⟨p, 0, none⟩)] :: L) w := h
        have h3 := (RowH.nil (α := Int) (e := 3)).sl h2
        exact h3.to
      · rintro (x | x) w hb
        · refine ⟨⟨x, hb.1⟩, rfl, ?_⟩
          have h := hb.2
          dsimp only [Lk] at h ⊢
          exact h.to
        · exact x.elim
    · rintro ⟨⟨l, c, out, cs, ms⟩, ⟨⟨h1, h2, h3, h4⟩, ⟨h5, h6, h6b⟩, h7, h8⟩, hl⟩
      dsimp only at h5 h7 hl ⊢
      subst hl
      refine ⟨by simp, ?_⟩
      show QQ _ _ _ _
      repeat' (first | ((first | refine WLA.m rfl rfl ?_ ?_ | refine WLA.st rfl ?_ ?_ | refine WLA.x rfl rfl ?_ (fun x => ?_) | refine WLA.x0 rfl ?_ (fun x => ?_)); first | exact trivial | exact rfl | assumption | omega | (refine ⟨?_, ?_⟩ <;> omega) | (simp only [Room, lenS]; omega) | decide | skip) | (refine Stp.go ?_) | (refine WPA.ifT ?_) | (refine WPA.ifF ?_) | ((first | refine WPA.dec ?_); first | refine .inl ⟨by first | assumption | omega | with_reducible rfl | (refine fun h => h ?_; first | assumption | with_reducible rfl) | (simp only [lenS] <;> omega) | decide, ?_⟩ | refine .inr ⟨by first | assumption | omega | with_reducible rfl | (refine fun h => h ?_; first | assumption | with_reducible rfl) | (simp only [lenS] <;> omega) | decide, ?_⟩) | ((first | refine WPA.ifBt ?_ ?_ | refine WPA.ifBnf ?_ ?_); assumption) | ((first | refine WPA.ifBnt ?_ ?_ | refine WPA.ifBf ?_ ?_); assumption) | ((first | refine WPA.ifs ?_ ?_ | refine WPA.ifB ?_ ?_) <;> intro hc))
      have h7 : ms = all.foldl putM [] := h7
      rw [← h7]
      exact QQ.fin [D] (L' := OwnS 84 out cs :: RowH 3 (cs.map Prod.fst) (ms.map Prod.fst) :: L) rfl (EntC.out (L' := Ob D (.deferred (some [])) :: OwnS 84 out cs :: RowH 3 (cs.map Prod.fst) (ms.map Prod.fst) :: L)) rfl (out, cs) rfl fun w h => ⟨h5, h⟩
end Go.Proofs.YtamnobjdgjbmbaaGreat
