/- A pile as the list of what came: plain laws. Conditions: none. -/
import Derived.Test.YtckackfgkidedaaPi2
namespace Go.Proofs.Ytckackfgkidedaa
open Go Go.Fw
set_option linter.unusedVariables false
set_option linter.unusedSimpArgs false

abbrev It := Int × Int
def zipE : List It → List Nat → List E
  | a :: l, c :: cs => (a, (c : Int)) :: zipE l cs
  | _, _ => []
theorem zipE_len : ∀ {l : List It} {cs : List Nat}, cs.length = l.length → (zipE l cs).length = l.length
  | [], [], _ => rfl
  | a :: l, c :: cs, h => by simp [zipE, zipE_len (l := l) (cs := cs) (by simpa using h)]
  | [], _ :: _, h => by simp at h
  | _ :: _, [], h => by simp at h
theorem zipE_get : ∀ {l : List It} {cs : List Nat} (h : cs.length = l.length) (i : Nat) (hi : i < l.length), (zipE l cs)[i]'(by rw [zipE_len h]; exact hi) = (l[i], (cs[i]'(by omega) : Int))
  | a :: l, c :: cs, h, 0, _ => rfl
  | a :: l, c :: cs, h, i + 1, hi => by simp only [zipE, List.getElem_cons_succ]; exact zipE_get (by simpa using h) i (by simpa using hi)
  | [], [], h, i, hi => by simp at hi
  | [], _ :: _, h, _, _ => by simp at h
  | _ :: _, [], h, _, _ => by simp at h
theorem zipE_snoc : ∀ {l : List It} {cs : List Nat} (h : cs.length = l.length) (a : It) (c : Nat), zipE (l ++ [a]) (cs ++ [c]) = zipE l cs ++ [(a, (c : Int))]
  | [], [], _, a, c => rfl
  | x :: l, y :: cs, h, a, c => by simp only [List.cons_append, zipE, zipE_snoc (l := l) (cs := cs) (by simpa using h)]
  | [], _ :: _, h, _, _ => by simp at h
  | _ :: _, [], h, _, _ => by simp at h
theorem zipE_erase : ∀ {l : List It} {cs : List Nat} (h : cs.length = l.length) (i : Nat), zipE (l.eraseIdx i) (cs.eraseIdx i) = (zipE l cs).eraseIdx i
  | [], [], _, i => rfl
  | x :: l, y :: cs, h, 0 => rfl
  | x :: l, y :: cs, h, i + 1 => by simp only [List.eraseIdx_cons_succ, zipE, zipE_erase (l := l) (cs := cs) (by simpa using h)]
  | [], _ :: _, h, _ => by simp at h
  | _ :: _, [], h, _ => by simp at h
/-- The place of the top, of the first i things. -/
def topI (l : List It) : Nat → Int
  | 0 => -1
  | i + 1 => if topI l i < 0 ∨ (at_ l (i : Int)).1 < (at_ l (topI l i)).1 then i else topI l i
def topL (l : List It) : Int := topI l l.length
theorem topI_range (l : List It) : ∀ i, -1 ≤ topI l i ∧ topI l i < i ∧ (0 < i → 0 ≤ topI l i)
  | 0 => by simp [topI]
  | i + 1 => by have := topI_range l i; simp only [topI]; split <;> omega
theorem topI_least (l : List It) : ∀ i, ∀ j : Nat, j < i → ¬ (at_ l (j : Int)).1 < (at_ l (topI l i)).1 ∧ ((j : Int) < topI l i → (at_ l (topI l i)).1 < (at_ l (j : Int)).1)
  | 0, j, h => by omega
  | i + 1, j, h => by
    have hr := topI_range l i
    simp only [topI]
    split
    · rename_i hc
      by_cases hj : j = i
      · subst hj; omega
      · have := topI_least l i j (by omega); omega
    · by_cases hj : j = i
      · subst hj; omega
      · exact topI_least l i j (by omega)
theorem topL_range (l : List It) : -1 ≤ topL l ∧ topL l < l.length ∧ (l ≠ [] → 0 ≤ topL l) := by
  have := topI_range l l.length
  refine ⟨this.1, this.2.1, fun h => this.2.2 (List.length_pos_iff.2 h)⟩
def withoutL (l : List It) (a : Int) : List It := if a < 0 then l else l.eraseIdx a.toNat
/-- The entries of a pile to which all of l has come, c things in all. -/
structure Abs (es : List E) (c : Nat) (l : List It) : Prop where
  heap : HeapL es
  perm : ∃ cs : List Nat, cs.length = l.length ∧ (∀ i (hi : i < cs.length), cs[i] < c) ∧ (∀ i j (hi : i < j) (hj : j < cs.length), cs[i]'(by omega) < cs[j]) ∧ es.Perm (zipE l cs)
theorem Abs.len {es : List E} {c : Nat} {l : List It} (h : Abs es c l) : es.length = l.length := by
  obtain ⟨cs, h1, _, _, h4⟩ := h.perm
  rw [h4.length_eq, zipE_len h1]
theorem Abs.nil : Abs [] 0 [] := ⟨fun k h0 hk => by simp at hk, [], rfl, by simp, by simp, by simp [zipE]⟩
theorem atE_get (l : List E) (k : Nat) (h : k < l.length) : atE l k = l[k] := by simp [atE, List.getD_eq_getElem?_getD, h]
/-- Something comes. -/
theorem Abs.up {es : List E} {c : Nat} {l : List It} (h : Abs es c l) (a : It) : UpF (atE (es ++ [(a, (c : Int))])) (es.length + 1) es.length := by
  refine ⟨fun k h0 hk hne => ?_, fun k h0 hk hp _ => ?_⟩
  · have hk' : k < es.length := by omega
    have hp : par k < es.length := by unfold par; omega
    have := h.heap k h0 hk'
    have e : ∀ q, q < es.length → atE (es ++ [(a, (c : Int))]) q = atE es q := fun q hq => by
      simp [atE, List.getD_eq_getElem?_getD, List.getElem?_append, hq]
    rw [e k hk', e _ hp]; exact this
  · unfold par at hp; omega
theorem Abs.push {es es' : List E} {c : Nat} {l : List It} (h : Abs es c l) (a : It) (hp : es'.Perm (es ++ [(a, (c : Int))])) (hh : HeapL es') : Abs es' (c + 1) (l ++ [a]) := by
  obtain ⟨cs, h1, h2, h3, h4⟩ := h.perm
  refine ⟨hh, cs ++ [c], by simp [h1], fun i hi => ?_, fun i j hi hj => ?_, ?_⟩
  · rw [List.getElem_append]
    split
    · have := h2 i (by assumption); omega
    · simp
  · simp only [List.length_append, List.length_singleton] at hj
    rw [List.getElem_append, List.getElem_append]
    rw [dif_pos (show i < cs.length by omega)]
    split
    · exact h3 i j hi (by assumption)
    · simp only [List.getElem_singleton]; exact h2 i (by omega)
  · rw [zipE_snoc h1]
    exact hp.trans (h4.append_right _)
/-- The first entry is the top. -/
theorem Abs.top {es : List E} {c : Nat} {l : List It} (h : Abs es c l) (hne : 0 < es.length) : (atE es 0).1 = at_ l (topL l) ∧ ∃ cs : List Nat, ∃ h1 : cs.length = l.length, (∀ i (hi : i < cs.length), cs[i] < c) ∧ (∀ i j (hi : i < j) (hj : j < cs.length), cs[i]'(by omega) < cs[j]) ∧ es.Perm (zipE l cs) ∧ (zipE l cs)[(topL l).toNat]? = some (atE es 0) := by
  obtain ⟨cs, h1, h2, h3, h4⟩ := h.perm
  have hl := h.len
  have hr := topL_range l
  have ht := hr.2.2 (List.length_pos_iff.1 (by omega))
  have hlt : (topL l).toNat < l.length := by omega
  have hm : es[0] ∈ zipE l cs := h4.subset (List.getElem_mem hne)
  obtain ⟨j, hj, he⟩ := List.getElem_of_mem hm
  have hj' : j < l.length := by rwa [zipE_len h1] at hj
  rw [zipE_get h1 j hj'] at he
  have hm2 : (zipE l cs)[(topL l).toNat]'(by rw [zipE_len h1]; exact hlt) ∈ es := h4.symm.subset (List.getElem_mem _)
  obtain ⟨q, hq, hq2⟩ := List.getElem_of_mem hm2
  rw [zipE_get h1 _ hlt] at hq2
  have hle := heap_least h.heap q hq
  rw [atE_get _ _ hq, atE_get _ _ hne, hq2, ← he] at hle
  have hT := topI_least l l.length j hj'
  have e1 : at_ l (j : Int) = l[j] := at_nat l j hj'
  have e2 : at_ l (topL l) = l[(topL l).toNat] := at_int l _ ht hr.2.1
  have hT2 : ¬ (l[j]).1 < (l[(topL l).toNat]).1 ∧ ((j : Int) < topL l → (l[(topL l).toNat]).1 < (l[j]).1) := by
    rw [← e1, ← e2]; exact hT
  have hjt : j = (topL l).toNat := by
    rcases Nat.lt_trichotomy j (topL l).toNat with hlt2 | heq | hgt
    · have := hT2.2 (by omega)
      unfold ltE at hle
      simp only at hle
      omega
    · exact heq
    · have := h3 _ _ hgt (by omega)
      unfold ltE at hle
      simp only at hle
      omega
  refine ⟨?_, cs, h1, h2, h3, h4, ?_⟩
  · rw [atE_get _ _ hne, ← he, e2]; simp only [hjt]
  · subst hjt
    rw [atE_get _ _ hne, ← he, ← zipE_get h1 _ hj']
    exact List.getElem?_eq_getElem _
theorem Abs.down {es : List E} (hh : HeapL es) (hne : 0 < es.length) : DownF (atE ((es.set 0 (atE es (es.length - 1))).take (es.length - 1))) (es.length - 1) 0 := by
  refine ⟨fun k h0 hk hp => ?_, fun k _ _ _ h => by omega⟩
  have hpk : par k < k := by unfold par; omega
  have e : ∀ q, q < es.length - 1 → q ≠ 0 → atE ((es.set 0 (atE es (es.length - 1))).take (es.length - 1)) q = atE es q := fun q hq h0 => by
    simp only [atE, List.getD_eq_getElem?_getD, List.getElem?_take, hq, if_true, List.getElem?_set, show ¬ 0 = q by omega, if_false]
  rw [e k hk (by omega), e _ (by omega) hp]
  exact hh k h0 (by omega)
theorem pop_perm {es : List E} (hne : 0 < es.length) : ((es.set 0 (atE es (es.length - 1))).take (es.length - 1)).Perm (es.eraseIdx 0) := by
  cases es with
  | nil => simp at hne
  | cons a t =>
    simp only [List.length_cons, Nat.add_sub_cancel, List.set_cons_zero, List.eraseIdx_cons_zero]
    rcases List.eq_nil_or_concat t with rfl | ⟨t', b, rfl⟩
    · simp
    · have e : atE (a :: (t' ++ [b])) (t' ++ [b]).length = b := by simp [atE, List.getD_eq_getElem?_getD]
      rw [List.concat_eq_append, e]
      simp only [List.length_append, List.length_singleton, List.take_succ_cons]
      rw [List.take_left]
      exact (List.perm_append_singleton b t').symm
theorem perm_erase {α : Type} : ∀ {l : List α} {i : Nat} (h : i < l.length), (l[i] :: l.eraseIdx i).Perm l
  | a :: l, 0, _ => List.Perm.refl _
  | a :: l, i + 1, h => (List.Perm.swap _ _ _).trans ((perm_erase (l := l) (i := i) (by simpa using h)).cons a)
/-- The top is taken. -/
theorem Abs.pop {es es' : List E} {c : Nat} {l : List It} (h : Abs es c l) (hne : 0 < es.length) (hp : es'.Perm ((es.set 0 (atE es (es.length - 1))).take (es.length - 1))) (hh : HeapL es') : Abs es' c (withoutL l (topL l)) := by
  obtain ⟨_, cs, h1, h2, h3, h4, h5⟩ := h.top hne
  have hl := h.len
  have hr := topL_range l
  have ht := hr.2.2 (List.length_pos_iff.1 (by omega))
  have hlt : (topL l).toNat < cs.length := by omega
  unfold withoutL
  rw [if_neg (by omega)]
  refine ⟨hh, cs.eraseIdx (topL l).toNat, by rw [List.length_eraseIdx, List.length_eraseIdx, h1], fun i hi => ?_, fun i j hi hj => ?_, ?_⟩
  · have := List.length_eraseIdx_le cs (topL l).toNat
    rw [List.getElem_eraseIdx]
    split
    · exact h2 _ _
    · exact h2 _ _
  · have hcl : (cs.eraseIdx (topL l).toNat).length = cs.length - 1 := by rw [List.length_eraseIdx, if_pos hlt]
    rw [List.getElem_eraseIdx, List.getElem_eraseIdx]
    split <;> split <;> exact h3 _ _ (by omega) (by omega)
  · refine (hp.trans (pop_perm hne)).trans ?_
    rw [zipE_erase h1]
    have ha : atE es 0 = es[0] := atE_get _ _ hne
    have hk : (topL l).toNat < (zipE l cs).length := by rw [zipE_len h1]; omega
    have h6 : (zipE l cs)[(topL l).toNat] = es[0] := by rw [← ha]; exact (List.getElem?_eq_some_iff.1 h5).2
    have p1 := perm_erase hne
    have p2 := perm_erase hk
    rw [h6] at p2
    exact (List.perm_cons _).1 (p1.trans (h4.trans p2.symm))
end Go.Proofs.Ytckackfgkidedaa
