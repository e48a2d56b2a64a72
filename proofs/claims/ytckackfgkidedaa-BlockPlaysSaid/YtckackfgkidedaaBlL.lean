/- A store of blocks: plain laws. Conditions: none. -/
import Derived.Test.YtckackfgkidedaaBl3
namespace Go.Proofs.Ytckackfgkidedaa
open Go Go.Fw
set_option linter.unusedVariables false
set_option linter.unusedSimpArgs false

theorem firstFree_true : ∀ (l : List Bool) (j : Nat), j < firstFree l → l[j]? = some true
  | true :: l, 0, _ => rfl
  | true :: l, j + 1, h => by simp only [firstFree] at h; simpa using firstFree_true l j (by omega)
  | false :: l, j, h => by simp [firstFree] at h
  | [], j, h => by simp [firstFree] at h
theorem firstFree_false : ∀ (l : List Bool), firstFree l < l.length → l[firstFree l]? = some false
  | true :: l, h => by simp only [firstFree, List.length_cons] at h ⊢; simpa using firstFree_false l (by omega)
  | false :: l, _ => rfl
  | [], h => by simp [firstFree] at h
theorem firstFree_all : ∀ (l : List Bool), firstFree l = l.length → l.count true = l.length
  | true :: l, h => by simp only [firstFree, List.length_cons] at h; rw [List.count_cons_self, firstFree_all l (by omega)]; rfl
  | false :: l, h => by simp [firstFree] at h
  | [], _ => rfl
theorem firstFree_cnt : ∀ (l : List Bool), firstFree l ≤ l.count true
  | true :: l => by rw [List.count_cons_self]; have := firstFree_cnt l; simp only [firstFree]; omega
  | false :: l => by simp [firstFree]
  | [] => by simp [firstFree]
theorem count_set_t : ∀ (l : List Bool) (i : Nat), l[i]? = some false → (l.set i true).count true = l.count true + 1
  | [], i, h => by simp at h
  | b :: l, 0, h => by simp at h; subst h; simp
  | b :: l, i + 1, h => by
    have := count_set_t l i (by simpa using h)
    cases b <;> simp [this]
theorem count_set_f : ∀ (l : List Bool) (i : Nat), l[i]? = some true → (l.set i false).count true + 1 = l.count true
  | [], i, h => by simp at h
  | b :: l, 0, h => by simp at h; subst h; simp
  | b :: l, i + 1, h => by
    have := count_set_f l i (by simpa using h)
    cases b <;> simp [← this]
theorem padB_at (tk : List Bool) : (padB tk)[firstFree tk]? = some false := by
  unfold padB
  split
  · exact firstFree_false tk ‹_›
  · have : firstFree tk = tk.length := by have := firstFree_le tk; omega
    rw [this]; simp
theorem padB_ne (tk : List Bool) (i : Nat) (h : i ≠ firstFree tk) : (padB tk)[i]? = tk[i]? := by
  unfold padB
  split
  · rfl
  · have : firstFree tk = tk.length := by have := firstFree_le tk; omega
    rcases Nat.lt_or_ge i tk.length with h1 | h1
    · rw [List.getElem?_append_left h1]
    · rw [List.getElem?_eq_none (by simp; omega), List.getElem?_eq_none h1]
theorem padB_cnt (tk : List Bool) : (padB tk).count true = tk.count true := by
  unfold padB; split <;> simp
theorem padB_len (tk : List Bool) (ts : List ByteArray) (h : tk.length = ts.length) : (padB tk).length = (padT tk ts).length := by
  unfold padB padT; split <;> simp [h]
theorem firstFree_padB (tk : List Bool) : firstFree tk < (padB tk).length := by have := (List.getElem?_eq_some_iff.1 (padB_at tk)).1; exact this
theorem padT_at (tk : List Bool) (ts : List ByteArray) (i : Nat) (h : i < ts.length) : (padT tk ts)[i]? = ts[i]? := by
  unfold padT; split
  · rfl
  · rw [List.getElem?_append_left h]
theorem has_at {tk : List Bool} {id : Int} (h : Has tk id) : tk[id.toNat]? = some true := by
  have h2 := h.2
  rw [at_int tk id h.1.1 h.1.2] at h2
  rw [List.getElem?_eq_getElem (by have := h.1; omega), h2]
theorem has_nat {tk : List Bool} {i : Nat} : Has tk i ↔ tk[i]? = some true := by
  constructor
  · intro h; simpa using has_at h
  · intro h
    have h1 := (List.getElem?_eq_some_iff.1 h).1
    refine ⟨by omega, ?_⟩
    rw [at_nat tk i h1]
    exact (List.getElem?_eq_some_iff.1 h).2

theorem BS.Ok.new {size most : Int} (hs : 1 ≤ size ∧ size ≤ 65536) (hm : 1 ≤ most ∧ most ≤ 1048576) : (BS.mk size most [] [] 0 0 0).Ok :=
  ⟨rfl, by simp, fun j hj => by simp at hj; omega, rfl, by simp only; omega, by simp; omega, hm, hs, by simp only; omega, fun i h => by simp at h⟩
theorem BS.Ok.full {m : BS} (h : m.Ok) : m.used = m.most ↔ m.most ≤ firstFree m.tk := by
  have h1 := h.used; have h2 := h.um; have h3 := h.lm
  have hle := firstFree_le m.tk
  have hc := firstFree_cnt m.tk
  have hcl : m.tk.count true ≤ m.tk.length := List.count_le_length
  constructor
  · intro e
    rcases Nat.lt_or_ge (firstFree m.tk) m.tk.length with h4 | h4
    · have := firstFree_false m.tk h4
      have := count_set_t m.tk _ this
      have h5 : ((m.tk.set (firstFree m.tk) true).count true) ≤ m.tk.length := by have := List.count_le_length (a := true) (l := m.tk.set (firstFree m.tk) true); rw [List.length_set] at this; exact this
      omega
    · have := firstFree_all m.tk (by omega); omega
  · intro e; omega
theorem BS.Ok.alloc {m : BS} (h : m.Ok) (hu : m.used < m.most) : m.alloc.Ok := by
  have hu0 := h.used0
  have hp := firstFree_padB m.tk
  have hl := padB_len m.tk m.ts h.lens
  refine ⟨by simp only [BS.alloc, List.length_set]; exact hl, by simp only [BS.alloc, List.length_set]; omega, ?_, ?_, by simp only [BS.alloc]; omega, ?_, h.most, h.size, by simp only [BS.alloc]; have := h.peak; omega, ?_⟩
  · intro j hj
    simp only [BS.alloc] at hj ⊢
    rw [List.getElem?_set_ne (by omega), padB_ne _ _ (by omega)]
    exact firstFree_true _ _ (by omega)
  · simp only [BS.alloc]
    rw [count_set_t _ _ (padB_at m.tk), padB_cnt, h.used]; omega
  · simp only [BS.alloc, List.length_set]
    have h1 := h.used; have h3 := h.lm
    unfold padB
    split
    · exact h3
    · have := firstFree_all m.tk (by have := firstFree_le m.tk; omega)
      rw [List.length_append, List.length_singleton]; omega
  · intro i hi
    simp only [BS.alloc] at hi ⊢
    rw [List.getElem?_set] at hi
    split at hi
    · simp at hi
    · rw [padB_ne _ _ (by omega)] at hi
      have h1 := h.empty i hi
      rw [padT_at _ _ _ (List.getElem?_eq_some_iff.1 h1).1]
      exact h1
theorem BS.Ok.write {m : BS} {id : Int} {t : ByteArray} (h : m.Ok) (hh : Has m.tk id) : (m.write id t).Ok := by
  refine ⟨by simp only [BS.write, List.length_set]; exact h.lens, h.low0, h.lowt, h.used, h.um, h.lm, h.most, h.size, h.peak, ?_⟩
  intro i hi
  simp only [BS.write] at hi ⊢
  have h1 := has_at hh
  rw [List.getElem?_set_ne (fun e => by rw [e, hi] at h1; simp at h1)]
  exact h.empty i hi
theorem BS.Ok.free {m : BS} {id : Int} (h : m.Ok) (hh : Has m.tk id) : (m.free id).Ok := by
  have h1 := has_at hh
  have hc := count_set_f _ _ h1
  have hu := h.used
  have hi0 := hh.1
  have hl0 := h.low0
  have hum := h.um
  refine ⟨by simp only [BS.free, List.length_set]; exact h.lens, by simp only [BS.free, List.length_set]; omega, ?_, by simp only [BS.free]; omega, by simp only [BS.free]; omega, by simp only [BS.free, List.length_set]; exact h.lm, h.most, h.size, h.peak, ?_⟩
  · intro j hj
    simp only [BS.free] at hj ⊢
    rw [List.getElem?_set_ne (by omega)]
    exact h.lowt j (by omega)
  · intro i hi
    simp only [BS.free] at hi ⊢
    have hlen := h.lens
    by_cases e : id.toNat = i
    · subst e
      rw [List.getElem?_set_self (by omega)]
    · rw [List.getElem?_set_ne e] at hi ⊢
      exact h.empty i hi
end Go.Proofs.Ytckackfgkidedaa
