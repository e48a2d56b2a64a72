/- A pile's order: plain laws. Conditions: none. -/
import Derived.Test.YtckackfgkidedaaPi1
namespace Go.Proofs.Ytckackfgkidedaa
open Go Go.Fw
set_option linter.unusedVariables false
set_option linter.unusedSimpArgs false

def par (k : Nat) : Nat := (k - 1) / 2
/-- No thing is less than the one above it. -/
def HeapF (f : Nat → E) (n : Nat) : Prop := ∀ k, 0 < k → k < n → ¬ ltE (f k) (f (par k))
def UpF (f : Nat → E) (n i : Nat) : Prop := (∀ k, 0 < k → k < n → k ≠ i → ¬ ltE (f k) (f (par k))) ∧ (∀ k, 0 < k → k < n → par k = i → 0 < i → ¬ ltE (f k) (f (par i)))
def DownF (f : Nat → E) (n i : Nat) : Prop := (∀ k, 0 < k → k < n → par k ≠ i → ¬ ltE (f k) (f (par k))) ∧ (∀ k, 0 < k → k < n → par k = i → 0 < i → ¬ ltE (f k) (f (par i)))
theorem ltE_tr {a b c : E} (h : ltE a b) (k : ¬ ltE c b) : ¬ ltE c a := by unfold ltE at *; omega
theorem ltE_irr (a : E) : ¬ ltE a a := by unfold ltE; omega
theorem ltE_tt {a b c : E} (h : ltE a b) (k : ltE b c) : ltE a c := by unfold ltE at *; omega
theorem leE_tr {a b c : E} (h : ¬ ltE b a) (k : ¬ ltE c b) : ¬ ltE c a := by unfold ltE at *; omega
theorem ltE_as {a b : E} (h : ltE a b) : ¬ ltE b a := by unfold ltE at *; omega
/-- f, i and k exchanged. -/
def swF (f : Nat → E) (i k : Nat) : Nat → E := fun j => if j = i then f k else if j = k then f i else f j
theorem up_step {f : Nat → E} {n i : Nat} (h : UpF f n i) (hi : 0 < i) (hn : i < n) (hl : ltE (f i) (f (par i))) : UpF (swF f i (par i)) n (par i) := by
  have hp : par i < i := by unfold par; omega
  refine ⟨fun k h0 hk hne => ?_, fun k h0 hk hpk hp0 => ?_⟩
  · have hpk : par k < k := by unfold par; omega
    unfold swF
    by_cases h1 : k = i
    · subst h1; rw [if_pos rfl, if_neg (by omega), if_pos rfl]; exact ltE_as hl
    · rw [if_neg h1, if_neg hne]
      by_cases h2 : par k = i
      · rw [if_pos h2]; exact h.2 k h0 hk h2 hi
      · rw [if_neg h2]
        by_cases h3 : par k = par i
        · rw [if_pos h3]
          have := h.1 k h0 hk h1
          rw [h3] at this
          exact ltE_tr hl this
        · rw [if_neg h3]; exact h.1 k h0 hk h1
  · have hpp : par (par i) < par i := by unfold par at *; omega
    unfold swF
    have hne : par i ≠ i := by omega
    rw [if_neg (show par (par i) ≠ i by omega), if_neg (show par (par i) ≠ par i by omega)]
    have h1 := h.1 (par i) hp0 (by omega) hne
    by_cases h2 : k = i
    · rw [if_pos h2]; exact h1
    · have h3 := h.1 k h0 hk h2
      rw [hpk] at h3
      rw [if_neg h2, if_neg (by intro e; unfold par at *; omega)]
      exact leE_tr h1 h3
theorem up_done {f : Nat → E} {n i : Nat} (h : UpF f n i) (hd : i = 0 ∨ ¬ ltE (f i) (f (par i))) : HeapF f n := fun k h0 hk => by
  by_cases h1 : k = i
  · subst h1; exact hd.resolve_left (by omega)
  · exact h.1 k h0 hk h1
theorem down_step {f : Nat → E} {n i m : Nat} (h : DownF f n i) (hm : m < n) (hm0 : 0 < m) (hpm : par m = i) (hl : ltE (f m) (f i)) (hmin : ∀ k, 0 < k → k < n → par k = i → ¬ ltE (f k) (f m)) : DownF (swF f i m) n m := by
  have him : i < m := by subst hpm; unfold par; omega
  refine ⟨fun k h0 hk hne => ?_, fun k h0 hk hpk hp0 => ?_⟩
  · have hpk : par k < k := by unfold par; omega
    unfold swF
    by_cases h1 : k = m
    · subst h1; rw [if_neg (by omega), if_pos rfl, if_pos hpm]; exact ltE_as hl
    · by_cases h2 : k = i
      · subst h2
        rw [if_pos rfl, if_neg (by omega), if_neg hne]
        exact h.2 m hm0 hm hpm h0
      · rw [if_neg h2, if_neg h1]
        by_cases h3 : par k = i
        · rw [if_pos h3]; exact hmin k h0 hk h3
        · rw [if_neg h3, if_neg hne]; exact h.1 k h0 hk h3
  · unfold swF
    have hkm : m < k := by subst hpk; unfold par at *; omega
    rw [if_neg (by omega), if_neg (by omega), if_pos hpm]
    have := h.1 k h0 hk (by omega)
    rw [hpk] at this
    exact this
theorem down_done {f : Nat → E} {n i : Nat} (h : DownF f n i) (hd : ∀ k, 0 < k → k < n → par k = i → ¬ ltE (f k) (f i)) : HeapF f n := fun k h0 hk => by
  by_cases h1 : par k = i
  · rw [h1]; exact hd k h0 hk h1
  · exact h.1 k h0 hk h1
theorem heap_least {f : Nat → E} {n : Nat} (h : HeapF f n) : ∀ k, k < n → ¬ ltE (f k) (f 0) := by
  intro k
  induction k using Nat.strongRecOn with
  | ind k ih =>
    intro hk
    by_cases h0 : k = 0
    · subst h0; unfold ltE; omega
    · have hp : par k < k := by unfold par; omega
      exact leE_tr (ih _ hp (by omega)) (h k (by omega) hk)
/-- The same of lists. -/
def atE (l : List E) (k : Nat) : E := l.getD k ((0, 0), 0)
def swL (l : List E) (i k : Nat) : List E := (l.set i (atE l k)).set k (atE l i)
theorem swL_len (l : List E) (i k : Nat) : (swL l i k).length = l.length := by simp [swL]
theorem atE_sw {l : List E} {i k : Nat} (hi : i < l.length) (hk : k < l.length) : atE (swL l i k) = swF (atE l) i k := by
  funext j
  simp only [atE, swL, swF, List.getD_eq_getElem?_getD, List.getElem?_set, List.length_set]
  by_cases h1 : j = k
  · subst h1
    by_cases h2 : j = i
    · subst h2; simp [hi]
    · simp [hk, h2]
  · rw [if_neg (fun e => h1 e.symm)]
    by_cases h2 : j = i
    · subst h2; simp [hi]
    · rw [if_neg (fun e => h2 e.symm)]; simp [h1, h2]
theorem sw_perm {l : List E} {i k : Nat} (hi : i < l.length) (hk : k < l.length) : (swL l i k).Perm l := by
  have hE : DecidableEq E := Classical.typeDecidableEq _
  rw [List.perm_iff_count]
  intro a
  have e1 : atE l i = l[i] := by simp [atE, List.getD_eq_getElem?_getD, hi]
  have e2 : atE l k = l[k] := by simp [atE, List.getD_eq_getElem?_getD, hk]
  simp only [swL, e1, e2]
  rw [List.count_set (by simpa using hk), List.count_set hi, List.getElem_set]
  have p1 : a == l[i] → 0 < List.count a l := fun h => List.count_pos_iff.2 (by simp at h; subst h; exact List.getElem_mem hi)
  have p2 : a == l[k] → 0 < List.count a l := fun h => List.count_pos_iff.2 (by simp at h; subst h; exact List.getElem_mem hk)
  by_cases hik : i = k
  · subst hik
    simp only [if_true]
    by_cases h1 : l[i] == a
    · have := p1 (by simp at h1 ⊢; exact h1.symm)
      simp [h1]; omega
    · simp [h1]
  · simp only [hik, if_false]
    by_cases h1 : l[i] == a <;> by_cases h2 : l[k] == a <;> simp only [h1, h2, if_true, if_false]
    all_goals first
      | (have := p1 (by simp at h1 ⊢; exact h1.symm); simp; omega)
      | (have := p2 (by simp at h2 ⊢; exact h2.symm); simp; omega)
      | simp
def HeapL (l : List E) : Prop := HeapF (atE l) l.length
end Go.Proofs.Ytckackfgkidedaa
