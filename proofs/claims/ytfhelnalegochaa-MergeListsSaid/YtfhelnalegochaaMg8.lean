/- The order in a pile of cursors: plain laws. Conditions: none. -/
import Derived.Test.YtfhelnalegochaaMg7
namespace Go.Proofs.Ytfhelnalegochaa
open Go Go.Fw
set_option linter.unusedVariables false
set_option linter.unusedSimpArgs false

def par (k : Nat) : Nat := (k - 1) / 2
section
variable (ky : Cu → List Int)
/-- No thing is less than the one above it. -/
def HeapF (f : Nat → E) (n : Nat) : Prop := ∀ k, 0 < k → k < n → ¬ ltE ky (f k) (f (par k))
def UpF (f : Nat → E) (n i : Nat) : Prop := (∀ k, 0 < k → k < n → k ≠ i → ¬ ltE ky (f k) (f (par k))) ∧ (∀ k, 0 < k → k < n → par k = i → 0 < i → ¬ ltE ky (f k) (f (par i)))
def DownF (f : Nat → E) (n i : Nat) : Prop := (∀ k, 0 < k → k < n → par k ≠ i → ¬ ltE ky (f k) (f (par k))) ∧ (∀ k, 0 < k → k < n → par k = i → 0 < i → ¬ ltE ky (f k) (f (par i)))
variable {ky}
theorem ltE_irr (a : E) : ¬ ltE ky a a := by
  rintro (h | ⟨_, h⟩)
  · exact ltL_irr _ h
  · omega
theorem ltE_tt {a b c : E} (h : ltE ky a b) (k : ltE ky b c) : ltE ky a c := by
  rcases h with h | ⟨h1, h2⟩ <;> rcases k with k | ⟨k1, k2⟩
  · exact .inl (ltL_tt h k)
  · exact .inl (ltL_le h k1)
  · exact .inl (leL_lt h1 k)
  · exact .inr ⟨leL_tr h1 k1, by omega⟩
theorem ltE_as {a b : E} (h : ltE ky a b) : ¬ ltE ky b a := fun k => ltE_irr a (ltE_tt h k)
theorem leE_tr {a b c : E} (h : ¬ ltE ky b a) (k : ¬ ltE ky c b) : ¬ ltE ky c a := by
  intro hc
  have nle : ∀ {x y : E}, ¬ ltE ky x y → ¬ ltL (ky x.1) (ky y.1) ∧ (¬ ltL (ky y.1) (ky x.1) → y.2 ≤ x.2) := fun {x y} h =>
    ⟨fun e => h (.inl e), fun e => Classical.byContradiction fun hn => h (.inr ⟨e, by omega⟩)⟩
  obtain ⟨h1, h2⟩ := nle h
  obtain ⟨k1, k2⟩ := nle k
  rcases hc with hc | ⟨c1, c2⟩
  · exact leL_tr h1 k1 hc
  · by_cases e1 : ltL (ky a.1) (ky b.1)
    · exact c1 (ltL_le e1 k1)
    · by_cases e2 : ltL (ky b.1) (ky c.1)
      · exact c1 (leL_lt h1 e2)
      · have := h2 e1; have := k2 e2; omega
theorem ltE_tr {a b c : E} (h : ltE ky a b) (k : ¬ ltE ky c b) : ¬ ltE ky c a := leE_tr (ltE_as h) k
/-- f, i and k exchanged. -/
def swF (f : Nat → E) (i k : Nat) : Nat → E := fun j => if j = i then f k else if j = k then f i else f j
theorem up_step {f : Nat → E} {n i : Nat} (h : UpF ky f n i) (hi : 0 < i) (hn : i < n) (hl : ltE ky (f i) (f (par i))) : UpF ky (swF f i (par i)) n (par i) := by
  have hp : par i < i := by unfold par; omega
  refine ⟨fun k h0 hk hne => ?_, fun k h0 hk hpk hp0 => ?_⟩
  · have hpk : par k < k := by unfold par; omega
    unfold swF
    by_cases h1 : k = i
    · subst h1; rw [if_pos rfl, if_neg (by omega), if_pos rfl]; exact ltE_as hl
    · rw [if_neg h1, if_neg hne]
      by_cases h2 : par k = i
      · rw [if_pos h2]; exact h.2 k h0 hk h2 hi
      · rw [if_neg h2]
        by_cases h3 : par k = par i
        · rw [if_pos h3]
          have := h.1 k h0 hk h1
          rw [h3] at this
          exact ltE_tr hl this
        · rw [if_neg h3]; exact h.1 k h0 hk h1
  · have hpp : par (par i) < par i := by unfold par at *; omega
    unfold swF
    have hne : par i ≠ i := by omega
    rw [if_neg (show par (par i) ≠ i by omega), if_neg (show par (par i) ≠ par i by omega)]
    have h1 := h.1 (par i) hp0 (by omega) hne
    by_cases h2 : k = i
    · rw [if_pos h2]; exact h1
    · have h3 := h.1 k h0 hk h2
      rw [hpk] at h3
      rw [if_neg h2, if_neg (by intro e; unfold par at *; omega)]
      exact leE_tr h1 h3
theorem up_done {f : Nat → E} {n i : Nat} (h : UpF ky f n i) (hd : i = 0 ∨ ¬ ltE ky (f i) (f (par i))) : HeapF ky f n := fun k h0 hk => by
  by_cases h1 : k = i
  · subst h1; exact hd.resolve_left (by omega)
  · exact h.1 k h0 hk h1
theorem down_step {f : Nat → E} {n i m : Nat} (h : DownF ky f n i) (hm : m < n) (hm0 : 0 < m) (hpm : par m = i) (hl : ltE ky (f m) (f i)) (hmin : ∀ k, 0 < k → k < n → par k = i → ¬ ltE ky (f k) (f m)) : DownF ky (swF f i m) n m := by
  have him : i < m := by subst hpm; unfold par; omega
  refine ⟨fun k h0 hk hne => ?_, fun k h0 hk hpk hp0 => ?_⟩
  · have hpk : par k < k := by unfold par; omega
    unfold swF
    by_cases h1 : k = m
    · subst h1; rw [if_neg (by omega), if_pos rfl, if_pos hpm]; exact ltE_as hl
    · by_cases h2 : k = i
      · subst h2
        rw [if_pos rfl, if_neg (by omega), if_neg hne]
        exact h.2 m hm0 hm hpm h0
      · rw [if_neg h2, if_neg h1]
        by_cases h3 : par k = i
        · rw [if_pos h3]; exact hmin k h0 hk h3
        · rw [if_neg h3, if_neg hne]; exact h.1 k h0 hk h3
  · unfold swF
    have hkm : m < k := by subst hpk; unfold par at *; omega
    rw [if_neg (by omega), if_neg (by omega), if_pos hpm]
    have := h.1 k h0 hk (by omega)
    rw [hpk] at this
    exact this
theorem down_done {f : Nat → E} {n i : Nat} (h : DownF ky f n i) (hd : ∀ k, 0 < k → k < n → par k = i → ¬ ltE ky (f k) (f i)) : HeapF ky f n := fun k h0 hk => by
  by_cases h1 : par k = i
  · rw [h1]; exact hd k h0 hk h1
  · exact h.1 k h0 hk h1
theorem heap_least {f : Nat → E} {n : Nat} (h : HeapF ky f n) : ∀ k, k < n → ¬ ltE ky (f k) (f 0) := by
  intro k
  induction k using Nat.strongRecOn with
  | ind k ih =>
    intro hk
    by_cases h0 : k = 0
    · subst h0; exact ltE_irr _
    · have hp : par k < k := by unfold par; omega
      exact leE_tr (ih _ hp (by omega)) (h k (by omega) hk)
/-- The same of lists. -/
def atE (l : List E) (k : Nat) : E := l.getD k ((SV.nil, 0), 0)
def swL (l : List E) (i k : Nat) : List E := (l.set i (atE l k)).set k (atE l i)
theorem swL_len (l : List E) (i k : Nat) : (swL l i k).length = l.length := by simp [swL]
theorem atE_sw {l : List E} {i k : Nat} (hi : i < l.length) (hk : k < l.length) : atE (swL l i k) = swF (atE l) i k := by
  funext j
  simp only [atE, swL, swF, List.getD_eq_getElem?_getD, List.getElem?_set, List.length_set]
  by_cases h1 : j = k
  · subst h1
    by_cases h2 : j = i
    · subst h2; simp [hi]
    · simp [hk, h2]
  · rw [if_neg (fun e => h1 e.symm)]
    by_cases h2 : j = i
    · subst h2; simp [hi]
    · rw [if_neg (fun e => h2 e.symm)]; simp [h1, h2]
theorem sw_perm {l : List E} {i k : Nat} (hi : i < l.length) (hk : k < l.length) : (swL l i k).Perm l := by
  have hE : DecidableEq E := Classical.typeDecidableEq _
  rw [List.perm_iff_count]
  intro a
  have e1 : atE l i = l[i] := by simp [atE, List.getD_eq_getElem?_getD, hi]
  have e2 : atE l k = l[k] := by simp [atE, List.getD_eq_getElem?_getD, hk]
  simp only [swL, e1, e2]
  rw [List.count_set (by simpa using hk), List.count_set hi, List.getElem_set]
  have p1 : l[i] = a → 0 < List.count a l := fun h => List.count_pos_iff.2 (by rw [← h]; exact List.getElem_mem hi)
  have p2 : l[k] = a → 0 < List.count a l := fun h => List.count_pos_iff.2 (by rw [← h]; exact List.getElem_mem hk)
  simp only [beq_iff_eq]
  by_cases hik : i = k
  · subst hik
    simp only [if_true]
    by_cases h1 : l[i] = a
    · have := p1 h1
      rw [if_pos h1]; omega
    · rw [if_neg h1]; omega
  · simp only [hik, if_false]
    by_cases h1 : l[i] = a <;> by_cases h2 : l[k] = a <;> simp only [h1, h2, if_true, if_false]
    all_goals first
      | (have := p1 h1; omega)
      | (have := p2 h2; omega)
      | omega
def HeapL (ky : Cu → List Int) (l : List E) : Prop := HeapF ky (atE l) l.length
end
end Go.Proofs.Ytfhelnalegochaa
