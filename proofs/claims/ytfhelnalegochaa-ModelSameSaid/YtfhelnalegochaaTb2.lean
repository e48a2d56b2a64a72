/- The slots of a table, in plain Lean: where a text is found, where it comes. Conditions: none. -/
import Derived.Test.YtfhelnalegochaaTb1
namespace Go.Proofs.Ytfhelnalegochaa
set_option linter.unusedVariables false
open Go

def pos (m i d : Nat) : Nat := (i + d) % m
theorem pos_succ (m i d : Nat) : (pos m i d + 1) % m = pos m i (d + 1) := by unfold pos; rw [Nat.mod_add_mod, Nat.add_assoc]
theorem pos_zero {m i : Nat} (h : i < m) : pos m i 0 = i := by unfold pos; simp [Nat.mod_eq_of_lt h]
theorem pos_lt {m : Nat} (hm : 0 < m) (i d : Nat) : pos m i d < m := Nat.mod_lt _ hm
theorem pos_all {m i z : Nat} (hi : i < m) (hz : z < m) : ∃ d, d < m ∧ pos m i d = z := by
  by_cases h : i ≤ z
  · exact ⟨z - i, by omega, by unfold pos; rw [show i + (z - i) = z by omega, Nat.mod_eq_of_lt hz]⟩
  · exact ⟨m - i + z, by omega, by unfold pos; rw [show i + (m - i + z) = z + m by omega, Nat.add_mod_right, Nat.mod_eq_of_lt hz]⟩

/-- A walk over the slots ends here. -/
def stops (texts : List ByteArray) (at_ : List Int) (s : ByteArray) (x : Nat) : Prop := at_.getD x 0 = 0 ∨ texts.getD (at_.getD x 0 - 1).toNat ⟨#[]⟩ = s
theorem placeL_at {texts : List ByteArray} {at_ : List Int} {s : ByteArray} (i : Nat) : ∀ (k d : Nat), stops texts at_ s (pos at_.length i (d + k)) → (∀ e, e < k → ¬ stops texts at_ s (pos at_.length i (d + e))) →
    placeL texts at_ s (k + 1) (pos at_.length i d) = some (pos at_.length i (d + k)) := by
  intro k
  induction k with
  | zero =>
    intro d h _
    rw [placeL]
    simp only [Nat.add_zero] at h ⊢
    rcases h with h | h
    · rw [if_pos h]
    · by_cases h0 : at_.getD (pos at_.length i d) 0 = 0
      · rw [if_pos h0]
      · rw [if_neg h0, if_pos h]
  | succ k ih =>
    intro d h hn
    have h0 := hn 0 (by omega)
    simp only [Nat.add_zero, stops, not_or] at h0
    rw [placeL, if_neg h0.1, if_neg h0.2, pos_succ]
    have := ih (d + 1) (by rw [show d + 1 + k = d + (k + 1) by omega]; exact h) (fun e he => by rw [show d + 1 + e = d + (e + 1) by omega]; exact hn (e + 1) (by omega))
    rw [this, show d + 1 + k = d + (k + 1) by omega]

theorem least {p : Nat → Prop} : ∀ n, p n → ∃ k, k ≤ n ∧ p k ∧ ∀ e, e < k → ¬ p e := by
  intro n
  induction n using Nat.strongRecOn with
  | _ n ih =>
    intro h
    by_cases hx : ∃ e, e < n ∧ p e
    · obtain ⟨e, he, hp⟩ := hx
      obtain ⟨k, hk, h1, h2⟩ := ih e he hp
      exact ⟨k, by omega, h1, h2⟩
    · exact ⟨n, Nat.le_refl _, h, fun e he hp => hx ⟨e, he, hp⟩⟩

/-- The table is as it should be. -/
structure Good (texts : List ByteArray) (at_ : List Int) : Prop where
  range : ∀ i, i < at_.length → 0 ≤ at_.getD i 0 ∧ at_.getD i 0 ≤ texts.length
  path : ∀ j (hj : j < texts.length), ∃ d, at_.getD (pos at_.length (start at_ texts[j]) d) 0 = (j : Int) + 1 ∧ ∀ e, e < d → at_.getD (pos at_.length (start at_ texts[j]) e) 0 ≠ 0
  nodup : texts.Nodup
  few : (at_.filter (fun x => decide (x ≠ 0))).length ≤ texts.length
  some_ : 0 < at_.length

theorem start_lt {at_ : List Int} (h : 0 < at_.length) (s : ByteArray) : start at_ s < at_.length := by
  unfold start
  have := Int.emod_lt_of_pos (mixv s) (show (0 : Int) < at_.length by omega)
  have := Int.emod_nonneg (mixv s) (show (at_.length : Int) ≠ 0 by omega)
  omega

theorem Good.found {texts : List ByteArray} {at_ : List Int} (g : Good texts at_) {j : Nat} (hj : j < texts.length) : ∃ f r, placeL texts at_ texts[j] f (start at_ texts[j]) = some r ∧ r < at_.length ∧ at_.getD r 0 = (j : Int) + 1 := by
  obtain ⟨d, h1, h2⟩ := g.path j hj
  have hs : stops texts at_ texts[j] (pos at_.length (start at_ texts[j]) d) := .inr (by rw [h1]; simp [hj])
  obtain ⟨k, hk, h3, h4⟩ := least (p := fun e => stops texts at_ texts[j] (pos at_.length (start at_ texts[j]) e)) d hs
  have hp := placeL_at (texts := texts) (s := texts[j]) (start at_ texts[j]) k 0 (by simpa using h3) (fun e he => by simpa using h4 e he)
  rw [pos_zero (start_lt g.some_ _), Nat.zero_add] at hp
  refine ⟨k + 1, _, hp, pos_lt g.some_ _ _, ?_⟩
  rcases h3 with h3 | h3
  · rcases Nat.lt_or_ge k d with h | h
    · exact absurd h3 (h2 k h)
    · have : k = d := by omega
      subst this; exact h1
  · have hr := g.range _ (pos_lt g.some_ (start at_ texts[j]) k)
    by_cases h0 : at_.getD (pos at_.length (start at_ texts[j]) k) 0 = 0
    · rcases Nat.lt_or_ge k d with h | h
      · exact absurd h0 (h2 k h)
      · have : k = d := by omega
        subst this; exact h1
    · obtain ⟨q, hq⟩ : ∃ q : Nat, at_.getD (pos at_.length (start at_ texts[j]) k) 0 = (q : Int) + 1 := ⟨(at_.getD (pos at_.length (start at_ texts[j]) k) 0 - 1).toNat, by omega⟩
      rw [hq] at h3 hr ⊢
      have hql : q < texts.length := by omega
      have e : texts[q] = texts[j] := by simpa [hql] using h3
      have := (List.nodup_iff_pairwise_ne.1 g.nodup)
      have hqj : q = j := by
        rcases Nat.lt_trichotomy q j with h | h | h
        · exact absurd e (List.pairwise_iff_getElem.1 g.nodup q j hql hj h)
        · exact h
        · exact absurd e.symm (List.pairwise_iff_getElem.1 g.nodup j q hj hql h)
      rw [hqj]

theorem has_zero {l : List Int} (h : (l.filter (fun x => decide (x ≠ 0))).length < l.length) : ∃ z, z < l.length ∧ l.getD z 0 = 0 := by
  apply Classical.byContradiction
  intro hn
  have : l.filter (fun x => decide (x ≠ 0)) = l := List.filter_eq_self.2 fun a ha => by
    obtain ⟨i, hi, e⟩ := List.getElem_of_mem ha
    rw [decide_eq_true_eq]
    intro h0
    exact hn ⟨i, hi, by simp [List.getD_eq_getElem?_getD, hi, e, h0]⟩
  rw [this] at h; omega

theorem Good.free {texts : List ByteArray} {at_ : List Int} (g : Good texts at_) (hlt : texts.length < at_.length) {s : ByteArray} (hs : s ∉ texts) :
    ∃ f d, placeL texts at_ s f (start at_ s) = some (pos at_.length (start at_ s) d) ∧ at_.getD (pos at_.length (start at_ s) d) 0 = 0 ∧ ∀ e, e < d → at_.getD (pos at_.length (start at_ s) e) 0 ≠ 0 := by
  obtain ⟨z, hz, h0⟩ := has_zero (l := at_) (by have := g.few; omega)
  obtain ⟨d0, _, hd⟩ := pos_all (start_lt g.some_ s) hz
  obtain ⟨k, hk, h3, h4⟩ := least (p := fun e => stops texts at_ s (pos at_.length (start at_ s) e)) d0 (by show stops _ _ _ _; rw [hd]; exact .inl h0)
  have hp := placeL_at (texts := texts) (s := s) (start at_ s) k 0 (by simpa using h3) (fun e he => by simpa using h4 e he)
  rw [pos_zero (start_lt g.some_ _), Nat.zero_add] at hp
  refine ⟨k + 1, k, hp, ?_, fun e he h => h4 e he (.inl h)⟩
  rcases h3 with h3 | h3
  · exact h3
  · have hr := g.range _ (pos_lt g.some_ (start at_ s) k)
    by_cases h0 : at_.getD (pos at_.length (start at_ s) k) 0 = 0
    · exact h0
    · exfalso
      apply hs
      have hql : (at_.getD (pos at_.length (start at_ s) k) 0 - 1).toNat < texts.length := by omega
      rw [← h3, List.getD_eq_getElem?_getD, List.getElem?_eq_getElem hql, Option.getD_some]
      exact List.getElem_mem hql

theorem filter_set_le (p : Int → Bool) (v : Int) : ∀ (l : List Int) (r : Nat), ((l.set r v).filter p).length ≤ (l.filter p).length + 1
  | [], r => by simp
  | a :: l, 0 => by
    simp only [List.set_cons_zero, List.filter_cons]
    split <;> split <;> simp <;> omega
  | a :: l, r + 1 => by
    have := filter_set_le p v l r
    simp only [List.set_cons_succ, List.filter_cons]
    split <;> simp <;> omega

theorem start_set (at_ : List Int) (r : Nat) (v : Int) (s : ByteArray) : start (at_.set r v) s = start at_ s := by unfold start; simp
theorem getD_set (l : List Int) (r i : Nat) (v : Int) : (l.set r v).getD i 0 = if i = r ∧ r < l.length then v else l.getD i 0 := by
  simp only [List.getD_eq_getElem?_getD, List.getElem?_set]
  by_cases h : r = i
  · subst h
    by_cases h2 : r < l.length <;> simp [h2]
  · rw [if_neg h, if_neg (fun hh => h hh.1.symm)]

/-- A new text comes. -/
theorem Good.insert {texts : List ByteArray} {at_ : List Int} (g : Good texts at_) {s : ByteArray} (hs : s ∉ texts) {d : Nat} (h0 : at_.getD (pos at_.length (start at_ s) d) 0 = 0) (hp : ∀ e, e < d → at_.getD (pos at_.length (start at_ s) e) 0 ≠ 0) :
    Good (texts ++ [s]) (at_.set (pos at_.length (start at_ s) d) ((texts.length : Int) + 1)) := by
  have hl := pos_lt g.some_ (start at_ s) d
  refine ⟨fun i hi => ?_, fun j hj => ?_, ?_, ?_, by simpa using g.some_⟩
  · rw [getD_set]
    simp only [List.length_set] at hi
    have := g.range i hi
    rw [List.length_append, List.length_singleton]
    split
    · constructor <;> omega
    · exact ⟨this.1, by omega⟩
  · simp only [List.length_set, start_set]
    by_cases hjl : j < texts.length
    · have e : (texts ++ [s])[j] = texts[j] := List.getElem_append_left hjl
      rw [e]
      obtain ⟨d', h1, h2⟩ := g.path j hjl
      refine ⟨d', ?_, fun e he => ?_⟩
      · rw [getD_set, if_neg, h1]
        rintro ⟨e1, _⟩; rw [e1, h0] at h1; omega
      · rw [getD_set]
        split
        · omega
        · exact h2 e he
    · have hj' : j = texts.length := by simp at hj; omega
      subst hj'
      have e : (texts ++ [s])[texts.length] = s := by simp
      rw [e]
      refine ⟨d, by rw [getD_set, if_pos ⟨rfl, hl⟩], fun e he => ?_⟩
      rw [getD_set]
      split
      · omega
      · exact hp e he
  · rw [List.nodup_append]
    exact ⟨g.nodup, by simp, fun a ha b hb => by simp at hb; subst hb; rintro rfl; exact hs ha⟩
  · have := filter_set_le (fun x => decide (x ≠ 0)) ((texts.length : Int) + 1) at_ (pos at_.length (start at_ s) d)
    have := g.few
    simp only [List.length_append, List.length_singleton]
    omega

theorem good_empty {m : Nat} (hm : 0 < m) : Good [] (List.replicate m 0) := by
  refine ⟨fun i hi => ?_, fun j hj => by simp at hj, List.nodup_nil, by simp, by simpa using hm⟩
  simp at hi
  simp [List.getD_eq_getElem?_getD, hi]


theorem placeL_take {texts : List ByteArray} {at_ : List Int} {s : ByteArray} {k : Nat} (hr : ∀ i, i < at_.length → 0 ≤ at_.getD i 0 ∧ at_.getD i 0 ≤ k) (hk : k ≤ texts.length) (h0 : 0 < at_.length) :
    ∀ f i, i < at_.length → placeL (texts.take k) at_ s f i = placeL texts at_ s f i := by
  intro f
  induction f with
  | zero => intro i _; rfl
  | succ f ih =>
    intro i hi
    rw [placeL, placeL]
    by_cases h : at_.getD i 0 = 0
    · rw [if_pos h, if_pos h]
    · have := hr i hi
      have hl : (at_.getD i 0 - 1).toNat < k := by omega
      have e : (texts.take k).getD (at_.getD i 0 - 1).toNat ⟨#[]⟩ = texts.getD (at_.getD i 0 - 1).toNat ⟨#[]⟩ := by
        rw [List.getD_eq_getElem?_getD, List.getElem?_take, if_pos hl, ← List.getD_eq_getElem?_getD]
      rw [if_neg h, if_neg h, e, ih _ (Nat.mod_lt _ h0)]
theorem len_of {m k n : Nat} (hm : m = 8 * 2 ^ k) (h : k = 0 ∨ m < 4 * n) (hn : n ≤ 1000000000) : m = 2 ^ (k + 3) ∧ k + 3 ≤ 35 := by
  refine ⟨by rw [hm, Nat.pow_add]; omega, ?_⟩
  rcases h with h | h
  · omega
  · apply Classical.byContradiction
    intro hk
    have : 2 ^ 32 ≤ 2 ^ k := Nat.pow_le_pow_right (by omega) (by omega)
    omega

/-- Which number a text has: -1: none. -/
def findT : List ByteArray → ByteArray → Int
  | [], _ => -1
  | a :: l, s => if a = s then 0 else if findT l s < 0 then -1 else findT l s + 1
def putT (l : List ByteArray) (s : ByteArray) : List ByteArray := if findT l s < 0 then l ++ [s] else l
theorem findT_range : ∀ (l : List ByteArray) (s : ByteArray), -1 ≤ findT l s ∧ findT l s < l.length
  | [], s => by simp [findT]
  | a :: l, s => by
    have := findT_range l s
    simp only [findT, List.length_cons]
    split
    · omega
    · split <;> omega
theorem findT_some : ∀ (l : List ByteArray) (s : ByteArray) (j : Nat), findT l s = j → ∃ h : j < l.length, l[j] = s
  | [], s, j, h => by simp only [findT] at h; omega
  | a :: l, s, j, h => by
    simp only [findT] at h
    split at h
    · have : j = 0 := by omega
      subst this; exact ⟨by simp, by simpa⟩
    · split at h
      · omega
      · cases j with
        | zero => have := findT_range l s; omega
        | succ j =>
          obtain ⟨h1, h2⟩ := findT_some l s j (by omega)
          exact ⟨by simpa using h1, by simpa using h2⟩
theorem findT_none : ∀ (l : List ByteArray) (s : ByteArray), findT l s < 0 ↔ s ∉ l
  | [], s => by simp [findT]; try omega
  | a :: l, s => by
    have := findT_none l s
    simp only [findT, List.mem_cons, not_or]
    split
    · rename_i h; subst h; simp
    · rename_i h
      have h' : s ≠ a := fun e => h e.symm
      split
      · rename_i h2; exact ⟨fun _ => ⟨h', this.1 h2⟩, fun _ => by omega⟩
      · rename_i h2; exact ⟨fun h3 => by omega, fun h3 => absurd (this.2 h3.2) h2⟩

theorem putT_len (l : List ByteArray) (s : ByteArray) : l.length ≤ (putT l s).length ∧ (putT l s).length ≤ l.length + 1 := by
  unfold putT; split <;> simp
theorem putT_find (l : List ByteArray) (s : ByteArray) : findT (putT l s) s = if findT l s < 0 then (l.length : Int) else findT l s := by
  unfold putT
  split
  · rename_i h
    have hn := (findT_none _ _).1 h
    clear h
    induction l with
    | nil => simp [findT]
    | cons a l ih =>
      simp only [List.mem_cons, not_or] at hn
      have ha : ¬ a = s := fun e => hn.1 e.symm
      simp only [List.cons_append, findT, if_neg ha, ih hn.2, List.length_cons]
      rw [if_neg (by omega)]; push_cast; rfl
  · rfl
theorem findT_split (l : List ByteArray) (s : ByteArray) (i : Nat) (hi : i < l.length) (h0 : findT (l.take i) s < 0) : if l[i] = s then findT l s = i else findT (l.take (i + 1)) s < 0 := by
  induction l generalizing i with
  | nil => simp at hi
  | cons a l ih =>
    cases i with
    | zero => 
      simp only [List.getElem_cons_zero, List.take_succ_cons, List.take_zero, findT]
      by_cases h : a = s <;> simp [h]
    | succ i =>
      simp only [List.take_succ_cons, findT] at h0
      by_cases h : a = s
      · rw [if_pos h] at h0; omega
      · rw [if_neg h] at h0
        have h1 : findT (l.take i) s < 0 := by
          split at h0
          · assumption
          · have := findT_range (l.take i) s; omega
        have hil : i < l.length := by simpa using hi
        have := ih i hil h1
        simp only [List.getElem_cons_succ, List.take_succ_cons, findT, if_neg h]
        by_cases h2 : l[i] = s
        · rw [if_pos h2] at this ⊢
          rw [this, if_neg (by omega)]; push_cast; rfl
        · rw [if_neg h2] at this ⊢
          rw [if_pos this]; omega
theorem findT_nodup : ∀ {l : List ByteArray} (_ : l.Nodup) (k : Nat) (hk : k < l.length), findT l l[k] = k
  | [], _, k, hk => by simp at hk
  | a :: l, h, 0, hk => by simp [findT]
  | a :: l, h, k + 1, hk => by
    have hk' : k < l.length := by simpa using hk
    have h1 := findT_nodup (List.nodup_cons.1 h).2 k hk'
    have h2 : ¬ a = l[k] := fun e => (List.nodup_cons.1 h).1 (e ▸ List.getElem_mem hk')
    simp only [List.getElem_cons_succ, findT, if_neg h2, h1]
    rw [if_neg (by omega)]; push_cast; rfl
end Go.Proofs.Ytfhelnalegochaa
