/- The slots of a table, in plain Lean: where a text is found, where it comes. Conditions: none. -/
import Derived.Test.YtckackfgkidedaaIn2
namespace Go.Proofs.Ytckackfgkidedaa
set_option linter.unusedVariables false
open Go

def pos (m i d : Nat) : Nat := (i + d) % m
theorem pos_succ (m i d : Nat) : (pos m i d + 1) % m = pos m i (d + 1) := by unfold pos; rw [Nat.mod_add_mod, Nat.add_assoc]
theorem pos_zero {m i : Nat} (h : i < m) : pos m i 0 = i := by unfold pos; simp [Nat.mod_eq_of_lt h]
theorem pos_lt {m : Nat} (hm : 0 < m) (i d : Nat) : pos m i d < m := Nat.mod_lt _ hm
theorem pos_all {m i z : Nat} (hi : i < m) (hz : z < m) : ∃ d, d < m ∧ pos m i d = z := by
  by_cases h : i ≤ z
  · exact ⟨z - i, by omega, by unfold pos; rw [show i + (z - i) = z by omega, Nat.mod_eq_of_lt hz]⟩
  · exact ⟨m - i + z, by omega, by unfold pos; rw [show i + (m - i + z) = z + m by omega, Nat.add_mod_right, Nat.mod_eq_of_lt hz]⟩

/-- A walk over the slots ends here. -/
def stops (texts : List ByteArray) (at_ : List Int) (s : ByteArray) (x : Nat) : Prop := at_.getD x 0 = 0 ∨ texts.getD (at_.getD x 0 - 1).toNat ⟨#[]⟩ = s
theorem placeL_at {texts : List ByteArray} {at_ : List Int} {s : ByteArray} (i : Nat) : ∀ (k d : Nat), stops texts at_ s (pos at_.length i (d + k)) → (∀ e, e < k → ¬ stops texts at_ s (pos at_.length i (d + e))) →
    placeL texts at_ s (k + 1) (pos at_.length i d) = some (pos at_.length i (d + k)) := by
  intro k
  induction k with
  | zero =>
    intro d h _
    rw [placeL]
    simp only [Nat.add_zero] at h ⊢
    rcases h with h | h
    · rw [if_pos h]
    · by_cases h0 : at_.getD (pos at_.length i d) 0 = 0
      · rw [if_pos h0]
      · rw [if_neg h0, if_pos h]
  | succ k ih =>
    intro d h hn
    have h0 := hn 0 (by omega)
    simp only [Nat.add_zero, stops, not_or] at h0
    rw [placeL, if_neg h0.1, if_neg h0.2, pos_succ]
    have := ih (d + 1) (by rw [show d + 1 + k = d + (k + 1) by omega]; exact h) (fun e he => by rw [show d + 1 + e = d + (e + 1) by omega]; exact hn (e + 1) (by omega))
    rw [this, show d + 1 + k = d + (k + 1) by omega]

theorem least {p : Nat → Prop} : ∀ n, p n → ∃ k, k ≤ n ∧ p k ∧ ∀ e, e < k → ¬ p e := by
  intro n
  induction n using Nat.strongRecOn with
  | _ n ih =>
    intro h
    by_cases hx : ∃ e, e < n ∧ p e
    · obtain ⟨e, he, hp⟩ := hx
      obtain ⟨k, hk, h1, h2⟩ := ih e he hp
      exact ⟨k, by omega, h1, h2⟩
    · exact ⟨n, Nat.le_refl _, h, fun e he hp => hx ⟨e, he, hp⟩⟩

/-- The table is as it should be. -/
structure Good (texts : List ByteArray) (at_ : List Int) : Prop where
  range : ∀ i, i < at_.length → 0 ≤ at_.getD i 0 ∧ at_.getD i 0 ≤ texts.length
  path : ∀ j (hj : j < texts.length), ∃ d, at_.getD (pos at_.length (start at_ texts[j]) d) 0 = (j : Int) + 1 ∧ ∀ e, e < d → at_.getD (pos at_.length (start at_ texts[j]) e) 0 ≠ 0
  nodup : texts.Nodup
  few : (at_.filter (fun x => decide (x ≠ 0))).length ≤ texts.length
  some_ : 0 < at_.length

theorem start_lt {at_ : List Int} (h : 0 < at_.length) (s : ByteArray) : start at_ s < at_.length := by
  unfold start
  have := Int.emod_lt_of_pos (mixv s) (show (0 : Int) < at_.length by omega)
  have := Int.emod_nonneg (mixv s) (show (at_.length : Int) ≠ 0 by omega)
  omega

theorem Good.found {texts : List ByteArray} {at_ : List Int} (g : Good texts at_) {j : Nat} (hj : j < texts.length) : ∃ f r, placeL texts at_ texts[j] f (start at_ texts[j]) = some r ∧ r < at_.length ∧ at_.getD r 0 = (j : Int) + 1 := by
  obtain ⟨d, h1, h2⟩ := g.path j hj
  have hs : stops texts at_ texts[j] (pos at_.length (start at_ texts[j]) d) := .inr (by rw [h1]; simp [hj])
  obtain ⟨k, hk, h3, h4⟩ := least (p := fun e => stops texts at_ texts[j] (pos at_.length (start at_ texts[j]) e)) d hs
  have hp := placeL_at (texts := texts) (s := texts[j]) (start at_ texts[j]) k 0 (by simpa using h3) (fun e he => by simpa using h4 e he)
  rw [pos_zero (start_lt g.some_ _), Nat.zero_add] at hp
  refine ⟨k + 1, _, hp, pos_lt g.some_ _ _, ?_⟩
  rcases h3 with h3 | h3
  · rcases Nat.lt_or_ge k d with h | h
    · exact absurd h3 (h2 k h)
    · have : k = d := by omega
      subst this; exact h1
  · have hr := g.range _ (pos_lt g.some_ (start at_ texts[j]) k)
    by_cases h0 : at_.getD (pos at_.length (start at_ texts[j]) k) 0 = 0
    · rcases Nat.lt_or_ge k d with h | h
      · exact absurd h0 (h2 k h)
      · have : k = d := by omega
        subst this; exact h1
    · obtain ⟨q, hq⟩ : ∃ q : Nat, at_.getD (pos at_.length (start at_ texts[j]) k) 0 = (q : Int) + 1 := ⟨(at_.getD (pos at_.length (start at_ texts[j]) k) 0 - 1).toNat, by omega⟩
      rw [hq] at h3 hr ⊢
      have hql : q < texts.length := by omega
      have e : texts[q] = texts[j] := by simpa [hql] using h3
      have := (List.nodup_iff_pairwise_ne.1 g.nodup)
      have hqj : q = j := by
        rcases Nat.lt_trichotomy q j with h | h | h
        · exact absurd e (List.pairwise_iff_getElem.1 g.nodup q j hql hj h)
        · exact h
        · exact absurd e.symm (List.pairwise_iff_getElem.1 g.nodup j q hj hql h)
      rw [hqj]

theorem has_zero {l : List Int} (h : (l.filter (fun x => decide (x ≠ 0))).length < l.length) : ∃ z, z < l.length ∧ l.getD z 0 = 0 := by
  apply Classical.byContradiction
  intro hn
  have : l.filter (fun x => decide (x ≠ 0)) = l := List.filter_eq_self.2 fun a ha => by
    obtain ⟨i, hi, e⟩ := List.getElem_of_mem ha
    rw [decide_eq_true_eq]
    intro h0
    exact hn ⟨i, hi, by simp [List.getD_eq_getElem?_getD, hi, e, h0]⟩
  rw [this] at h; omega

theorem Good.free {texts : List ByteArray} {at_ : List Int} (g : Good texts at_) (hlt : texts.length < at_.length) {s : ByteArray} (hs : s ∉ texts) :
    ∃ f d, placeL texts at_ s f (start at_ s) = some (pos at_.length (start at_ s) d) ∧ at_.getD (pos at_.length (start at_ s) d) 0 = 0 ∧ ∀ e, e < d → at_.getD (pos at_.length (start at_ s) e) 0 ≠ 0 := by
  obtain ⟨z, hz, h0⟩ := has_zero (l := at_) (by have := g.few; omega)
  obtain ⟨d0, _, hd⟩ := pos_all (start_lt g.some_ s) hz
  obtain ⟨k, hk, h3, h4⟩ := least (p := fun e => stops texts at_ s (pos at_.length (start at_ s) e)) d0 (by show stops _ _ _ _; rw [hd]; exact .inl h0)
  have hp := placeL_at (texts := texts) (s := s) (start at_ s) k 0 (by simpa using h3) (fun e he => by simpa using h4 e he)
  rw [pos_zero (start_lt g.some_ _), Nat.zero_add] at hp
  refine ⟨k + 1, k, hp, ?_, fun e he h => h4 e he (.inl h)⟩
  rcases h3 with h3 | h3
  · exact h3
  · have hr := g.range _ (pos_lt g.some_ (start at_ s) k)
    by_cases h0 : at_.getD (pos at_.length (start at_ s) k) 0 = 0
    · exact h0
    · exfalso
      apply hs
      have hql : (at_.getD (pos at_.length (start at_ s) k) 0 - 1).toNat < texts.length := by omega
      rw [← h3, List.getD_eq_getElem?_getD, List.getElem?_eq_getElem hql, Option.getD_some]
      exact List.getElem_mem hql

theorem filter_set_le (p : Int → Bool) (v : Int) : ∀ (l : List Int) (r : Nat), ((l.set r v).filter p).length ≤ (l.filter p).length + 1
  | [], r => by simp
  | a :: l, 0 => by
    simp only [List.set_cons_zero, List.filter_cons]
    split <;> split <;> simp <;> omega
  | a :: l, r + 1 => by
    have := filter_set_le p v l r
    simp only [List.set_cons_succ, List.filter_cons]
    split <;> simp <;> omega

theorem start_set (at_ : List Int) (r : Nat) (v : Int) (s : ByteArray) : start (at_.set r v) s = start at_ s := by unfold start; simp
theorem getD_set (l : List Int) (r i : Nat) (v : Int) : (l.set r v).getD i 0 = if i = r ∧ r < l.length then v else l.getD i 0 := by
  simp only [List.getD_eq_getElem?_getD, List.getElem?_set]
  by_cases h : r = i
  · subst h
    by_cases h2 : r < l.length <;> simp [h2]
  · rw [if_neg h, if_neg (fun hh => h hh.1.symm)]

/-- A new text comes. -/
theorem Good.insert {texts : List ByteArray} {at_ : List Int} (g : Good texts at_) {s : ByteArray} (hs : s ∉ texts) {d : Nat} (h0 : at_.getD (pos at_.length (start at_ s) d) 0 = 0) (hp : ∀ e, e < d → at_.getD (pos at_.length (start at_ s) e) 0 ≠ 0) :
    Good (texts ++ [s]) (at_.set (pos at_.length (start at_ s) d) ((texts.length : Int) + 1)) := by
  have hl := pos_lt g.some_ (start at_ s) d
  refine ⟨fun i hi => ?_, fun j hj => ?_, ?_, ?_, by simpa using g.some_⟩
  · rw [getD_set]
    simp only [List.length_set] at hi
    have := g.range i hi
    rw [List.length_append, List.length_singleton]
    split
    · constructor <;> omega
    · exact ⟨this.1, by omega⟩
  · simp only [List.length_set, start_set]
    by_cases hjl : j < texts.length
    · have e : (texts ++ [s])[j] = texts[j] := List.getElem_append_left hjl
      rw [e]
      obtain ⟨d', h1, h2⟩ := g.path j hjl
      refine ⟨d', ?_, fun e he => ?_⟩
      · rw [getD_set, if_neg, h1]
        rintro ⟨e1, _⟩; rw [e1, h0] at h1; omega
      · rw [getD_set]
        split
        · omega
        · exact h2 e he
    · have hj' : j = texts.length := by simp at hj; omega
      subst hj'
      have e : (texts ++ [s])[texts.length] = s := by simp
      rw [e]
      refine ⟨d, by rw [getD_set, if_pos ⟨rfl, hl⟩], fun e he => ?_⟩
      rw [getD_set]
      split
      · omega
      · exact hp e he
  · rw [List.nodup_append]
    exact ⟨g.nodup, by simp, fun a ha b hb => by simp at hb; subst hb; rintro rfl; exact hs ha⟩
  · have := filter_set_le (fun x => decide (x ≠ 0)) ((texts.length : Int) + 1) at_ (pos at_.length (start at_ s) d)
    have := g.few
    simp only [List.length_append, List.length_singleton]
    omega

theorem good_empty {m : Nat} (hm : 0 < m) : Good [] (List.replicate m 0) := by
  refine ⟨fun i hi => ?_, fun j hj => by simp at hj, List.nodup_nil, by simp, by simpa using hm⟩
  simp at hi
  simp [List.getD_eq_getElem?_getD, hi]

end Go.Proofs.Ytckackfgkidedaa
