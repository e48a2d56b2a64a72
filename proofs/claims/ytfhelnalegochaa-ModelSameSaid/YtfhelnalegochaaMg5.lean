/- The order of lists of numbers; lists that rise: plain laws. Conditions: none. -/
import Derived.Test.YtfhelnalegochaaMg4
namespace Go.Proofs.Ytfhelnalegochaa
open Go Go.Fw
set_option linter.unusedVariables false
set_option linter.unusedSimpArgs false

theorem cmpL_refl : ∀ a : List Int, cmpL a a = 0
  | [] => rfl
  | x :: a => by rw [cmpL, if_neg (by omega), if_neg (by omega)]; exact cmpL_refl a
theorem cmpL_eq : ∀ {a b : List Int}, cmpL a b = 0 → a = b
  | [], [], _ => rfl
  | [], _ :: _, h => by simp [cmpL] at h
  | _ :: _, [], h => by simp [cmpL] at h
  | x :: a, y :: b, h => by
    rw [cmpL] at h
    split at h
    · omega
    · split at h
      · omega
      · rw [cmpL_eq h, show x = y by omega]
theorem cmpL_swap : ∀ a b : List Int, cmpL b a = - cmpL a b
  | [], [] => rfl
  | [], _ :: _ => rfl
  | _ :: _, [] => rfl
  | x :: a, y :: b => by
    rw [cmpL, cmpL]
    by_cases h1 : x < y
    · rw [if_neg (by omega), if_pos h1, if_pos h1]; rfl
    · by_cases h2 : y < x
      · rw [if_pos h2, if_neg h1, if_pos h2]
      · rw [if_neg h2, if_neg h1, if_neg h1, if_neg h2]; exact cmpL_swap a b
theorem cmpL_tt : ∀ {a b c : List Int}, cmpL a b < 0 → cmpL b c < 0 → cmpL a c < 0
  | [], [], _, h, _ => by simp [cmpL] at h
  | [], _ :: _, [], _, h => by simp [cmpL] at h
  | [], _ :: _, _ :: _, _, _ => by simp [cmpL]
  | _ :: _, [], _, h, _ => by simp [cmpL] at h
  | _ :: _, _ :: _, [], _, h => by simp [cmpL] at h
  | x :: a, y :: b, z :: c, h, k => by
    rw [cmpL] at h k ⊢
    by_cases h1 : x < y
    · by_cases h2 : y < z
      · rw [if_pos (by omega)]; omega
      · rw [if_neg h2] at k
        by_cases h3 : z < y
        · rw [if_pos h3] at k; omega
        · rw [if_pos (by omega)]; omega
    · rw [if_neg h1] at h
      by_cases h2 : y < x
      · rw [if_pos h2] at h; omega
      · rw [if_neg h2] at h
        by_cases h3 : y < z
        · rw [if_pos (by omega)]; omega
        · rw [if_neg h3] at k
          by_cases h4 : z < y
          · rw [if_pos h4] at k; omega
          · rw [if_neg h4] at k
            rw [if_neg (by omega), if_neg (by omega)]
            exact cmpL_tt h k
theorem cmpL_range : ∀ a b : List Int, -1 ≤ cmpL a b ∧ cmpL a b ≤ 1
  | [], [] => by simp [cmpL]
  | [], _ :: _ => by simp [cmpL]
  | _ :: _, [] => by simp [cmpL]
  | x :: a, y :: b => by
    rw [cmpL]
    split
    · omega
    · split
      · omega
      · exact cmpL_range a b
/-- a is ahead of b. -/
def ltL (a b : List Int) : Prop := cmpL a b < 0
theorem ltL_irr (a : List Int) : ¬ ltL a a := by unfold ltL; rw [cmpL_refl]; omega
theorem ltL_tt {a b c : List Int} (h : ltL a b) (k : ltL b c) : ltL a c := cmpL_tt h k
theorem ltL_as {a b : List Int} (h : ltL a b) : ¬ ltL b a := fun k => ltL_irr a (ltL_tt h k)
theorem ltL_tri {a b : List Int} (h : ¬ ltL a b) (k : ¬ ltL b a) : a = b := by
  unfold ltL at h k
  rw [cmpL_swap a b] at k
  exact cmpL_eq (by omega)
theorem leL_tr {a b c : List Int} (h : ¬ ltL b a) (k : ¬ ltL c b) : ¬ ltL c a := fun hc => by
  by_cases h1 : ltL a b
  · exact k (ltL_tt hc h1)
  · rw [ltL_tri h1 h] at hc; exact k hc
theorem ltL_le {a b c : List Int} (h : ltL a b) (k : ¬ ltL c b) : ltL a c := Classical.byContradiction fun hc => by
  by_cases h1 : ltL c a
  · exact k (ltL_tt h1 h)
  · rw [ltL_tri hc h1] at h; exact k h
theorem leL_lt {a b c : List Int} (h : ¬ ltL b a) (k : ltL b c) : ltL a c := Classical.byContradiction fun hc => by
  by_cases h1 : ltL c a
  · exact h (ltL_tt k h1)
  · rw [ltL_tri hc h1] at h; exact h k
theorem cmp_pos {a b : List Int} : 0 < cmpL a b ↔ ltL b a := by unfold ltL; rw [cmpL_swap a b]; omega
theorem cmp_zero {a b : List Int} : cmpL a b = 0 ↔ a = b := ⟨cmpL_eq, fun h => by rw [h, cmpL_refl]⟩

/-! ### Lists that rise, with an element more -/
section
variable {κ : Type} (f : κ → List Int)
abbrev addN (a b : Int) : Int := IntKind.i64.wrap (a + b)
/-- x, put into a list that rises. -/
def putL : List (κ × Int) → κ × Int → List (κ × Int)
  | [], x => [x]
  | y :: l, x => if 0 < cmpL (f y.1) (f x.1) then x :: y :: l else if cmpL (f y.1) (f x.1) = 0 then (y.1, addN y.2 x.2) :: l else y :: putL l x
def sumL (l : List (κ × Int)) : List (κ × Int) := l.foldl (putL f) []
/-- What the reference does: over all elements, laid or not. -/
def putG (x : κ × Int) : Bool → List (κ × Int) → List (κ × Int) × Bool
  | laid, [] => ([], laid)
  | laid, y :: l =>
    let c := cmpL (f y.1) (f x.1)
    let r := putG x (laid || decide (0 ≤ c)) l
    ((if 0 < c ∧ laid = false then [x] else []) ++ (if c = 0 then (y.1, addN y.2 x.2) else y) :: r.1, r.2)
def Ris (l : List (κ × Int)) : Prop := l.Pairwise fun a b => ltL (f a.1) (f b.1)
variable {f}
theorem putG_rest {x : κ × Int} : ∀ {l : List (κ × Int)}, (∀ y ∈ l, ltL (f x.1) (f y.1)) → putG f x true l = (l, true)
  | [], _ => rfl
  | y :: l, h => by
    have h1 := h y (List.mem_cons_self ..)
    have h2 : 0 < cmpL (f y.1) (f x.1) := cmp_pos.2 h1
    have ih := putG_rest (x := x) (l := l) fun z hz => h z (List.mem_cons_of_mem _ hz)
    simp only [putG, Bool.true_or, ih, if_neg (show ¬ (0 < cmpL (f y.1) (f x.1) ∧ true = false) from fun h => by cases h.2), if_neg (show ¬ cmpL (f y.1) (f x.1) = 0 by omega), List.nil_append]
theorem putG_put {x : κ × Int} : ∀ {l : List (κ × Int)}, Ris f l → (putG f x false l).1 ++ (if (putG f x false l).2 = true then [] else [x]) = putL f l x
  | [], _ => rfl
  | y :: l, h => by
    obtain ⟨h1, h2⟩ := List.pairwise_cons.1 h
    simp only [putG, putL, Bool.false_or]
    by_cases hp : 0 < cmpL (f y.1) (f x.1)
    · have := putG_rest (f := f) (x := x) (l := l) fun z hz => ltL_tt (cmp_pos.1 hp) (h1 z hz)
      rw [if_pos ⟨hp, trivial⟩, if_pos hp, if_neg (by omega), decide_eq_true (by omega), this]
      simp
    · rw [if_neg (fun h => hp h.1), if_neg hp]
      by_cases hz : cmpL (f y.1) (f x.1) = 0
      · have := putG_rest (f := f) (x := x) (l := l) fun z hz' => by rw [← cmp_zero.1 hz]; exact h1 z hz'
        rw [if_pos hz, if_pos hz, decide_eq_true (by omega), this]
        simp
      · rw [if_neg hz, if_neg hz, decide_eq_false (by omega), ← putG_put h2]
        simp
theorem putL_mem {x : κ × Int} : ∀ {l : List (κ × Int)}, ∀ z ∈ putL f l x, f z.1 = f x.1 ∨ ∃ y ∈ l, z.1 = y.1
  | [], z, h => by simp only [putL, List.mem_singleton] at h; subst h; exact .inl rfl
  | y :: l, z, h => by
    unfold putL at h
    split at h
    · rcases List.mem_cons.1 h with rfl | h
      · exact .inl rfl
      · exact .inr ⟨z, h, rfl⟩
    · split at h
      · rcases List.mem_cons.1 h with rfl | h
        · exact .inr ⟨y, List.mem_cons_self .., rfl⟩
        · exact .inr ⟨z, List.mem_cons_of_mem _ h, rfl⟩
      · rcases List.mem_cons.1 h with rfl | h
        · exact .inr ⟨z, List.mem_cons_self .., rfl⟩
        · rcases putL_mem z h with h | ⟨w, hw, e⟩
          · exact .inl h
          · exact .inr ⟨w, List.mem_cons_of_mem _ hw, e⟩
theorem putL_fst {x : κ × Int} : ∀ {l : List (κ × Int)}, ∀ z ∈ putL f l x, z.1 = x.1 ∨ ∃ y ∈ l, z.1 = y.1
  | [], z, h => by simp only [putL, List.mem_singleton] at h; subst h; exact .inl rfl
  | y :: l, z, h => by
    unfold putL at h
    split at h
    · rcases List.mem_cons.1 h with rfl | h
      · exact .inl rfl
      · exact .inr ⟨z, h, rfl⟩
    · split at h
      · rcases List.mem_cons.1 h with rfl | h
        · exact .inr ⟨y, List.mem_cons_self .., rfl⟩
        · exact .inr ⟨z, List.mem_cons_of_mem _ h, rfl⟩
      · rcases List.mem_cons.1 h with rfl | h
        · exact .inr ⟨z, List.mem_cons_self .., rfl⟩
        · rcases putL_fst z h with h | ⟨w, hw, e⟩
          · exact .inl h
          · exact .inr ⟨w, List.mem_cons_of_mem _ hw, e⟩
theorem putL_ris {x : κ × Int} : ∀ {l : List (κ × Int)}, Ris f l → Ris f (putL f l x)
  | [], _ => List.pairwise_singleton ..
  | y :: l, h => by
    obtain ⟨h1, h2⟩ := List.pairwise_cons.1 h
    unfold putL
    split
    · rename_i hp
      refine List.pairwise_cons.2 ⟨fun z hz => ?_, h⟩
      rcases List.mem_cons.1 hz with rfl | hz
      · exact cmp_pos.1 hp
      · exact ltL_tt (cmp_pos.1 hp) (h1 z hz)
    · rename_i hp
      split
      · rename_i hz
        exact List.pairwise_cons.2 ⟨h1, h2⟩
      · rename_i hz
        refine List.pairwise_cons.2 ⟨fun z hz' => ?_, putL_ris h2⟩
        rcases putL_mem z hz' with e | ⟨w, hw, e⟩
        · rw [e]; unfold ltL; omega
        · rw [e]; exact h1 w hw
theorem putL_len {x : κ × Int} : ∀ (l : List (κ × Int)), (putL f l x).length ≤ l.length + 1
  | [] => Nat.le_refl _
  | y :: l => by
    unfold putL
    split
    · simp
    · split
      · simp
      · have := putL_len (x := x) l; simp; omega
theorem addN_mod (a b : Int) : ∃ k : Int, addN a b = a + b + k * 18446744073709551616 ∧ -9223372036854775808 ≤ addN a b ∧ addN a b ≤ 9223372036854775807 := by
  have e : addN a b = if 9223372036854775808 ≤ (a + b) % 18446744073709551616 then (a + b) % 18446744073709551616 - 18446744073709551616 else (a + b) % 18446744073709551616 := by
    simp [addN, IntKind.wrap, IntKind.bits, IntKind.signed]
  rw [e]
  split
  · exact ⟨-((a + b) / 18446744073709551616) - 1, by omega, by omega, by omega⟩
  · exact ⟨-((a + b) / 18446744073709551616), by omega, by omega, by omega⟩
theorem addN_rot (a b c : Int) : addN (addN a b) c = addN (addN a c) b := by
  obtain ⟨k1, h1, h2, h3⟩ := addN_mod a b
  obtain ⟨k2, h4, h5, h6⟩ := addN_mod (addN a b) c
  obtain ⟨k3, h7, h8, h9⟩ := addN_mod a c
  obtain ⟨k4, h10, h11, h12⟩ := addN_mod (addN a c) b
  omega
theorem addN_comm (a b : Int) : addN a b = addN b a := by unfold addN; rw [Int.add_comm]
end
/-! ### Lists of n-grams with their numbers -/
abbrev Ct := List Int × Int
abbrev putM (l : List Ct) (x : Ct) : List Ct := putL id l x
theorem map_put {κ : Type} {f : κ → List Int} {x : κ × Int} : ∀ (l : List (κ × Int)), (putL f l x).map (fun p => (f p.1, p.2)) = putM (l.map fun p => (f p.1, p.2)) (f x.1, x.2)
  | [] => rfl
  | y :: l => by
    simp only [putM, putL, List.map_cons, id]
    split
    · rfl
    · split
      · rfl
      · rw [List.map_cons, map_put l]
def lk (g : List Int) : List Ct → Option Int
  | [] => none
  | y :: l => if y.1 = g then some y.2 else lk g l
theorem lk_none {g : List Int} : ∀ {l : List Ct}, (∀ y ∈ l, y.1 ≠ g) → lk g l = none
  | [], _ => rfl
  | y :: l, h => by rw [lk, if_neg (h y (List.mem_cons_self ..))]; exact lk_none fun z hz => h z (List.mem_cons_of_mem _ hz)
theorem lk_mem {g : List Int} {n : Int} : ∀ {l : List Ct}, lk g l = some n → ∃ y ∈ l, y.1 = g
  | [], h => by simp [lk] at h
  | y :: l, h => by
    rw [lk] at h
    split at h
    · rename_i e; exact ⟨y, List.mem_cons_self .., e⟩
    · obtain ⟨z, hz, e⟩ := lk_mem h; exact ⟨z, List.mem_cons_of_mem _ hz, e⟩
theorem lk_put {g : List Int} {x : Ct} : ∀ {l : List Ct}, Ris id l → lk g (putM l x) = if x.1 = g then some (match lk g l with | none => x.2 | some n => addN n x.2) else lk g l
  | [], _ => by simp [putM, putL, lk]
  | y :: l, h => by
    obtain ⟨h1, h2⟩ := List.pairwise_cons.1 h
    simp only [putM, putL, id]
    by_cases hp : 0 < cmpL y.1 x.1
    · rw [if_pos hp]
      have hn : lk x.1 (y :: l) = none := lk_none fun z hz e => by
        rcases List.mem_cons.1 hz with rfl | hz
        · have := cmp_pos.1 hp; rw [e] at this; exact ltL_irr x.1 this
        · have := ltL_tt (cmp_pos.1 hp) (h1 z hz); unfold id at this; rw [e] at this; exact ltL_irr x.1 this
      rw [lk]
      by_cases hg : x.1 = g
      · subst hg; rw [if_pos rfl, if_pos rfl, hn]
      · rw [if_neg hg, if_neg hg]
    · rw [if_neg hp]
      by_cases hz : cmpL y.1 x.1 = 0
      · have e := cmp_zero.1 hz
        rw [if_pos hz, lk, lk]
        simp only [e]
        by_cases hg : x.1 = g
        · simp [hg]
        · simp [hg]
      · rw [if_neg hz, lk]
        have hne : y.1 ≠ x.1 := fun e => hz (cmp_zero.2 e)
        have ih := lk_put (g := g) (x := x) h2
        unfold putM at ih
        rw [ih, lk]
        by_cases hg : x.1 = g
        · rw [if_pos hg, if_pos hg, if_neg (fun e => hne (e.trans hg.symm)), if_neg (fun e => hne (e.trans hg.symm))]
        · rw [if_neg hg, if_neg hg]
theorem lk_ext : ∀ {a b : List Ct}, Ris id a → Ris id b → (∀ g, lk g a = lk g b) → a = b
  | [], [], _, _, _ => rfl
  | [], q :: b, _, _, h => by have := h q.1; simp [lk] at this
  | p :: a, [], _, _, h => by have := h p.1; simp [lk] at this
  | p :: a, q :: b, ha, hb, h => by
    obtain ⟨a1, a2⟩ := List.pairwise_cons.1 ha
    obtain ⟨b1, b2⟩ := List.pairwise_cons.1 hb
    have e1 : p.1 = q.1 := by
      have h1 := h p.1
      have h2 := h q.1
      rw [lk, if_pos rfl] at h1
      rw [lk, lk, if_pos rfl] at h2
      obtain ⟨y, hy, ey⟩ := lk_mem h1.symm
      rcases List.mem_cons.1 hy with rfl | hy
      · exact ey.symm
      · have l1 : ltL q.1 p.1 := by have := b1 y hy; unfold id at this; rw [ey] at this; exact this
        rw [if_neg (show ¬ p.1 = q.1 from fun e => by rw [e] at l1; exact ltL_irr q.1 l1)] at h2
        obtain ⟨z, hz, ez⟩ := lk_mem h2
        have l2 : ltL p.1 q.1 := by have := a1 z hz; unfold id at this; rw [ez] at this; exact this
        exact absurd l2 (ltL_as l1)
    have e2 : p.2 = q.2 := by
      have h1 := h p.1
      rw [lk, if_pos rfl, lk, if_pos e1.symm] at h1
      injection h1
    have e3 : a = b := lk_ext a2 b2 fun g => by
      by_cases hg : p.1 = g
      · rw [lk_none fun z hz e => ltL_irr p.1 (by have := a1 z hz; unfold id at this; rw [e, ← hg] at this; exact this), lk_none fun z hz e => ltL_irr q.1 (by have := b1 z hz; unfold id at this; rw [e, ← hg, e1] at this; exact this)]
      · have := h g
        rwa [lk, lk, if_neg hg, if_neg (e1 ▸ hg)] at this
    rw [e3, Prod.ext e1 e2]
theorem put_comm {l : List Ct} {x y : Ct} (h : Ris id l) : putM (putM l x) y = putM (putM l y) x := by
  refine lk_ext (putL_ris (putL_ris h)) (putL_ris (putL_ris h)) fun g => ?_
  rw [lk_put (putL_ris h), lk_put (putL_ris h), lk_put h, lk_put h]
  by_cases h1 : x.1 = g <;> by_cases h2 : y.1 = g
  · simp only [h1, h2, if_true]
    cases lk g l with
    | none => simp only; rw [addN_comm]
    | some n => simp only; rw [addN_rot]
  · simp only [h1, h2, if_true, if_false]
  · simp only [h1, h2, if_true, if_false]
  · simp only [h1, h2, if_false]
theorem foldl_perm {l m : List Ct} (hp : l.Perm m) : ∀ {a : List Ct}, Ris id a → l.foldl putM a = m.foldl putM a := by
  induction hp with
  | nil => intro a _; rfl
  | cons x _ ih => intro a ha; exact ih (putL_ris ha)
  | swap x y l => intro a ha; simp only [List.foldl_cons]; rw [put_comm ha]
  | trans _ _ ih1 ih2 => intro a ha; rw [ih1 ha, ih2 ha]
theorem fold_ris {l : List Ct} : ∀ {a : List Ct}, Ris id a → Ris id (l.foldl putM a) := by
  induction l with
  | nil => intro a h; exact h
  | cons x l ih => intro a h; exact ih (putL_ris h)
theorem put_last {x : Ct} : ∀ {l : List Ct}, Ris id l → (∀ y ∈ l, ¬ ltL x.1 y.1) → putM l x = if h : l ≠ [] ∧ (l.getD (l.length - 1) ([], 0)).1 = x.1 then l.set (l.length - 1) (x.1, addN (l.getD (l.length - 1) ([], 0)).2 x.2) else l ++ [x]
  | [], _, _ => rfl
  | [y], _, hx => by
    have h1 := hx y (List.mem_cons_self ..)
    simp only [putM, putL, id]
    rw [if_neg (fun h => h1 (cmp_pos.1 h))]
    by_cases e : y.1 = x.1
    · rw [if_pos (cmp_zero.2 e), dif_pos ⟨by simp, by simpa using e⟩]; simp [e]
    · rw [if_neg (fun h => e (cmp_zero.1 h)), dif_neg (fun h => e (by simpa using h.2))]; rfl
  | y :: z :: l, h, hx => by
    obtain ⟨h1, h2⟩ := List.pairwise_cons.1 h
    have h3 := hx y (List.mem_cons_self ..)
    have h4 := hx z (List.mem_cons_of_mem _ (List.mem_cons_self ..))
    have h5 : ltL y.1 z.1 := h1 z (List.mem_cons_self ..)
    have ih := put_last (x := x) (l := z :: l) h2 fun w hw => hx w (List.mem_cons_of_mem _ hw)
    have e0 : putM (y :: z :: l) x = y :: putM (z :: l) x := by
      unfold putM
      rw [putL]
      rw [if_neg (show ¬ 0 < cmpL (id y.1) (id x.1) from fun h => h3 (cmp_pos.1 h)), if_neg (show ¬ cmpL (id y.1) (id x.1) = 0 from fun e => h4 (by have e' : y.1 = x.1 := cmp_zero.1 e; rw [← e']; exact h5))]
    have e1 : (y :: z :: l).length - 1 = (z :: l).length - 1 + 1 := by simp
    rw [e0, ih, e1]
    by_cases hc : (z :: l) ≠ [] ∧ ((z :: l).getD ((z :: l).length - 1) ([], 0)).1 = x.1
    · rw [dif_pos hc, dif_pos ⟨by simp, by simpa using hc.2⟩]; simp
    · rw [dif_neg hc, dif_neg (fun h => hc ⟨by simp, by simpa using h.2⟩)]; rfl
end Go.Proofs.Ytfhelnalegochaa
