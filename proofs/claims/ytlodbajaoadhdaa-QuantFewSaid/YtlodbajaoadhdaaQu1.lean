/- Books of levels: plain laws. Conditions: none. -/
import Derived.Test.YtlodbajaoadhdaaSlSortI
namespace Go.Proofs.Ytlodbajaoadhdaa
open Go Go.Fw
set_option linter.unusedVariables false
/-! ### Lists that rise -/
abbrev Str (l : List Int) : Prop := l.Pairwise (· < ·)
abbrev Wk (l : List Int) : Prop := l.Pairwise (· ≤ ·)
theorem Str.wk {l : List Int} (h : Str l) : Wk l := h.imp fun h => Int.le_of_lt h
theorem str_uni : ∀ {a b : List Int}, Str a → Str b → (∀ v, v ∈ a ↔ v ∈ b) → a = b
  | [], [], _, _, _ => rfl
  | [], y :: b, _, _, h => by have := (h y).2 (List.mem_cons_self ..); simp at this
  | x :: a, [], _, _, h => by have := (h x).1 (List.mem_cons_self ..); simp at this
  | x :: a, y :: b, ha, hb, h => by
    have ha' := List.pairwise_cons.1 ha
    have hb' := List.pairwise_cons.1 hb
    have hxy : x = y := by
      rcases List.mem_cons.1 ((h x).1 (List.mem_cons_self ..)) with e | h1
      · exact e
      · rcases List.mem_cons.1 ((h y).2 (List.mem_cons_self ..)) with e | h2
        · exact e.symm
        · have := hb'.1 x h1; have := ha'.1 y h2; omega
    subst hxy
    congr 1
    refine str_uni ha'.2 hb'.2 fun v => ⟨fun hv => ?_, fun hv => ?_⟩
    · rcases List.mem_cons.1 ((h v).1 (List.mem_cons_of_mem _ hv)) with e | h1
      · have := ha'.1 v hv; omega
      · exact h1
    · rcases List.mem_cons.1 ((h v).2 (List.mem_cons_of_mem _ hv)) with e | h1
      · have := hb'.1 v hv; omega
      · exact h1
theorem wk_uni : ∀ {a b : List Int}, Wk a → Wk b → a.Perm b → a = b
  | [], b, _, _, h => (List.nil_perm.1 h).symm ▸ rfl
  | x :: a, [], _, _, h => by have := h.length_eq; simp at this
  | x :: a, y :: b, ha, hb, h => by
    have ha' := List.pairwise_cons.1 ha
    have hb' := List.pairwise_cons.1 hb
    have hxy : x = y := by
      have h1 : y ≤ x := by
        rcases List.mem_cons.1 (h.mem_iff.1 (List.mem_cons_self (a := x) (l := a))) with e | h1
        · omega
        · exact hb'.1 x h1
      have h2 : x ≤ y := by
        rcases List.mem_cons.1 (h.mem_iff.2 (List.mem_cons_self (a := y) (l := b))) with e | h2
        · omega
        · exact ha'.1 y h2
      omega
    subst hxy
    rw [wk_uni ha'.2 hb'.2 ((List.perm_cons x).1 h)]
theorem wk_sort (l : List Int) : Wk (l.mergeSort fun x y => decide (x ≤ y)) := by
  have := List.pairwise_mergeSort (le := fun x y : Int => decide (x ≤ y)) (fun a b c h1 h2 => by simp at *; omega) (fun a b => by simp; omega) l
  exact this.imp fun h => by simpa using h
/-- A number more, in its place. -/
def insF (once : Bool) (v : Int) : List Int → List Int
  | [] => [v]
  | x :: l => if v ≤ x then (if v < x ∨ once = false then v :: x :: l else x :: l) else x :: insF once v l
theorem insF_mem {once : Bool} {v u : Int} : ∀ {l : List Int}, u ∈ insF once v l ↔ u = v ∨ u ∈ l
  | [] => by simp [insF]
  | x :: l => by
    unfold insF
    split
    · split
      · simp
      · rename_i h1 h2
        have : v = x := by have : ¬ v < x := fun h => h2 (.inl h); omega
        subst this
        simp
    · rw [List.mem_cons, insF_mem, List.mem_cons]
      constructor <;> rintro (h | h | h) <;> simp [h]
theorem insF_str {v : Int} : ∀ {l : List Int}, Str l → Str (insF true v l)
  | [], _ => List.pairwise_singleton ..
  | x :: l, h => by
    have h' := List.pairwise_cons.1 h
    unfold insF
    split
    · split
      · rename_i h1 h2
        have h2 : v < x := h2.resolve_right (by decide)
        refine List.pairwise_cons.2 ⟨fun u hu => ?_, h⟩
        rcases List.mem_cons.1 hu with rfl | hu
        · exact h2
        · have := h'.1 u hu; omega
      · exact h
    · refine List.pairwise_cons.2 ⟨fun u hu => ?_, insF_str h'.2⟩
      rcases insF_mem.1 hu with rfl | hu
      · omega
      · exact h'.1 u hu
theorem insF_wk {v : Int} : ∀ {l : List Int}, Wk l → Wk (insF false v l)
  | [], _ => List.pairwise_singleton ..
  | x :: l, h => by
    have h' := List.pairwise_cons.1 h
    unfold insF
    split
    · rename_i h1
      rw [if_pos (.inr rfl)]
      refine List.pairwise_cons.2 ⟨fun u hu => ?_, h⟩
      rcases List.mem_cons.1 hu with rfl | hu
      · exact h1
      · have := h'.1 u hu; omega
    · refine List.pairwise_cons.2 ⟨fun u hu => ?_, insF_wk h'.2⟩
      rcases insF_mem.1 hu with rfl | hu
      · omega
      · exact h'.1 u hu
theorem insF_perm {v : Int} : ∀ {l : List Int}, (insF false v l).Perm (v :: l)
  | [] => List.Perm.refl _
  | x :: l => by
    unfold insF
    split
    · rw [if_pos (.inr rfl)]
    · exact (insF_perm.cons x).trans (List.Perm.swap v x l)
theorem insF_len {once : Bool} {v : Int} : ∀ {l : List Int}, (insF once v l).length ≤ l.length + 1
  | [] => by simp [insF]
  | x :: l => by
    unfold insF
    split
    · split <;> simp
    · have := insF_len (once := once) (v := v) (l := l); simp; omega
/-- All numbers in order; each once. -/
def insL (once : Bool) (l : List Int) : List Int := l.foldl (fun a v => insF once v a) []
theorem fold_mem {once : Bool} {u : Int} : ∀ {l a : List Int}, u ∈ l.foldl (fun a v => insF once v a) a ↔ u ∈ l ∨ u ∈ a
  | [], a => by simp
  | x :: l, a => by
    rw [List.foldl_cons, fold_mem, insF_mem, List.mem_cons]
    constructor
    · rintro (h | h | h)
      · exact .inl (.inr h)
      · exact .inl (.inl h)
      · exact .inr h
    · rintro ((h | h) | h)
      · exact .inr (.inl h)
      · exact .inl h
      · exact .inr (.inr h)
theorem fold_str : ∀ {l a : List Int}, Str a → Str (l.foldl (fun a v => insF true v a) a)
  | [], a, h => h
  | x :: l, a, h => by rw [List.foldl_cons]; exact fold_str (insF_str h)
theorem fold_wk : ∀ {l a : List Int}, Wk a → Wk (l.foldl (fun a v => insF false v a) a)
  | [], a, h => h
  | x :: l, a, h => by rw [List.foldl_cons]; exact fold_wk (insF_wk h)
theorem fold_perm : ∀ {l a : List Int}, (l.foldl (fun a v => insF false v a) a).Perm (l ++ a)
  | [], a => List.Perm.refl _
  | x :: l, a => by
    rw [List.foldl_cons]
    exact (fold_perm (l := l)).trans ((insF_perm.append_left l).trans List.perm_middle)
theorem foldI_len {once : Bool} : ∀ {l a : List Int}, (l.foldl (fun a v => insF once v a) a).length ≤ l.length + a.length
  | [], a => by simp
  | x :: l, a => by rw [List.foldl_cons, List.length_cons]; have := foldI_len (once := once) (l := l) (a := insF once x a); have := insF_len (once := once) (v := x) (l := a); omega
theorem insL_mem {once : Bool} {u : Int} {l : List Int} : u ∈ insL once l ↔ u ∈ l := by unfold insL; rw [fold_mem]; simp
theorem insL_str {l : List Int} : Str (insL true l) := fold_str List.Pairwise.nil
theorem insL_len {once : Bool} {l : List Int} : (insL once l).length ≤ l.length := by have := foldI_len (once := once) (l := l) (a := []); simpa [insL] using this
theorem insL_sort (l : List Int) : l.mergeSort (fun x y => decide (x ≤ y)) = insL false l := by
  refine wk_uni (wk_sort l) (fold_wk List.Pairwise.nil) ((List.mergeSort_perm l _).trans ?_)
  have := fold_perm (l := l) (a := [])
  rw [List.append_nil] at this
  exact this.symm
theorem insL_wk {l : List Int} : Wk (insL false l) := fold_wk List.Pairwise.nil
theorem insL_alen {l : List Int} : (insL false l).length = l.length := by
  have := (fold_perm (l := l) (a := [])).length_eq
  simpa [insL] using this
theorem compact_mem {zs : List Int} (v : Int) : v ∈ Go.Lib.compact zs ↔ v ∈ zs := by
  unfold Go.Lib.compact Go.Lib.compactUpTo
  constructor
  · intro h
    obtain ⟨j, hj, rfl⟩ := List.mem_map.1 h
    have hj := List.mem_range.1 (List.mem_filter.1 hj).1
    rw [getElem!_pos zs.toArray j (by simpa using hj)]
    simp
  · intro h
    obtain ⟨j, hj, hv⟩ := List.getElem_of_mem h
    have key : ∀ n j, j ≤ n → ∀ hj : j < zs.length, zs[j] = v → ∃ k, k < zs.length ∧ Go.Lib.keeps zs.toArray k = true ∧ zs.toArray[k]! = v := by
      intro n
      induction n with
      | zero =>
        intro j hjn hj hv
        have : j = 0 := by omega
        subst this
        exact ⟨0, hj, Go.Lib.keeps_lt_one _ 0 (by decide), by rw [getElem!_pos zs.toArray 0 (by simpa using hj)]; simpa using hv⟩
      | succ n ih =>
        intro j hjn hj hv
        by_cases h0 : j = 0
        · exact ih j (by omega) hj hv
        · by_cases hk : zs.toArray[j]! = zs.toArray[j - 1]!
          · refine ih (j - 1) (by omega) (by omega) ?_
            rw [getElem!_pos zs.toArray j (by simpa using hj), getElem!_pos zs.toArray (j - 1) (by simp; omega)] at hk
            simp only [List.getElem_toArray] at hk
            rw [← hk]; exact hv
          · exact ⟨j, hj, Go.Lib.keeps_pos hk, by rw [getElem!_pos zs.toArray j (by simpa using hj)]; simpa using hv⟩
    obtain ⟨k, hk, h1, h2⟩ := key j j (Nat.le_refl _) hj hv
    exact List.mem_map.2 ⟨k, List.mem_filter.2 ⟨List.mem_range.2 hk, h1⟩, h2⟩
theorem compact_str {zs : List Int} (h : Wk zs) : Str (Go.Lib.compact zs) := by
  unfold Go.Lib.compact Go.Lib.compactUpTo
  show List.Pairwise _ _
  rw [List.pairwise_map]
  have hr : ((List.range zs.length).filter (Go.Lib.keeps zs.toArray)).Pairwise (· < ·) := (List.pairwise_lt_range).sublist List.filter_sublist
  refine List.Pairwise.imp_of_mem (fun {i j} hi hj hij => ?_) hr
  have hi' := List.mem_range.1 (List.mem_filter.1 hi).1
  have hj' := List.mem_range.1 (List.mem_filter.1 hj).1
  have hk := (List.mem_filter.1 hj).2
  have hne : zs.toArray[j]! ≠ zs.toArray[j - 1]! := fun e => by
    rw [Go.Lib.keeps_neg (by omega) e] at hk; cases hk
  rw [getElem!_pos zs.toArray j (by simpa using hj'), getElem!_pos zs.toArray (j - 1) (by simp; omega)] at hne
  rw [getElem!_pos zs.toArray j (by simpa using hj'), getElem!_pos zs.toArray i (by simpa using hi')]
  simp only [List.getElem_toArray] at hne ⊢
  have q1 : zs[i] ≤ zs[j - 1] := by
    rcases Nat.eq_or_lt_of_le (show i ≤ j - 1 by omega) with e | h1
    · subst e; exact Int.le_refl _
    · exact List.pairwise_iff_getElem.1 h _ _ hi' (by omega) h1
  have q2 : zs[j - 1] ≤ zs[j] := List.pairwise_iff_getElem.1 h _ _ (by omega) hj' (by omega)
  omega
theorem compact_eq {zs : List Int} (h : Wk zs) : Go.Lib.compact zs = insL true zs := str_uni (compact_str h) insL_str fun v => by rw [compact_mem, insL_mem]
theorem few_eq (l : List Int) : Go.Lib.compact (insL false l) = insL true l := str_uni (compact_str insL_wk) insL_str fun v => by rw [compact_mem, insL_mem, insL_mem]
/-- The numbers at m places. -/
def pickL (all : List Int) (m : Nat) : List Int := (List.range m).map fun i => at_ all (((i * all.length / m : Nat)) : Int)
/-- The levels of a book that is trained. -/
def trainN (l : List Int) (m : Nat) : List Int := if (insL true l).length ≤ m then insL true l else insL true (pickL (insL false l) m)
theorem pick_lt {n m i : Nat} (hm : i < m) (hn : 0 < n) : i * n / m < n := by
  rw [Nat.div_lt_iff_lt_mul (by omega), Nat.mul_comm n m]
  exact Nat.mul_lt_mul_of_pos_right hm hn
theorem pickL_wk {all : List Int} {m : Nat} (h : Wk all) (hn : 0 < all.length) : Wk (pickL all m) := by
  unfold pickL
  show List.Pairwise _ _
  rw [List.pairwise_map]
  refine List.Pairwise.imp_of_mem (fun {i j} hi hj hij => ?_) List.pairwise_lt_range
  have hi' := List.mem_range.1 hi
  have hj' := List.mem_range.1 hj
  have p1 := pick_lt hi' hn
  have p2 := pick_lt hj' hn
  rw [at_nat all _ p1, at_nat all _ p2]
  have hle : i * all.length / m ≤ j * all.length / m := Nat.div_le_div_right (Nat.mul_le_mul_right _ (by omega))
  rcases Nat.eq_or_lt_of_le hle with e | h1
  · exact Int.le_of_eq (by congr 1)
  · exact List.pairwise_iff_getElem.1 h _ _ p1 p2 h1
theorem pickL_mem {all : List Int} {m : Nat} (hn : 0 < all.length) : ∀ v ∈ pickL all m, v ∈ all := by
  intro v hv
  obtain ⟨i, hi, rfl⟩ := List.mem_map.1 hv
  have p1 := pick_lt (List.mem_range.1 hi) hn
  rw [at_nat all _ p1]
  exact List.getElem_mem _
theorem trainN_str {l : List Int} {m : Nat} : Str (trainN l m) := by unfold trainN; split <;> exact insL_str
theorem trainN_len {l : List Int} {m : Nat} : (trainN l m).length ≤ m := by
  unfold trainN
  split
  · assumption
  · exact Nat.le_trans insL_len (by unfold pickL; simp)
theorem trainN_big {l : List Int} {m : Nat} (h : ¬ (insL true l).length ≤ m) : 0 < (insL false l).length := by
  rw [insL_alen]
  have := insL_len (once := true) (l := l)
  omega
theorem trainN_mem {l : List Int} {m : Nat} : ∀ v ∈ trainN l m, v ∈ l := by
  intro v hv
  unfold trainN at hv
  split at hv
  · exact insL_mem.1 hv
  · rename_i h
    exact insL_mem.1 (pickL_mem (trainN_big h) v (insL_mem.1 hv))
/-- There is a level below each number. -/
theorem trainN_low {l : List Int} {m : Nat} (hm : 0 < m) {x : Int} (hx : x ∈ l) : ∃ u ∈ trainN l m, u ≤ x := by
  unfold trainN
  split
  · exact ⟨x, insL_mem.2 hx, Int.le_refl _⟩
  · rename_i h
    have hp := trainN_big h
    refine ⟨at_ (insL false l) 0, insL_mem.2 (List.mem_map.2 ⟨0, List.mem_range.2 hm, by simp⟩), ?_⟩
    obtain ⟨j, hj, rfl⟩ := List.getElem_of_mem (insL_mem (once := false) |>.2 hx)
    rw [show (0 : Int) = ((0 : Nat) : Int) from rfl, at_nat _ 0 hp]
    rcases Nat.eq_or_lt_of_le (Nat.zero_le j) with e | h1
    · exact Int.le_of_eq (by congr 1)
    · exact List.pairwise_iff_getElem.1 insL_wk _ _ hp hj h1
/-! ### Codes -/
def codeN (ls : List Int) (v : Int) : Int := (ls.countP (· ≤ v) : Nat) - 1
def roundN (ls : List Int) (v : Int) : Int := if ls = [] then v else at_ ls (max (codeN ls v) 0)
theorem cnt_str : ∀ {ls : List Int}, Str ls → ∀ {v : Int} (i : Nat) (hi : i < ls.length), i < ls.countP (· ≤ v) ↔ ls[i] ≤ v
  | [], _, _, i, hi => by simp at hi
  | x :: ls, h, v, i, hi => by
    have h' := List.pairwise_cons.1 h
    rw [List.countP_cons]
    cases i with
    | zero =>
      simp only [List.getElem_cons_zero]
      by_cases hx : x ≤ v
      · simp [hx]
      · have h0 : ls.countP (fun a => decide (a ≤ v)) = 0 := List.countP_eq_zero.2 fun u hu => by have := h'.1 u hu; simp; omega
        simp [hx, h0]
    | succ i =>
      simp only [List.getElem_cons_succ]
      have ih := cnt_str h'.2 (v := v) i (by simpa using hi)
      have hxi := h'.1 _ (List.getElem_mem (by simpa using hi : i < ls.length))
      by_cases hx : x ≤ v
      · simp only [hx, decide_true, if_true]; omega
      · simp only [hx, decide_false, Bool.false_eq_true, if_false, Nat.add_zero]
        have h0 : ls.countP (fun a => decide (a ≤ v)) = 0 := List.countP_eq_zero.2 fun u hu => by have := h'.1 u hu; simp; omega
        rw [h0]
        constructor
        · omega
        · omega
theorem codeN_lt {ls : List Int} {v : Int} : -1 ≤ codeN ls v ∧ codeN ls v < ls.length := by
  have := List.countP_le_length (p := fun a => decide (a ≤ v)) (l := ls)
  unfold codeN; omega
theorem code_search {ls : List Int} (h : Str ls) (v : Int) : codeN ls v = if v ∈ ls then ((ls.countP (· < v) : Nat) : Int) else ((ls.countP (· < v) : Nat) : Int) - 1 := by
  unfold codeN
  induction ls with
  | nil => simp
  | cons x ls ih =>
    have h' := List.pairwise_cons.1 h
    have ih := ih h'.2
    rw [List.countP_cons, List.countP_cons]
    rcases Int.lt_trichotomy x v with hx | hx | hx
    · have e1 : (v ∈ x :: ls) ↔ v ∈ ls := by
        rw [List.mem_cons]
        exact ⟨fun h => h.resolve_left (by omega), .inr⟩
      simp only [e1, show x ≤ v by omega, hx, decide_true, if_true]
      split at ih <;> rename_i hm <;> simp only [hm, if_true, if_false] <;> omega
    · subst hx
      have h0 : ls.countP (fun a => decide (a ≤ x)) = 0 := List.countP_eq_zero.2 fun u hu => by have := h'.1 u hu; simp; omega
      have h1 : ls.countP (fun a => decide (a < x)) = 0 := List.countP_eq_zero.2 fun u hu => by have := h'.1 u hu; simp; omega
      simp [h0, h1]
    · have h0 : ls.countP (fun a => decide (a ≤ v)) = 0 := List.countP_eq_zero.2 fun u hu => by have := h'.1 u hu; simp; omega
      have h1 : ls.countP (fun a => decide (a < v)) = 0 := List.countP_eq_zero.2 fun u hu => by have := h'.1 u hu; simp; omega
      have hn : ¬ v ∈ x :: ls := by
        intro hm
        rcases List.mem_cons.1 hm with e | e
        · omega
        · have := h'.1 v e; omega
      simp only [hn, if_false, h0, h1, show ¬ x ≤ v by omega, show ¬ x < v by omega, decide_false, Bool.false_eq_true]
theorem round_mem {ls : List Int} (h : Str ls) {u : Int} (hu : u ∈ ls) : roundN ls u = u := by
  obtain ⟨i, hi, rfl⟩ := List.getElem_of_mem hu
  have hne : ls ≠ [] := fun e => by rw [e] at hi; simp at hi
  unfold roundN
  rw [if_neg hne]
  have c1 := (cnt_str h (v := ls[i]) i hi).2 (Int.le_refl _)
  have c2 : ls.countP (fun a => decide (a ≤ ls[i])) = i + 1 := by
    refine Nat.le_antisymm (Nat.le_of_not_lt fun hlt => ?_) c1
    have hb := List.countP_le_length (p := fun a => decide (a ≤ ls[i])) (l := ls)
    have h2 := (cnt_str h (v := ls[i]) (i + 1) (by omega)).1 hlt
    have := List.pairwise_iff_getElem.1 h i (i + 1) hi (by omega) (by omega)
    omega
  unfold codeN
  rw [c2, show max (((i + 1 : Nat) : Int) - 1) 0 = (i : Int) by omega, at_nat ls i hi]
theorem round_low {ls : List Int} (h : Str ls) {x u : Int} (hu : u ∈ ls) (hux : u ≤ x) : roundN ls x ≤ x ∧ roundN ls x ∈ ls := by
  obtain ⟨i, hi, rfl⟩ := List.getElem_of_mem hu
  have hne : ls ≠ [] := fun e => by rw [e] at hi; simp at hi
  have c1 := (cnt_str h (v := x) i hi).2 hux
  have hb := List.countP_le_length (p := fun a => decide (a ≤ x)) (l := ls)
  unfold roundN codeN
  rw [if_neg hne, show max (((ls.countP (fun a => decide (a ≤ x)) : Nat) : Int) - 1) 0 = ((ls.countP (fun a => decide (a ≤ x)) - 1 : Nat) : Int) by omega, at_nat ls _ (by omega)]
  exact ⟨(cnt_str h (v := x) _ (by omega)).1 (by omega), List.getElem_mem _⟩
end Go.Proofs.Ytlodbajaoadhdaa
