/- Words joined by blanks: plain laws. Conditions: none. -/
import Derived.Test.YtlodbajaoadhdaaTk9
namespace Go.Proofs.Ytlodbajaoadhdaa
open Go Go.Fw
set_option linter.unusedVariables false
set_option linter.unusedSimpArgs false

theorem pcs_run {S : ByteArray} {f : Nat} : ∀ (d i : Nat), i + d ≤ S.size → (∀ j : Nat, i ≤ j → j < i + d → ¬ BlankP (bt S j)) → pcs S f (S.size + 1 - i) = pcs S f (S.size + 1 - (i + d))
  | 0, i, _, _ => rfl
  | d + 1, i, h, hb => by
    rw [pcs_skip (by omega) (hb i (Nat.le_refl _) (by omega)), pcs_run d (i + 1) (by omega) (fun j h1 h2 => hb j (by omega) (by omega))]
    congr 2; omega
theorem pcs_word {S : ByteArray} {f j : Nat} (hfj : f < j) (hj : j ≤ S.size) (hb : ∀ q : Nat, f ≤ q → q < j → ¬ BlankP (bt S q)) (he : j < S.size → BlankP (bt S j)) :
    pcs S f (S.size + 1 - f) = S.extract f j :: pcs S (j + 1) (S.size + 1 - (j + 1)) := by
  rw [pcs_run (j - f) f (by omega) (fun q h1 h2 => hb q h1 (by omega)), show f + (j - f) = j by omega, pcs_end hj he (by omega), if_pos hfj]
/-- Texts joined by blanks, as bytes. -/
def jl : List ByteArray → List UInt8
  | [] => []
  | [w] => w.data.toList
  | w :: ws => w.data.toList ++ 32 :: jl ws
theorem jl_cons {w : ByteArray} {ws : List ByteArray} (h : ws ≠ []) : jl (w :: ws) = w.data.toList ++ 32 :: jl ws := by
  cases ws with
  | nil => exact absurd rfl h
  | cons a l => rfl
theorem jl_snoc : ∀ (l : List ByteArray) (w : ByteArray), l ≠ [] → jl (l ++ [w]) = jl l ++ 32 :: w.data.toList
  | [a], w, _ => rfl
  | a :: b :: l, w, _ => by
    have := jl_snoc (b :: l) w (by simp)
    rw [List.cons_append, jl_cons (w := a) (ws := b :: l ++ [w]) (by simp), this, jl_cons (w := a) (ws := b :: l) (by simp)]
    simp only [List.append_assoc, List.cons_append]
theorem bt_get {S : ByteArray} {j : Nat} {c : UInt8} (h : S.data.toList[j]? = some c) : bt S (j : Nat) = c.toNat := by
  have h1 : j < S.size := by
    have := (List.getElem?_eq_some_iff.1 h).1
    rw [Array.length_toList] at this; exact this
  unfold bt
  rw [Int.toNat_natCast, dif_pos h1]
  have : S.data.toList[j]? = some (S[j]'h1) := by
    rw [Array.getElem?_toList]; exact Array.getElem?_eq_getElem h1
  rw [this] at h
  have h2 : S[j]'h1 = c := by simpa using h
  rw [h2]
theorem size_list (S : ByteArray) : S.size = S.data.toList.length := Array.length_toList.symm
theorem ext_mid {S w : ByteArray} {pre post : List UInt8} (h : S.data.toList = pre ++ (w.data.toList ++ post)) : S.extract pre.length (pre.length + w.size) = w := by
  ext1
  rw [ByteArray.data_extract]
  apply Array.toList_inj.1
  rw [Array.toList_extract, h, size_list]
  simp [List.extract_eq_take_drop]
theorem words_of {S : ByteArray} : ∀ (l : List ByteArray) (pre : List UInt8), l ≠ [] → (∀ w ∈ l, RightP w) → S.data.toList = pre ++ jl l → pcs S pre.length (S.size + 1 - pre.length) = l
  | [w], pre, _, hr, h => by
    have hw := hr w (List.mem_singleton.2 rfl)
    have hsz : S.size = pre.length + w.size := by rw [size_list, h, List.length_append, size_list w]; rfl
    have h0 : 0 < w.size := by
      rcases Nat.eq_zero_or_pos w.size with h1 | h1
      · exfalso; apply hw.2.1.1
        cases w with
        | mk d => cases d with
          | mk l => cases l with
            | nil => rfl
            | cons a l => simp [ByteArray.size] at h1
      · exact h1
    rw [pcs_word (j := S.size) (by omega) (Nat.le_refl _) (fun q h1 h2 => ?_) (fun h => absurd h (by omega))]
    · have e : S.extract pre.length S.size = w := by rw [hsz]; exact ext_mid (post := []) (by rw [h, List.append_nil]; rfl)
      rw [e, Nat.sub_self, pcs]
    · have hq : q - pre.length < w.size := by omega
      have hb := (hw.1 (q - pre.length) hq).1
      have hg : w.data.toList[q - pre.length]? = some (w.data.toList[q - pre.length]'(by rw [← size_list]; exact hq)) := List.getElem?_eq_getElem _
      have hg2 : S.data.toList[q]? = some (w.data.toList[q - pre.length]'(by rw [← size_list]; exact hq)) := by
        rw [h, List.getElem?_append_right h1]; exact hg
      rw [bt_get hg] at hb
      rw [bt_get hg2]; exact hb
  | w :: b :: l, pre, _, hr, h => by
    have hw := hr w (List.mem_cons_self ..)
    have hj : jl (w :: b :: l) = w.data.toList ++ 32 :: jl (b :: l) := rfl
    rw [hj] at h
    have hsz : S.size = pre.length + w.size + 1 + (jl (b :: l)).length := by rw [size_list, h, List.length_append, List.length_append, List.length_cons, size_list w]; omega
    have h0 : 0 < w.size := by
      rcases Nat.eq_zero_or_pos w.size with h1 | h1
      · exfalso; apply hw.2.1.1
        cases w with
        | mk d => cases d with
          | mk l => cases l with
            | nil => rfl
            | cons a l => simp [ByteArray.size] at h1
      · exact h1
    rw [pcs_word (j := pre.length + w.size) (by omega) (by omega) (fun q h1 h2 => ?_) (fun _ => ?_)]
    · have e : S.extract pre.length (pre.length + w.size) = w := ext_mid h
      have ih := words_of (b :: l) (pre ++ w.data.toList ++ [32]) (by simp) (fun x hx => hr x (List.mem_cons_of_mem _ hx)) (by rw [h]; simp)
      have hl : (pre ++ w.data.toList ++ [32]).length = pre.length + w.size + 1 := by rw [List.length_append, List.length_append, size_list w]; rfl
      rw [hl] at ih
      rw [e, ih]
    · have hq : q - pre.length < w.size := by omega
      have hb := (hw.1 (q - pre.length) hq).1
      have hg : w.data.toList[q - pre.length]? = some (w.data.toList[q - pre.length]'(by rw [← size_list]; exact hq)) := List.getElem?_eq_getElem _
      have hg2 : S.data.toList[q]? = some (w.data.toList[q - pre.length]'(by rw [← size_list]; exact hq)) := by
        rw [h, List.getElem?_append_right h1, List.getElem?_append_left (by rw [← size_list]; exact hq)]; exact hg
      rw [bt_get hg] at hb
      rw [bt_get hg2]; exact hb
    · have hg2 : S.data.toList[pre.length + w.size]? = some 32 := by
        rw [h, List.getElem?_append_right (by omega), List.getElem?_append_right (by rw [← size_list]; omega), ← size_list]
        simp
      rw [bt_get hg2]; decide
theorem wd_right {w : ByteArray} (h : RightP w) : wd w = [w] := by
  unfold wd; rw [if_neg h.2.2, if_neg (by have := h.2.1.2; omega)]
theorem words_join {S : ByteArray} {l : List ByteArray} (hr : ∀ w ∈ l, RightP w) (h : S.data.toList = jl l) : wordsL S = l := by
  have hf : l.flatMap wd = l := by
    clear h
    induction l with
    | nil => rfl
    | cons a l ih => rw [List.flatMap_cons, wd_right (hr a (List.mem_cons_self ..)), ih fun w hw => hr w (List.mem_cons_of_mem _ hw)]; rfl
  unfold wordsL
  by_cases hl : l = []
  · subst hl
    have h0 : S.size = 0 := by rw [size_list, h]; rfl
    rw [h0]
    have : pcs S 0 (0 + 1) = [] := by simp [pcs, h0]
    rw [this]; rfl
  · have := words_of l [] hl hr (by simpa using h)
    rw [List.length_nil, Nat.sub_zero] at this
    rw [this, hf]
end Go.Proofs.Ytlodbajaoadhdaa
