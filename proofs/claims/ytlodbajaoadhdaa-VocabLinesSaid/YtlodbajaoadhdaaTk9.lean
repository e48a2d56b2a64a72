/- TokenAll: the walk. Conditions: none. -/
import Derived.Test.YtlodbajaoadhdaaTk8
import Derived.Test.YtlodbajaoadhdaaTkR
namespace Go.Proofs.Ytlodbajaoadhdaa
open Go Go.Fw Go.RowKit
set_option linter.unusedVariables false
set_option linter.unusedSimpArgs false
set_option maxRecDepth 100000
set_option maxHeartbeats 16000000
set_option synthInstance.maxHeartbeats 200000
set_option synthInstance.maxSize 100000
attribute [local irreducible] WPA WLA WDA WDQ WDE QQ seqQ blockQ loopQ fnQ OpP OpT Tr TrP SL SLd OwnS LitS Bk BkE Ob
attribute [local irreducible] RowsH

theorem bt_ext {s : ByteArray} {a b j : Nat} (hb : b ≤ s.size) (hj : a + j < b) : bt (s.extract a b) (j : Nat) = bt s ((a + j : Nat) : Int) := by
  have h1 : j < (s.extract a b).size := by simp; omega
  have h2 : a + j < s.size := by omega
  unfold bt
  rw [Int.toNat_natCast, Int.toNat_natCast, dif_pos h1, dif_pos h2]
  congr 2
  simp [ByteArray.getElem_extract]
theorem pcs_good {s : ByteArray} : ∀ (k f : Nat), k ≤ s.size + 1 → f ≤ s.size + 1 - k → (∀ j : Nat, f ≤ j → j < s.size + 1 - k → ¬ BlankP (bt s j)) → ∀ p ∈ pcs s f k, ∃ a b, a < b ∧ b ≤ s.size ∧ p = s.extract a b ∧ ∀ j : Nat, a ≤ j → j < b → ¬ BlankP (bt s j)
  | 0, f, _, _, _, p, hp => by simp [pcs] at hp
  | k + 1, f, hk, hf, h, p, hp => by
    have e1 : s.size + 1 - (k + 1) = s.size - k := by omega
    have e2 : s.size + 1 - k = s.size - k + 1 := by omega
    rw [e1] at hf h
    unfold pcs at hp
    split at hp
    · rename_i hc
      exact pcs_good k f (by omega) (by omega) (fun j h1 h2 => by
        by_cases e : j = s.size - k
        · rw [e]; exact hc.2
        · exact h j h1 (by omega)) p hp
    · split at hp
      · rename_i hlt
        rcases List.mem_cons.1 hp with rfl | hp
        · exact ⟨f, s.size - k, hlt, by omega, rfl, h⟩
        · exact pcs_good k _ (by omega) (by omega) (fun j h1 h2 => by omega) p hp
      · exact pcs_good k _ (by omega) (by omega) (fun j h1 h2 => by omega) p hp
theorem lns_good {s : ByteArray} : ∀ (k f : Nat), k ≤ s.size → f ≤ s.size - k → (∀ j : Nat, f ≤ j → j < s.size - k → bt s j ≠ 10) → ∀ p ∈ lns s f k, ∃ a b, a ≤ b ∧ b ≤ s.size ∧ p = s.extract a b ∧ ∀ j : Nat, a ≤ j → j < b → bt s j ≠ 10
  | 0, f, _, hf, h, p, hp => by
    simp only [lns, List.mem_singleton] at hp
    exact ⟨f, s.size, by omega, Nat.le_refl _, hp, fun j h1 h2 => h j h1 (by omega)⟩
  | k + 1, f, hk, hf, h, p, hp => by
    unfold lns at hp
    split at hp
    · rcases List.mem_cons.1 hp with rfl | hp
      · exact ⟨f, s.size - (k + 1), hf, by omega, rfl, h⟩
      · exact lns_good k _ (by omega) (by omega) (fun j h1 h2 => by omega) p hp
    · rename_i hc
      exact lns_good k f (by omega) (by omega) (fun j h1 h2 => by
        by_cases e : j = s.size - (k + 1)
        · rw [e]; exact hc
        · exact h j h1 (by omega)) p hp
theorem unk_right : RightP ⟨#[60, 117, 110, 107, 62]⟩ := by
  refine ⟨?_, ⟨by decide, by decide⟩, by decide⟩
  have : ∀ i, i < 5 → ¬ BlankP (bt ⟨#[60, 117, 110, 107, 62]⟩ (i : Nat)) ∧ bt ⟨#[60, 117, 110, 107, 62]⟩ (i : Nat) ≠ 10 := by decide
  exact this
theorem words_right {s : ByteArray} (h : ∀ i : Nat, i < s.size → bt s i ≠ 10) : ∀ q ∈ wordsL s, RightP q := by
  intro q hq
  obtain ⟨p, hp, hq⟩ := List.mem_flatMap.1 hq
  obtain ⟨a, b, hab, hb, rfl, hn⟩ := pcs_good (s.size + 1) 0 (Nat.le_refl _) (by omega) (fun j h1 h2 => by omega) p hp
  have hsz : (s.extract a b).size = b - a := by simp; omega
  unfold wd at hq
  split at hq
  · simp at hq
  · rename_i hm
    split at hq
    · simp only [List.mem_singleton] at hq
      subst hq; exact unk_right
    · rename_i hbig
      simp only [List.mem_singleton] at hq
      subst hq
      refine ⟨fun i hi => ?_, ⟨fun e => ?_, by omega⟩, hm⟩
      · rw [bt_ext hb (by omega)]
        exact ⟨hn _ (by omega) (by omega), h _ (by omega)⟩
      · rw [e] at hsz
        have : (⟨#[]⟩ : ByteArray).size = 0 := rfl
        omega
theorem all_right {s : ByteArray} : ∀ row ∈ allL s, row ≠ [] ∧ row.length ≤ s.size + 1 ∧ ∀ q ∈ row, RightP q := by
  intro row hrow
  obtain ⟨p, hp, hr⟩ := List.mem_flatMap.1 hrow
  obtain ⟨a, b, hab, hb, rfl, hn⟩ := lns_good s.size 0 (Nat.le_refl _) (by omega) (fun j h1 h2 => by omega) p hp
  have hsz : (s.extract a b).size = b - a := by simp; omega
  unfold sent at hr
  split at hr
  · simp at hr
  · rename_i hw
    simp only [List.mem_singleton] at hr
    subst hr
    refine ⟨hw, by have := wordsL_len (s.extract a b); omega, words_right fun i hi => ?_⟩
    rw [bt_ext hb (by omega)]
    exact hn _ (by omega) (by omega)
theorem allL_len (s : ByteArray) : (allL s).length ≤ s.size + 1 := by
  have h2 : ∀ l : List ByteArray, (l.flatMap sent).length ≤ l.length := by
    intro l
    induction l with
    | nil => simp
    | cons a l ih => rw [List.flatMap_cons, List.length_append, List.length_cons]; have := sent_len a; omega
  exact Nat.le_trans (h2 _) (linesL_len s)
end Go.Proofs.Ytlodbajaoadhdaa
