/- Adjusted counts: the program. Conditions: none. -/
import Derived.Test.YtlodbajaoadhdaaAd5
namespace Go.Proofs.Ytlodbajaoadhdaa
open Go Go.Fw Go.RowKit
set_option linter.unusedVariables false
set_option linter.unusedSimpArgs false
set_option maxRecDepth 100000
set_option maxHeartbeats 16000000
set_option synthInstance.maxHeartbeats 200000
set_option synthInstance.maxSize 100000
attribute [local irreducible] WPA WLA WDA WDQ WDE QQ seqQ blockQ loopQ fnQ OpP OpT Tr TrP SL SLd OwnS LitS Bk BkE Ob
attribute [local irreducible] RowH
theorem lk_fold1 {g : List Int} : ∀ {ks : List (List Int)} {a : List Ct}, Ris id a → 0 ≤ (lk g a).getD 0 ∧ (lk g a).getD 0 + ks.length ≤ 4611686018427387904 →
    lk g ((ks.map fun k => (k.drop 1, (1 : Int))).foldl putM a) = if ks.countP (fun k => decide (k.drop 1 = g)) = 0 then lk g a else some ((lk g a).getD 0 + (ks.countP fun k => decide (k.drop 1 = g) : Nat))
  | [], a, _, _ => by simp
  | k :: ks, a, ha, hb => by
    rw [List.length_cons] at hb
    rw [List.map_cons, List.foldl_cons, List.countP_cons]
    have hp := lk_put (g := g) (x := (k.drop 1, (1 : Int))) ha
    have ih := lk_fold1 (g := g) (ks := ks) (a := putM a (k.drop 1, 1)) (putL_ris ha)
    by_cases h : k.drop 1 = g
    · rw [if_pos h] at hp
      have hv : lk g (putM a (k.drop 1, 1)) = some ((lk g a).getD 0 + 1) := by
        rw [hp]
        cases hl : lk g a with
        | none => rfl
        | some n =>
          rw [hl] at hb
          simp only [Option.getD_some] at hb ⊢
          congr 1
          exact wrap_i64 (by omega)
      rw [hv] at ih
      simp only [Option.getD_some] at ih
      rw [ih (by omega), decide_eq_true h]
      simp only [if_true]
      rw [if_neg (show ¬ ks.countP (fun k => decide (k.drop 1 = g)) + 1 = 0 by omega)]
      split
      · rename_i h0; rw [h0]; rfl
      · congr 1; omega
    · rw [if_neg h] at hp
      rw [hp] at ih
      rw [ih (by omega), decide_eq_false h]
      simp only [Bool.false_eq_true, if_false, Nat.add_zero]
theorem lk_ends {g : List Int} {ks : List (List Int)} (hn : ks.length ≤ 1000000) : lk g (endsT ks) = if ks.countP (fun k => decide (k.drop 1 = g)) = 0 then none else some ((ks.countP fun k => decide (k.drop 1 = g) : Nat) : Int) := by
  unfold endsT
  rw [lk_fold1 List.Pairwise.nil (by simp only [lk, Option.getD_none]; omega)]
  simp only [lk, Option.getD_none, Int.zero_add]
theorem find_in {g : List Int} : ∀ {ms : List Ct}, g ∈ ms.map Prod.fst → ∃ k, ∃ hk : k < ms.length, plcN (ms.map Prod.fst) g = k ∧ lk g ms = some ms[k].2
  | [], h => by simp at h
  | y :: ms, h => by
    by_cases e : y.1 = g
    · refine ⟨0, by simp, ?_, by rw [lk, if_pos e]; rfl⟩
      unfold plcN
      rw [if_pos h, List.map_cons, e, List.idxOf_cons_self]
    · rw [List.map_cons] at h
      have hm : g ∈ ms.map Prod.fst := (List.mem_cons.1 h).resolve_left (fun h => e h.symm)
      obtain ⟨k, hk, h1, h2⟩ := find_in hm
      refine ⟨k + 1, by simpa using hk, ?_, by rw [lk, if_neg e, h2]; rfl⟩
      unfold plcN at h1 ⊢
      rw [if_pos hm] at h1
      rw [List.map_cons, if_pos h, List.idxOf_cons, show (y.1 == g) = false from beq_false_of_ne e, cond_false]
      omega
theorem find_no {g : List Int} {ms : List Ct} (h : g ∉ ms.map Prod.fst) : lk g ms = none := lk_none fun y hy e => h (e ▸ List.mem_map_of_mem hy)
/-- What the program finds is how many the reference counts. -/
theorem find_ahead {kg rg : SV → List Int} {ps ncs : List Cn} {g : List Int} (hm : ncs.map (moP rg) = endsT (ps.map fun p => kg p.1)) (hn : ps.length ≤ 1000000) :
    (plcN (ncs.map fun p => rg p.1) g = -1 ∧ aheadN kg ps g = 0) ∨ ∃ k : Nat, plcN (ncs.map fun p => rg p.1) g = k ∧ k < ncs.length ∧ (at_ ncs (k : Int)).2 = aheadN kg ps g := by
  have hl := lk_ends (g := g) (ks := ps.map fun p => kg p.1) (by rw [List.length_map]; exact hn)
  rw [← hm, List.countP_map] at hl
  have hf : ncs.map (fun p => rg p.1) = (ncs.map (moP rg)).map Prod.fst := by rw [List.map_map]; rfl
  have hc : aheadN kg ps g = ((ps.countP ((fun k => decide (k.drop 1 = g)) ∘ fun p : Cn => kg p.1) : Nat) : Int) := rfl
  rw [hf, hc]
  by_cases h : g ∈ (ncs.map (moP rg)).map Prod.fst
  · obtain ⟨k, hk, h1, h2⟩ := find_in h
    rw [h2] at hl
    rw [List.length_map] at hk
    right
    refine ⟨k, h1, hk, ?_⟩
    rw [at_nat ncs k hk]
    split at hl
    · cases hl
    · rw [List.getElem_map] at hl
      injection hl
  · rw [find_no h] at hl
    left
    refine ⟨by unfold plcN; rw [if_neg h], ?_⟩
    split at hl
    · rename_i h0; rw [h0]; rfl
    · cases hl
theorem endsT_ris (ks : List (List Int)) : Ris id (endsT ks) := fold_ris List.Pairwise.nil
theorem endsT_key {ks : List (List Int)} {n : Nat} (h : ∀ k ∈ ks, k.length ≤ n) : ∀ m ∈ endsT ks, m.1.length ≤ n := by
  have key : ∀ (ks : List (List Int)) (a : List Ct), (∀ k ∈ ks, k.length ≤ n) → (∀ m ∈ a, m.1.length ≤ n) → ∀ m ∈ (ks.map fun k => (k.drop 1, (1 : Int))).foldl putM a, m.1.length ≤ n := by
    intro ks
    induction ks with
    | nil => intro a _ ha; exact ha
    | cons k ks ih =>
      intro a hk ha
      rw [List.map_cons, List.foldl_cons]
      refine ih _ (fun x hx => hk x (List.mem_cons_of_mem _ hx)) fun m hm => ?_
      rcases putL_mem m hm with e | ⟨y, hy, e⟩
      · have e : m.1 = k.drop 1 := e
        rw [e, List.length_drop]; have := hk k (List.mem_cons_self ..); omega
      · rw [e]; exact ha y hy
  exact key ks [] h (by simp)
theorem endsT_len (ks : List (List Int)) : (endsT ks).length ≤ ks.length := by
  have key : ∀ (ks : List (List Int)) (a : List Ct), ((ks.map fun k => (k.drop 1, (1 : Int))).foldl putM a).length ≤ a.length + ks.length := by
    intro ks
    induction ks with
    | nil => intro a; simp
    | cons k ks ih =>
      intro a
      rw [List.map_cons, List.foldl_cons, List.length_cons]
      have h1 := ih (putM a (k.drop 1, 1))
      have h2 : (putM a (k.drop 1, 1)).length ≤ a.length + 1 := putL_len a
      omega
  have := key ks []
  simpa [endsT] using this
end Go.Proofs.Ytlodbajaoadhdaa
