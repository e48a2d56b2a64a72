/- Adjusted counts of sentences: the plain law. Conditions: none. -/
import Derived.Test.YtlodbajaoadhdaaAd8
namespace Go.Proofs.Ytlodbajaoadhdaa
open Go Go.Fw Go.RowKit
set_option linter.unusedVariables false
set_option linter.unusedSimpArgs false
set_option maxRecDepth 100000
set_option maxHeartbeats 16000000
set_option synthInstance.maxHeartbeats 200000
set_option synthInstance.maxSize 100000
attribute [local irreducible] WPA WLA WDA WDQ WDE QQ seqQ blockQ loopQ fnQ OpP OpT Tr TrP SL SLd OwnS LitS Bk BkE Ob
theorem nodup_len {α : Type} [DecidableEq α] : ∀ {l m : List α}, l.Nodup → (∀ x ∈ l, x ∈ m) → l.length ≤ m.length
  | [], m, _, _ => Nat.zero_le _
  | x :: l, m, hn, hs => by
    have hn' := List.nodup_cons.1 hn
    have hx := hs x (List.mem_cons_self ..)
    have ih := nodup_len (m := m.erase x) hn'.2 fun y hy => (List.mem_erase_of_ne (show y ≠ x from fun e => hn'.1 (by rw [← e]; exact hy))).2 (hs y (List.mem_cons_of_mem _ hy))
    rw [List.length_erase_of_mem hx] at ih
    have := List.length_pos_of_mem hx
    rw [List.length_cons]; omega
theorem lk_of_mem {c : Ct} : ∀ {l : List Ct}, Ris id l → c ∈ l → lk c.1 l = some c.2
  | y :: l, h, hc => by
    obtain ⟨h1, h2⟩ := List.pairwise_cons.1 h
    rw [lk]
    rcases List.mem_cons.1 hc with rfl | hc
    · rw [if_pos rfl]
    · rw [if_neg fun e => ?_]
      · exact lk_of_mem h2 hc
      · have := h1 c hc
        unfold id at this
        rw [e] at this
        exact ltL_irr _ this
theorem ord_ends (gs : List (List Int)) (n : Int) : ordN gs n = endsT ((eachL gs n).map fun g => 0 :: g) := by
  unfold ordN endsT
  rw [List.map_map]; rfl
theorem ord_ris (gs : List (List Int)) (n : Int) : Ris id (ordN gs n) := fold_ris List.Pairwise.nil
theorem ord_lk {gs : List (List Int)} {n : Int} {g : List Int} (hE : (eachL gs n).length ≤ 100000) : lk g (ordN gs n) = if (eachL gs n).countP (fun h => decide (h = g)) = 0 then none else some (((eachL gs n).countP fun h => decide (h = g) : Nat) : Int) := by
  rw [ord_ends, lk_ends (by rw [List.length_map]; omega), List.countP_map]
  rfl
theorem ord_mem {gs : List (List Int)} {n : Int} {c : Ct} (hE : (eachL gs n).length ≤ 100000) (hc : c ∈ ordN gs n) : c.1 ∈ eachL gs n ∧ c.2 = (((eachL gs n).countP fun h => decide (h = c.1) : Nat) : Int) ∧ 1 ≤ c.2 := by
  have h1 := lk_of_mem (ord_ris gs n) hc
  rw [ord_lk hE] at h1
  split at h1
  · cases h1
  · rename_i h0
    have hp : 0 < (eachL gs n).countP (fun h => decide (h = c.1)) := Nat.pos_of_ne_zero h0
    obtain ⟨g, hg, he⟩ := List.countP_pos_iff.1 hp
    have he := of_decide_eq_true he
    injection h1 with h1
    exact ⟨he ▸ hg, h1.symm, by omega⟩
theorem ord_key {gs : List (List Int)} {n : Int} {g : List Int} (hE : (eachL gs n).length ≤ 100000) (hg : g ∈ eachL gs n) : ∃ c ∈ ordN gs n, c.1 = g := by
  have h1 := ord_lk (g := g) hE
  have hp : 0 < (eachL gs n).countP (fun h => decide (h = g)) := List.countP_pos_iff.2 ⟨g, hg, decide_eq_true rfl⟩
  rw [if_neg (by omega)] at h1
  exact lk_mem h1
theorem each_len {gs : List (List Int)} {m : Nat} : ∀ g ∈ eachL gs ((m : Int) + 1), g.length = m + 1 := by
  intro g hg
  unfold eachL at hg
  obtain ⟨p, hp, hg⟩ := List.mem_flatMap.1 hg
  unfold gramsL at hg
  obtain ⟨i, hi, rfl⟩ := List.mem_map.1 hg
  have := gramA_len (List.mem_range.1 hi)
  rw [this]; omega
theorem ord_ok {gs : List (List Int)} {m : Nat} (hE : (eachL gs ((m : Int) + 1)).length ≤ 100000) : OkP m (ordN gs ((m : Int) + 1)) :=
  ⟨fun c hc => ⟨each_len _ (ord_mem hE hc).1, (ord_mem hE hc).2.2⟩, ord_ris _ _⟩
theorem gramsL_getE {p : List Int} {n : Int} {i : Nat} (h : i < (gramsL p n).length) : (gramsL p n)[i] = gramA p n i := by simp [gramsL]
/-- The n-grams without their first word are all but the first of those that are one shorter. -/
theorem grams_tail (p : List Int) (m : Nat) : (gramsL p ((m : Int) + 2)).map (fun h => h.drop 1) = (gramsL p ((m : Int) + 1)).drop 1 := by
  have n1 : gramN p ((m : Int) + 2) = p.length + 1 - (m + 2) := by unfold gramN; rw [if_neg (by omega)]; omega
  have n2 : gramN p ((m : Int) + 1) = p.length + 1 - (m + 1) := by unfold gramN; rw [if_neg (by omega)]; omega
  refine List.ext_getElem (by rw [List.length_map, List.length_drop, gramsL_len, gramsL_len]; omega) fun i h1 h2 => ?_
  rw [List.length_map, gramsL_len] at h1
  rw [List.getElem_map, gramsL_getE, List.getElem_drop, gramsL_getE]
  unfold gramA cutL
  rw [if_pos (by omega), if_pos (by omega), List.drop_take, List.drop_drop]
  have e1 : ((i : Int) + ((m : Int) + 2) - (i : Int)).toNat - 1 = m + 1 := by omega
  have e2 : (((1 + i : Nat) : Int) + ((m : Int) + 1) - ((1 + i : Nat) : Int)).toNat = m + 1 := by omega
  rw [e1, e2, show (i : Int).toNat + 1 = ((1 + i : Nat) : Int).toNat by omega]
theorem each_tail_count (m : Nat) (g : List Int) : ∀ gs : List (List Int), (eachL gs ((m : Int) + 2)).countP (fun h => decide (h.drop 1 = g)) ≤ (eachL gs ((m : Int) + 1)).countP (fun h => decide (h = g))
  | [] => Nat.le_refl _
  | p :: gs => by
    have ih := each_tail_count m g gs
    have hp : (gramsL p ((m : Int) + 2)).countP (fun h => decide (h.drop 1 = g)) ≤ (gramsL p ((m : Int) + 1)).countP (fun h => decide (h = g)) := by
      have h1 : (gramsL p ((m : Int) + 2)).countP (fun h => decide (h.drop 1 = g)) = ((gramsL p ((m : Int) + 2)).map fun h => h.drop 1).countP (fun h => decide (h = g)) := by rw [List.countP_map]; rfl
      rw [h1, grams_tail]
      exact (List.drop_sublist 1 _).countP_le
    unfold eachL at ih ⊢
    rw [List.flatMap_cons, List.flatMap_cons, List.countP_append, List.countP_append]
    omega
/-- A list that begins with 1, of numbers below N. -/
def Sent1 (N : Nat) (p : List Int) : Prop := (∃ r, p = 1 :: r) ∧ ∀ x ∈ p, 0 ≤ x ∧ x < N
theorem each_tail_ex {gs : List (List Int)} {m N : Nat} {g : List Int} (hS : ∀ p ∈ gs, Sent1 N p) (hg : g ∈ eachL gs ((m : Int) + 1)) (h1 : at_ g 0 ≠ 1) : ∃ h ∈ eachL gs ((m : Int) + 2), h.drop 1 = g := by
  unfold eachL at hg
  obtain ⟨p, hp, hg⟩ := List.mem_flatMap.1 hg
  obtain ⟨i, hi, he⟩ := List.getElem_of_mem hg
  have hd : g ∈ (gramsL p ((m : Int) + 1)).drop 1 := by
    cases i with
    | zero =>
      exfalso
      obtain ⟨⟨r, rfl⟩, _⟩ := hS p hp
      rw [gramsL_len] at hi
      rw [gramsL_getE] at he
      unfold gramA cutL at he
      have n2 : gramN (1 :: r) ((m : Int) + 1) = (1 :: r).length + 1 - (m + 1) := by unfold gramN; rw [if_neg (by omega)]; omega
      rw [if_pos (by omega), show (((0 : Nat) : Int) + ((m : Int) + 1) - ((0 : Nat) : Int)).toNat = m + 1 by omega] at he
      apply h1
      rw [← he]; rfl
    | succ i =>
      rw [← he]
      exact List.mem_of_getElem (by rw [List.getElem_drop]; congr 1; omega) (h := by rw [List.length_drop]; omega) (i := i)
  rw [← grams_tail] at hd
  obtain ⟨h, hh, e⟩ := List.mem_map.1 hd
  exact ⟨h, List.mem_flatMap.2 ⟨p, hp, hh⟩, e⟩
theorem each_in {gs : List (List Int)} {n : Int} {N : Nat} (hS : ∀ p ∈ gs, Sent1 N p) : ∀ g ∈ eachL gs n, ∀ x ∈ g, 0 ≤ x ∧ x < N := by
  intro g hg x hx
  unfold eachL at hg
  obtain ⟨p, hp, hg⟩ := List.mem_flatMap.1 hg
  unfold gramsL at hg
  obtain ⟨i, hi, rfl⟩ := List.mem_map.1 hg
  refine (hS p hp).2 x ?_
  unfold gramA cutL at hx
  split at hx
  · exact List.mem_of_mem_drop (List.mem_of_mem_take hx)
  · simp at hx
theorem ris_keys {l : List Ct} (h : Ris id l) : (l.map Prod.fst).Nodup := by
  unfold List.Nodup
  rw [List.pairwise_map]
  exact h.imp fun h e => by unfold id at h; rw [e] at h; exact ltL_irr _ h
theorem head_tail {k : List Int} (h : 1 ≤ k.length) : k = at_ k 0 :: k.drop 1 := by
  cases k with
  | nil => simp at h
  | cons x l => rfl
/-- How many end with g: at least one, at most as often as g is there, at most as many as there are words. -/
theorem ahead_good {gs : List (List Int)} {m N : Nat} {c : Ct} (hS : ∀ p ∈ gs, Sent1 N p) (hE : ∀ n : Int, (eachL gs n).length ≤ 100000) (hc : c ∈ ordN gs ((m : Int) + 1)) (h1 : at_ c.1 0 ≠ 1) :
    (1 ≤ aheadP (ordN gs ((m : Int) + 2)) c.1 ∧ aheadP (ordN gs ((m : Int) + 2)) c.1 ≤ c.2) ∧ aheadP (ordN gs ((m : Int) + 2)) c.1 ≤ N := by
  have hm := ord_mem (hE _) hc
  obtain ⟨h, hh, he⟩ := each_tail_ex hS hm.1 h1
  obtain ⟨d, hd, hde⟩ := ord_key (hE _) hh
  have hpos : 0 < (ordN gs ((m : Int) + 2)).countP (fun d => decide (d.1.drop 1 = c.1)) := List.countP_pos_iff.2 ⟨d, hd, decide_eq_true (by rw [hde]; exact he)⟩
  have hK : (ordN gs ((m : Int) + 2)).countP (fun d => decide (d.1.drop 1 = c.1)) = (((ordN gs ((m : Int) + 2)).map Prod.fst).filter fun k => decide (k.drop 1 = c.1)).length := by
    rw [← List.countP_eq_length_filter, List.countP_map]; rfl
  have hnd : (((ordN gs ((m : Int) + 2)).map Prod.fst).filter fun k => decide (k.drop 1 = c.1)).Nodup := (List.filter_sublist).nodup (ris_keys (ord_ris _ _))
  have hin : ∀ k ∈ ((ordN gs ((m : Int) + 2)).map Prod.fst).filter (fun k => decide (k.drop 1 = c.1)), k ∈ eachL gs ((m : Int) + 2) ∧ k.drop 1 = c.1 := fun k hk => by
    obtain ⟨k1, k2⟩ := List.mem_filter.1 hk
    obtain ⟨d, hd, rfl⟩ := List.mem_map.1 k1
    exact ⟨(ord_mem (hE _) hd).1, of_decide_eq_true k2⟩
  unfold aheadP
  rw [hK] at hpos ⊢
  generalize ((ordN gs ((m : Int) + 2)).map Prod.fst).filter (fun k => decide (k.drop 1 = c.1)) = K at hpos hnd hin
  refine ⟨⟨by omega, ?_⟩, ?_⟩
  · rw [hm.2.1]
    have q1 := nodup_len (m := (eachL gs ((m : Int) + 2)).filter fun h => decide (h.drop 1 = c.1)) hnd fun k hk => List.mem_filter.2 ⟨(hin k hk).1, decide_eq_true (hin k hk).2⟩
    rw [← List.countP_eq_length_filter] at q1
    have q2 := each_tail_count m c.1 gs
    omega
  · have hl : ∀ k ∈ K, 1 ≤ k.length := fun k hk => by
      have := each_len (m := m + 1) (gs := gs) k (by rw [show ((m + 1 : Nat) : Int) + 1 = (m : Int) + 2 by omega]; exact (hin k hk).1)
      omega
    have hn2 : (K.map fun k => at_ k 0).Nodup := by
      unfold List.Nodup at hnd ⊢
      rw [List.pairwise_map]
      refine List.Pairwise.imp_of_mem (fun {a b} ha hb hab e => hab ?_) hnd
      rw [head_tail (hl a ha), head_tail (hl b hb), (hin a ha).2, (hin b hb).2, e]
    have q := nodup_len (m := (List.range N).map fun i : Nat => (i : Int)) hn2 fun x hx => by
      obtain ⟨k, hk, rfl⟩ := List.mem_map.1 hx
      have h0 := hl k hk
      have hb := each_in hS k (hin k hk).1 (at_ k 0) (by
        rw [show (0 : Int) = ((0 : Nat) : Int) from rfl, at_nat k 0 (by omega)]; exact List.getElem_mem _)
      exact List.mem_map.2 ⟨(at_ k 0).toNat, List.mem_range.2 (by omega), by omega⟩
    rw [List.length_map, List.length_map, List.length_range] at q
    omega
theorem ordA_len {gs : List (List Int)} {most : Nat} : (ordA gs most).length = most := by unfold ordA; rw [List.length_map, List.length_range]
theorem ordA_at {gs : List (List Int)} {most n : Nat} (h : n < most) : (ordA gs most).getD n [] = ordN gs ((n : Int) + 1) := by
  unfold ordA
  rw [List.getD_eq_getElem?_getD, List.getElem?_map, List.getElem?_range h]; rfl
/-- The adjusted number of the n-gram c of order n + 1. -/
def adjV (gs : List (List Int)) (most n : Nat) (c : Ct) : Int := if n + 1 < most ∧ at_ c.1 0 ≠ 1 then aheadP (ordN gs ((n : Int) + 2)) c.1 else c.2
theorem adjP_at {gs : List (List Int)} {most n : Nat} (h : n < most) : adjP (ordA gs most) n = (ordN gs ((n : Int) + 1)).map fun c => (c.1, adjV gs most n c) := by
  unfold adjP
  rw [ordA_at h, ordA_len]
  refine List.map_congr_left fun c hc => ?_
  congr 1
  unfold adjV
  by_cases h2 : n + 1 < most
  · rw [ordA_at h2, show ((n + 1 : Nat) : Int) + 1 = (n : Int) + 2 by omega]
  · simp only [h2, false_and, if_false]
theorem adjV_good {gs : List (List Int)} {most n N : Nat} {c : Ct} (hS : ∀ p ∈ gs, Sent1 N p) (hE : ∀ n : Int, (eachL gs n).length ≤ 100000) (hc : c ∈ ordN gs ((n : Int) + 1)) :
    (1 ≤ adjV gs most n c ∧ adjV gs most n c ≤ c.2) ∧ (n + 1 < most → at_ c.1 0 ≠ 1 → adjV gs most n c ≤ N) := by
  unfold adjV
  by_cases h : n + 1 < most ∧ at_ c.1 0 ≠ 1
  · rw [if_pos h]
    have := ahead_good (N := N) hS hE hc h.2
    exact ⟨this.1, fun _ _ => this.2⟩
  · rw [if_neg h]
    have := (ord_mem (hE _) hc).2.2
    exact ⟨⟨this, Int.le_refl _⟩, fun h1 h2 => absurd ⟨h1, h2⟩ h⟩
end Go.Proofs.Ytlodbajaoadhdaa
