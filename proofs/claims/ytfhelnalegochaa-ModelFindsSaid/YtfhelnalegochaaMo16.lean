/- What a valid model is: plain laws. Conditions: none. -/
import Derived.Test.YtfhelnalegochaaMo13
namespace Go.Proofs.Ytfhelnalegochaa
open Go Go.Fw Go.RowKit
set_option linter.unusedVariables false
set_option linter.unusedSimpArgs false
set_option maxRecDepth 100000
set_option maxHeartbeats 16000000
set_option synthInstance.maxHeartbeats 200000
set_option synthInstance.maxSize 100000
attribute [local irreducible] WPA WLA WDA WDQ WDE QQ seqQ blockQ loopQ fnQ OpP OpT Tr TrP SL SLd OwnS LitS Bk BkE Ob
/-- A list that rises below its length is the places themselves. -/
theorem rise_id {a : Nat → Int} {n : Nat} (h1 : ∀ i, i < n → 0 ≤ a i ∧ a i < n) (h2 : ∀ i, i + 1 < n → a i < a (i + 1)) : ∀ i, i < n → a i = i := by
  have lo : ∀ i, i < n → (i : Int) ≤ a i := by
    intro i
    induction i with
    | zero => intro h; exact (h1 0 h).1
    | succ i ih => intro h; have := ih (by omega); have := h2 i h; omega
  have hi : ∀ d i, i + d < n → a i + d ≤ a (i + d) := by
    intro d
    induction d with
    | zero => intro i h; simp
    | succ d ih => intro i h; have := ih i (by omega); have := h2 (i + d) (by omega); rw [show i + (d + 1) = i + d + 1 by omega]; omega
  intro i h
  have h3 := hi (n - 1 - i) i (by omega)
  have h4 := (h1 (i + (n - 1 - i)) (by omega)).2
  have h5 := lo i h
  omega
theorem entE_code {xs : List Int} {p b n words : Int} {last : Bool} (h : entE xs p b n words last = 0) : CodeP p ∧ CodeP b := by
  unfold entE at h
  split at h
  · cases h
  split at h
  · cases h
  split at h
  · cases h
  split at h
  · cases h
  · rename_i h4
    exact Classical.byContradiction h4
theorem chkM_zero {kg : SV → List Int} {re : SV → List En} {fr : Int} {ws : List ByteArray} {gr : List SV} (h : chkM kg re fr ws gr = 0) : 1 ≤ gr.length ∧ (∀ x ∈ gr, RisE kg (re x)) ∧ CodesP re gr := by
  unfold chkM at h
  split at h
  · cases h
  · rename_i h1
    split at h
    · contradiction
    · have hk : ∀ k : Nat, k < gr.length → ∀ i : Nat, i < (re (at_ gr (k : Int))).length → chkE kg ws.length (decide ((k : Int) = (gr.length : Int) - 1)) k (re (at_ gr (k : Int))) (re (at_ gr ((k : Int) - 1))) i = 0 := by
        intro k hk
        have hz := firstN_zero h k hk
        unfold chkL chkLs at hz
        split at hz
        · contradiction
        · rename_i hf
          exact firstN_zero (Classical.byContradiction hf)
      have hat : ∀ x ∈ gr, ∃ k : Nat, k < gr.length ∧ at_ gr (k : Int) = x := by
        intro x hx
        obtain ⟨k, hk, e⟩ := List.getElem_of_mem hx
        exact ⟨k, hk, by rw [at_nat gr k hk, e]⟩
      refine ⟨Nat.le_of_not_lt fun h2 => h1 (.inr (.inr (.inl h2))), fun x hx => ?_, fun x hx p hp => ?_⟩
      · obtain ⟨k, hk1, rfl⟩ := hat x hx
        exact ris_chk (hk k hk1)
      · obtain ⟨k, hk1, rfl⟩ := hat x hx
        obtain ⟨i, hi, rfl⟩ := List.getElem_of_mem hp
        have := (chkE_gram (hk k hk1 i hi)).1
        rw [at_nat _ i hi] at this
        exact entE_code this
theorem entE_gram {xs : List Int} {p b n words : Int} {last : Bool} (h : entE xs p b n words last = 0) : (xs.length : Int) = n ∧ ¬ BadW words xs := by
  unfold entE at h
  split at h
  · cases h
  · rename_i h1
    split at h
    · cases h
    · rename_i h2
      exact ⟨Classical.byContradiction h1, h2⟩
/-- Each word has its 1-gram, at its place. -/
theorem chkM_words {kg : SV → List Int} {re : SV → List En} {fr : Int} {ws : List ByteArray} {gr : List SV} (h : chkM kg re fr ws gr = 0) :
    (∀ k : Nat, k < gr.length → ∀ p ∈ re (at_ gr (k : Int)), (kg p.1).length = k + 1) ∧ (re (at_ gr 0)).length = ws.length ∧ ∀ i : Nat, i < ws.length → kg (at_ (re (at_ gr 0)) (i : Int)).1 = [(i : Int)] := by
  obtain ⟨g1, -, -⟩ := chkM_zero h
  unfold chkM at h
  split at h
  · cases h
  split at h
  · contradiction
  have hk : ∀ k : Nat, k < gr.length → (∀ i : Nat, i < (re (at_ gr (k : Int))).length → chkE kg ws.length (decide ((k : Int) = (gr.length : Int) - 1)) k (re (at_ gr (k : Int))) (re (at_ gr ((k : Int) - 1))) i = 0) ∧ (k = 0 → (re (at_ gr (k : Int))).length = ws.length) := by
    intro k hk
    have hz := firstN_zero h k hk
    unfold chkL chkLs at hz
    split at hz
    · contradiction
    · rename_i hf
      refine ⟨firstN_zero (Classical.byContradiction hf), fun h0 => ?_⟩
      split at hz
      · cases hz
      · rename_i hn
        exact Classical.byContradiction fun hc => hn ⟨h0, hc⟩
  have e0 : (re (at_ gr 0)).length = ws.length := (hk 0 (by omega)).2 rfl
  have hg : ∀ k : Nat, k < gr.length → ∀ i : Nat, i < (re (at_ gr (k : Int))).length → (kg (at_ (re (at_ gr (k : Int))) (i : Int)).1).length = k + 1 ∧ ¬ BadW ws.length (kg (at_ (re (at_ gr (k : Int))) (i : Int)).1) := by
    intro k hk' i hi
    obtain ⟨q1, q2⟩ := entE_gram (chkE_gram ((hk k hk').1 i hi)).1
    exact ⟨by omega, q2⟩
  refine ⟨fun k hk' p hp => ?_, e0, ?_⟩
  · obtain ⟨i, hi, rfl⟩ := List.getElem_of_mem hp
    have := (hg k hk' i hi).1
    rwa [at_nat _ i hi] at this
  · have h0 : ∀ i : Nat, i < ws.length → ∃ v : Int, kg (at_ (re (at_ gr 0)) (i : Int)).1 = [v] ∧ 0 ≤ v ∧ v < ws.length := by
      intro i hi
      obtain ⟨q1, q2⟩ := hg 0 (by omega) i (by rw [show ((0 : Nat) : Int) = 0 from rfl, e0]; exact hi)
      rw [show ((0 : Nat) : Int) = 0 from rfl] at q1 q2
      obtain ⟨v, hv⟩ := List.length_eq_one_iff.1 q1
      refine ⟨v, hv, ?_⟩
      rw [hv] at q2
      have : ¬ (v < 0 ∨ (ws.length : Int) ≤ v) := fun hc => q2 ⟨v, List.mem_singleton.2 rfl, hc⟩
      omega
    have key := rise_id (a := fun i => (kg (at_ (re (at_ gr 0)) (i : Int)).1).headD 0) (n := ws.length) (fun i hi => by
      obtain ⟨v, hv, hb⟩ := h0 i hi
      simp only [hv, List.headD_cons]; exact hb) (fun i hi => by
      obtain ⟨v, hv, _⟩ := h0 i (by omega)
      obtain ⟨u, hu, _⟩ := h0 (i + 1) hi
      have hc := (chkE_gram ((hk 0 (by omega)).1 (i + 1) (by rw [show ((0 : Nat) : Int) = 0 from rfl, e0]; exact hi))).2.1 (by omega)
      rw [show ((0 : Nat) : Int) = 0 from rfl, show (((i + 1 : Nat) : Int) - 1) = (i : Int) by omega, hv, hu] at hc
      simp only [hv, hu, List.headD_cons]
      simp only [cmpL] at hc
      split at hc
      · assumption
      · split at hc
        · exact absurd hc (by decide)
        · exact absurd hc (by decide))
    intro i hi
    obtain ⟨v, hv, _⟩ := h0 i hi
    have := key i hi
    simp only [hv, List.headD_cons] at this
    rw [hv, this]
theorem chkM_fnd {kg : SV → List Int} {re : SV → List En} {fr : Int} {ws : List ByteArray} {gr : List SV} (h : chkM kg re fr ws gr = 0) {i : Nat} (hi : i < ws.length) :
    FndP kg re gr [(i : Int)] ∧ cdsG kg re gr [(i : Int)] = (at_ (re (at_ gr 0)) (i : Int)).2 := by
  obtain ⟨g1, g2, -⟩ := chkM_zero h
  obtain ⟨y1, y2, y3⟩ := chkM_words h
  have hm0 : at_ gr 0 ∈ gr := by rw [show (0 : Int) = ((0 : Nat) : Int) from rfl, at_nat gr 0 (by omega)]; exact List.getElem_mem _
  have e1 : (([(i : Int)] : List Int).length : Int) - 1 = 0 := rfl
  have hi2 : i < (re (at_ gr 0)).length := by omega
  refine ⟨⟨⟨by simp, by simpa using g1⟩, ?_⟩, ?_⟩
  · rw [e1]
    refine List.mem_map.2 ⟨at_ (re (at_ gr 0)) (i : Int), by rw [at_nat _ i hi2]; exact List.getElem_mem _, y3 i hi⟩
  · unfold cdsG entG
    rw [e1, hasN_uni (g2 _ hm0) hi2 (y3 i hi)]
end Go.Proofs.Ytfhelnalegochaa
