/- Texts that ArpaBack_law leans on, part 17. Conditions: none. -/
import Derived.RecoverIn
import Derived.Test.YthkhneimfjaohaaGreatDoorQb16
namespace Go.Proofs.YthkhneimfjaohaaGreatDoor
open Go Go.Fw Go.RowKit
set_option linter.unusedVariables false
set_option linter.unusedSimpArgs false
set_option maxRecDepth 100000
set_option maxHeartbeats 16000000
set_option synthInstance.maxHeartbeats 200000
set_option synthInstance.maxSize 100000
attribute [local irreducible] WPA WLA WDA WDQ WDE QQ seqQ blockQ loopQ fnQ OpP OpT Tr TrP SL SLd OwnS LitS Bk BkE Ob
theorem ba_ext {s t : ByteArray} (h : s.data.toList = t.data.toList) : s = t := ByteArray.ext (Array.toList_inj.1 h)
theorem tl_app (a b : ByteArray) : (a ++ b).data.toList = a.data.toList ++ b.data.toList := by rw [ByteArray.data_append, Array.toList_append]
theorem tl_ext (s : ByteArray) (a b : Nat) : (s.extract a b).data.toList = (s.data.toList.drop a).take (b - a) := by
  simp only [ByteArray.data_extract, Array.toList_extract, List.extract_eq_take_drop]
theorem tl_len (s : ByteArray) : s.data.toList.length = s.size := by rw [Array.length_toList]; rfl
theorem at_of {l1 l2 : List UInt8} {c : UInt8} {s : ByteArray} (h : s.data.toList = l1 ++ c :: l2) (hc : c ∉ l1) : atB s c = l1.length ∧ (befB s c).data.toList = l1 ∧ (aftB s c).data.toList = l2 := by
  have h1 : atB s c = l1.length := by
    unfold atB
    rcases ib_specA s.data.toList c with ⟨h1, h2⟩ | ⟨i, h1, h2, h3⟩
    · exact absurd (by rw [h, List.getElem?_append_right (Nat.le_refl _), Nat.sub_self]; rfl) (h2 l1.length)
    · rw [h1]
      rw [h] at h2 h3
      rcases Nat.lt_trichotomy i l1.length with hi | hi | hi
      · rw [List.getElem?_append_left hi, List.getElem?_eq_getElem hi] at h2
        injection h2 with h2
        exact absurd (h2 ▸ List.getElem_mem hi) hc
      · rw [hi]
      · exact absurd (by rw [List.getElem?_append_right (Nat.le_refl _), Nat.sub_self]; rfl) (h3 l1.length hi)
  refine ⟨h1, ?_, ?_⟩
  · unfold befB
    rw [tl_ext, h1, h, List.drop_zero, Int.toNat_natCast, Nat.sub_zero, List.take_left']
    rfl
  · unfold aftB
    have e1 : ((l1.length : Int) + 1).toNat = (l1 ++ [c]).length := by rw [List.length_append, List.length_singleton]; omega
    have e2 : l1 ++ c :: l2 = (l1 ++ [c]) ++ l2 := by simp
    rw [tl_ext, h1, e1, h, e2, List.drop_left' rfl, List.take_of_length_le]
    rw [← tl_len s, h, e2, List.length_append]; omega
theorem at_no {c : UInt8} {s : ByteArray} : ¬ 0 ≤ atB s c ↔ c ∉ s.data.toList := by
  constructor
  · intro h hm
    obtain ⟨l1, l2, e, hn⟩ : ∃ l1 l2, s.data.toList = l1 ++ c :: l2 ∧ c ∉ l1 := by
      generalize s.data.toList = l at hm
      induction l with
      | nil => cases hm
      | cons x l ih =>
        by_cases hx : c = x
        · subst hx; exact ⟨[], l, rfl, by simp⟩
        · obtain ⟨l1, l2, e, hn⟩ := ih (by rcases List.mem_cons.1 hm with h | h; exact absurd h hx; exact h)
          exact ⟨x :: l1, l2, by rw [e]; rfl, fun k => by rcases List.mem_cons.1 k with k | k; exact hx k; exact hn k⟩
    have := (at_of e hn).1
    omega
  · intro h hp
    unfold atB at hp
    rcases ib_specA s.data.toList c with ⟨h1, h2⟩ | ⟨i, h1, h2, h3⟩
    · rw [h1] at hp; omega
    · exact h (List.mem_of_getElem? h2)
theorem at_yes {c : UInt8} {s : ByteArray} (h : 0 ≤ atB s c) : s = (befB s c ++ oneB c) ++ aftB s c ∧ c ∉ (befB s c).data.toList := by
  have hm : c ∈ s.data.toList := Classical.byContradiction fun k => at_no.2 k h
  obtain ⟨l1, l2, e, hn⟩ : ∃ l1 l2, s.data.toList = l1 ++ c :: l2 ∧ c ∉ l1 := by
    clear h
    generalize s.data.toList = l at hm
    induction l with
    | nil => cases hm
    | cons x l ih =>
      by_cases hx : c = x
      · subst hx; exact ⟨[], l, rfl, by simp⟩
      · obtain ⟨l1, l2, e, hn⟩ := ih (by rcases List.mem_cons.1 hm with h | h; exact absurd h hx; exact h)
        exact ⟨x :: l1, l2, by rw [e]; rfl, fun k => by rcases List.mem_cons.1 k with k | k; exact hx k; exact hn k⟩
  obtain ⟨h1, h2, h3⟩ := at_of e hn
  refine ⟨ba_ext ?_, by rw [h2]; exact hn⟩
  rw [tl_app, tl_app, h2, h3, e]
  show _ = (l1 ++ [c]) ++ l2
  simp
theorem spl_yes {c : UInt8} {s : ByteArray} (h : 0 ≤ atB s c) : splB s c = befB s c :: splB (aftB s c) c := by unfold splB; rw [cnt_some h, splF]
theorem spl_no {c : UInt8} {s : ByteArray} (h : ¬ 0 ≤ atB s c) : splB s c = [s] := by unfold splB; rw [cnt_none h, splF]
theorem spl_ind {c : UInt8} {motive : ByteArray → Prop} (h0 : ∀ s, ¬ 0 ≤ atB s c → motive s) (h1 : ∀ s, 0 ≤ atB s c → motive (aftB s c) → motive s) (s : ByteArray) : motive s := by
  obtain ⟨n, hn⟩ : ∃ n, s.size = n := ⟨_, rfl⟩
  induction n using Nat.strongRecOn generalizing s with
  | ind n ih =>
    by_cases h : 0 ≤ atB s c
    · exact h1 s h (ih (aftB s c).size (by have := aft_size h; omega) _ rfl)
    · exact h0 s h
theorem spl_ne (s : ByteArray) (c : UInt8) : splB s c ≠ [] := by
  by_cases h : 0 ≤ atB s c
  · rw [spl_yes h]; simp
  · rw [spl_no h]; simp
theorem joinB_one (x sep : ByteArray) : joinB [x] sep = x := ba_ext (by unfold joinB; simp [Go.Lib.join_one])
theorem joinB_cons (x y : ByteArray) (l : List ByteArray) (sep : ByteArray) : joinB (x :: y :: l) sep = (x ++ sep) ++ joinB (y :: l) sep := by
  apply ba_ext
  rw [tl_app, tl_app]
  unfold joinB
  simp [Go.Lib.join_cons, Go.Lib.joinTail]
theorem spl_join (s : ByteArray) (c : UInt8) : joinB (splB s c) (oneB c) = s := by
  induction s using spl_ind (c := c) with
  | h0 s h => rw [spl_no h, joinB_one]
  | h1 s h ih =>
    rw [spl_yes h]
    obtain ⟨y, l, e⟩ := List.exists_cons_of_ne_nil (spl_ne (aftB s c) c)
    rw [e, joinB_cons, ← e, ih]
    exact (at_yes h).1.symm
theorem hasP_cut {s p : ByteArray} (h : hasP s p) : s = p ++ cutP s p := by
  unfold cutP
  rw [if_pos h]
  have e : s.data.toList = (s.extract 0 p.size).data.toList ++ (s.extract p.size s.size).data.toList := by
    rw [tl_ext, tl_ext, List.drop_zero, Nat.sub_zero, List.take_of_length_le (l := s.data.toList.drop p.size) (by rw [List.length_drop, tl_len]; omega), List.take_append_drop]
  apply ba_ext
  rw [tl_app, e]
  congr 1
  rw [h.2]
theorem dec_valD {d : ByteArray} : ∀ {n : Nat}, 1 ≤ n → n ≤ d.size → DigP d n → (bt d 0 ≠ 48 ∨ n = 1) → decL (valD d n).toNat = d.extract 0 n ∧ (bt d 0 ≠ 48 → 1 ≤ valD d n)
  | 0, h, _, _, _ => by omega
  | 1, _, hn, hd, _ => by
    have h0 := hd 0 (by omega)
    have e0 : ((0 : Nat) : Int) = 0 := rfl
    rw [e0] at h0
    have ev : valD d 1 = bt d 0 - 48 := by rw [valD, valD, e0]; omega
    rw [ev]
    refine ⟨?_, fun h => by omega⟩
    rw [dec_lt (by omega)]
    refine ext_same (by rw [ByteArray.size_extract]; show 1 = _; omega) fun j hj => ?_
    have hj0 : j = 0 := by have : j < 1 := hj; omega
    subst hj0
    rw [bt_exA (s := d) (a := 0) (b := 1) (j := 0) hn (by omega), e0, bt_one (by omega)]
    show _ = bt d 0
    omega
  | n + 2, _, hn, hd, hz => by
    have hz' : bt d 0 ≠ 48 := hz.resolve_right (by omega)
    obtain ⟨i1, i2⟩ := dec_valD (n := n + 1) (by omega) (by omega) (fun j hj => hd j (by omega)) (.inl hz')
    have h1 := hd (n + 1) (by omega)
    have i2 := i2 hz'
    have ev : valD d (n + 2) = 10 * valD d (n + 1) + (bt d ((n + 1 : Nat) : Int) - 48) := by rw [valD]
    rw [ev]
    generalize valD d (n + 1) = v at i1 i2
    generalize hb : bt d ((n + 1 : Nat) : Int) = b at h1
    refine ⟨?_, fun _ => by omega⟩
    rw [dec_ge (by omega)]
    have e1 : (10 * v + (b - 48)).toNat / 10 = v.toNat := by omega
    have e2 : 48 + (10 * v + (b - 48)).toNat % 10 = b.toNat := by omega
    rw [e1, e2, i1]
    refine ext_same (by rw [ByteArray.size_append, ByteArray.size_extract, ByteArray.size_extract]; show _ + 1 = _; omega) fun j hj => ?_
    rw [ByteArray.size_append, ByteArray.size_extract] at hj
    have hj2 : j < min (n + 1) d.size - 0 + 1 := hj
    have hs : (d.extract 0 (n + 1)).size = n + 1 := by rw [ByteArray.size_extract]; omega
    rw [bt_exA (s := d) (a := 0) (b := n + 2) (j := j) hn (by omega)]
    by_cases hjn : j < n + 1
    · rw [bt_apL (by omega), bt_exA (s := d) (a := 0) (b := n + 1) (j := j) (by omega) (by omega)]
    · have e3 : j = (d.extract 0 (n + 1)).size + 0 := by omega
      rw [e3, bt_apR (by show 0 < 1; omega), hs]
      show bt _ 0 = _
      rw [bt_one (by omega)]
      have e4 : 0 + (n + 1 + 0) = n + 1 := by omega
      rw [e4, hb]; omega
theorem digS_pos2 {s : ByteArray} (h : NumOk s) : 1 ≤ (digS s).size := by have := digS_pos h.1.1; omega
theorem num_int {s : ByteArray} (h : NumOk s) : intS (numV s) = s := by
  rw [(num_yes h).1]
  have hd := h.2.2
  have hz := h.2.1
  have hp := digS_pos2 h
  have hfull : (digS s).extract 0 (digS s).size = digS s := ext_same (by rw [ByteArray.size_extract]; omega) fun j hj => by
    rw [ByteArray.size_extract] at hj
    rw [bt_exA (s := digS s) (a := 0) (b := (digS s).size) (j := j) (Nat.le_refl _) (by omega), Nat.zero_add]
  by_cases hm : hasP s mnB
  · rw [if_pos hm]
    have hne : bt (digS s) 0 ≠ 48 := fun hc => by
      have := hz hc
      rw [this] at hm
      exact absurd hm (by decide)
    obtain ⟨i1, i2⟩ := dec_valD hp (Nat.le_refl _) hd (.inl hne)
    have i2 := i2 hne
    unfold intS
    rw [if_pos (by omega), show (- -valD (digS s) (digS s).size) = valD (digS s) (digS s).size by omega, i1, hfull]
    exact (hasP_cut hm).symm
  · rw [if_neg hm]
    have e : digS s = s := by unfold digS cutP; rw [if_neg hm]
    by_cases h0 : bt (digS s) 0 = 48
    · have hs := hz h0
      subst hs
      unfold intS
      rw [show valD (digS zrB) (digS zrB).size = 0 by decide +kernel, if_neg (by decide), show (0 : Int).toNat = 0 from rfl, dec_lt (by omega)]
      rfl
    · obtain ⟨i1, i2⟩ := dec_valD hp (Nat.le_refl _) hd (.inl h0)
      have i2 := i2 h0
      unfold intS
      rw [if_neg (by omega), i1, hfull, e]
end Go.Proofs.YthkhneimfjaohaaGreatDoor
namespace Go.Proofs.YthkhneimfjaohaaGreatDoor
open Go Go.Fw Go.RowKit
set_option linter.unusedVariables false
set_option linter.unusedSimpArgs false
set_option maxRecDepth 100000
set_option maxHeartbeats 16000000
set_option synthInstance.maxHeartbeats 200000
set_option synthInstance.maxSize 100000
attribute [local irreducible] WPA WLA WDA WDQ WDE QQ seqQ blockQ loopQ fnQ OpP OpT Tr TrP SL SLd OwnS LitS Bk BkE Ob
attribute [local irreducible] EntOk NumOk
def cntsC : Nat → List Int → ByteArray
  | _, [] => ⟨#[]⟩
  | k, c :: cs => ((ngB (k + 1) ++ intS c) ++ nlB) ++ cntsC (k + 1) cs
def grT (last : Bool) (g : GrL) : ByteArray := (((intS g.prob ++ tabB) ++ joinB g.words spB) ++ (if last then ⟨#[]⟩ else tabB ++ intS g.back)) ++ nlB
def grsT (last : Bool) : List GrL → ByteArray
  | [] => ⟨#[]⟩
  | g :: l => grT last g ++ grsT last l
def secsT (N : Nat) : Nat → List (List GrL) → ByteArray
  | _, [] => ⟨#[]⟩
  | k, gs :: l => (((secB (k + 1) ++ nlB) ++ grsT (decide (k + 1 = N)) gs) ++ nlB) ++ secsT N (k + 1) l
theorem eB (t : ByteArray) : t ++ (⟨#[]⟩ : ByteArray) = t := ByteArray.append_empty
theorem Be (t : ByteArray) : (⟨#[]⟩ : ByteArray) ++ t = t := ByteArray.empty_append
theorem nl_cut {s : ByteArray} (h : ¬ ¬ 0 ≤ atB s 10) : s = (befB s 10 ++ nlB) ++ aftB s 10 := (at_yes (Classical.byContradiction h)).1
theorem cntF_txt : ∀ (f : Nat) (s : ByteArray) (n : Int) (l : ByteArray) (cs r : List Int) (s' : ByteArray) (n' : Int), cntF f s n l cs = .ok (r, s', n') → ∃ more, r = cs ++ more ∧ (l ++ nlB) ++ s = cntsC cs.length more ++ (nlB ++ s')
  | 0, s, n, l, cs, r, s', n', h => by rw [cntF] at h; cases h
  | f + 1, s, n, l, cs, r, s', n', h => by
    rw [cntF] at h
    split at h
    · rename_i h3
      injection h with h; injection h with e1 e2; injection e2 with e2 e3
      subst e1; subst e2; subst e3
      refine ⟨[], by simp, ?_⟩
      rw [h3.1, cntsC, Be nlB, Be (nlB ++ s)]
    split at h
    · cases h
    split at h
    · cases h
    split at h
    · cases h
    split at h
    · cases h
    · rename_i h4 h5 h6 h7 h8
      have h6' := Classical.byContradiction h6
      obtain ⟨more, e1, e2⟩ := cntF_txt f _ _ _ _ r s' n' h
      refine ⟨numV (cutP l (ngB (cs.length + 1))) :: more, by rw [e1]; simp, ?_⟩
      rw [cntsC, num_int h6'.2, ← hasP_cut h6'.1]
      rw [List.length_append, List.length_singleton] at e2
      have e3 := nl_cut h8
      rw [e2] at e3
      rw [ByteArray.append_assoc (a := l ++ nlB), ← e3]
theorem headF_txt {s : ByteArray} {n : Int} {h : Int × List Int} {s' : ByteArray} {n' : Int} (e : headF s n = .ok (h, s', n')) : s = (((dataB ++ nlB) ++ ((fracB ++ intS h.1) ++ nlB)) ++ cntsC 0 h.2) ++ (nlB ++ s') := by
  unfold headF at e
  split at e
  · cases e
  split at e
  · cases e
  split at e
  · cases e
  split at e
  · cases e
  split at e
  · cases e
  rename_i h1 h2 h3 h4 h5
  have h2' := Classical.byContradiction h2
  have h4' := Classical.byContradiction h4
  revert e
  generalize hc : cntF _ _ _ _ _ = X
  intro e
  cases X with
  | error y => cases e
  | ok r =>
    obtain ⟨r, s2, n2⟩ := r
    have e2 : (((numV (cutP (befB (aftB s 10) 10) fracB), r), s2, n2) : (Int × List Int) × ByteArray × Int) = (h, s', n') := by injection e
    obtain ⟨e3, e4⟩ := Prod.mk.inj e2
    obtain ⟨e4, e5⟩ := Prod.mk.inj e4
    subst e3 e4 e5
    obtain ⟨more, m1, m2⟩ := cntF_txt _ _ _ _ _ _ _ _ hc
    rw [List.nil_append] at m1
    subst m1
    rw [List.length_nil] at m2
    dsimp only
    have q1 := nl_cut h1
    rw [h2'] at q1
    have q2 := nl_cut h3
    rw [hasP_cut h4'.1] at q2
    have q3 := nl_cut h5
    rw [m2] at q3
    generalize aftB s 10 = a1 at q1 q2 q3 h4'
    generalize aftB a1 10 = a2 at q2 q3
    have q4 := num_int h4'.2
    generalize cutP (befB a1 10) fracB = cc at q2 q4
    rw [q4, q1, q2, q3]
    simp only [ByteArray.append_assoc]
theorem ent_txt {o : Int} {last : Bool} {l : ByteArray} {n : Int} (h : EntOk o last l) : l ++ nlB = grT last (grF last n l) := by
  unfold EntOk at h
  obtain ⟨h1, ⟨h2, h3⟩, h4, h5⟩ := h
  have hj := spl_join l 9
  unfold grT grF
  dsimp only
  generalize splB l 9 = ps at h1 h2 h3 h4 h5 hj
  cases last with
  | true =>
    rw [if_pos rfl] at h1
    obtain ⟨a, b, rfl⟩ : ∃ a b, ps = [a, b] := by
      match ps, h1 with
      | [a, b], _ => exact ⟨a, b, rfl⟩
    have e0 : nthB [a, b] 0 = a := rfl
    have e1 : nthB [a, b] 1 = b := rfl
    rw [e0] at h2 ⊢
    rw [e1, num_int h2, if_pos rfl, show joinB (splB b 32) spB = b from spl_join b 32, eB ((a ++ tabB) ++ b), ← hj, joinB_cons, joinB_one]
    rfl
  | false =>
    rw [if_neg (by decide)] at h1
    obtain ⟨a, b, c, rfl⟩ : ∃ a b c, ps = [a, b, c] := by
      match ps, h1 with
      | [a, b, c], _ => exact ⟨a, b, c, rfl⟩
    have e0 : nthB [a, b, c] 0 = a := rfl
    have e1 : nthB [a, b, c] 1 = b := rfl
    have e2 : nthB [a, b, c] 2 = c := rfl
    have h5 := h5 rfl
    rw [e2] at h5 ⊢
    rw [e0] at h2 ⊢
    rw [e1, num_int h2, if_neg (by decide), if_neg (by decide), num_int h5, show joinB (splB b 32) spB = b from spl_join b 32, ← hj, joinB_cons, joinB_cons, joinB_one]
    show ((a ++ tabB) ++ ((b ++ tabB) ++ c)) ++ nlB = _
    simp only [ByteArray.append_assoc]
theorem secF_txt (o : Int) (last : Bool) : ∀ (k : Nat) (s : ByteArray) (n : Int) (gs : List GrL) (s' : ByteArray) (n' : Int), secF o last k s n = .ok (gs, s', n') → s = grsT last gs ++ s' ∧ gs.length = k
  | 0, s, n, gs, s', n', h => by
    rw [secF] at h
    injection h with h; injection h with e1 e2; injection e2 with e2 e3
    subst e1; subst e2; subst e3
    exact ⟨(Be s).symm, rfl⟩
  | k + 1, s, n, gs, s', n', h => by
    rw [secF] at h
    split at h
    · cases h
    split at h
    · cases h
    rename_i h1 h2
    have h2' := Classical.byContradiction h2
    revert h
    generalize hc : secF _ _ _ _ _ = X
    intro h
    cases X with
    | error y => cases h
    | ok r =>
      obtain ⟨r, s2, n2⟩ := r
      have e2 : (((grF last n (befB s 10) :: r), s2, n2) : List GrL × ByteArray × Int) = (gs, s', n') := by injection h
      obtain ⟨e3, e4⟩ := Prod.mk.inj e2
      obtain ⟨e4, e5⟩ := Prod.mk.inj e4
      subst e3 e4 e5
      obtain ⟨i1, i2⟩ := secF_txt o last k _ _ _ _ _ hc
      refine ⟨?_, by rw [List.length_cons, i2]⟩
      rw [grsT, ← ent_txt h2', ByteArray.append_assoc (a := befB s 10 ++ nlB), ← i1]
      exact nl_cut h1
theorem allF_txt (N : Nat) : ∀ (cs : List Int) (k : Nat) (s : ByteArray) (n : Int) (gss : List (List GrL)) (s' : ByteArray) (n' : Int), (∀ c ∈ cs, 0 ≤ c) → allF N cs k s n = .ok (gss, s', n') → s = secsT N k gss ++ (endB ++ nlB) ∧ cs = gss.map fun gs => (gs.length : Int)
  | [], k, s, n, gss, s', n', _, h => by
    rw [allF] at h
    split at h
    · cases h
    split at h
    · cases h
    split at h
    · cases h
    rename_i h1 h2 h3
    injection h with h; injection h with e1 e2
    subst e1
    have e := nl_cut h1
    rw [Classical.byContradiction h2, Classical.byContradiction h3, eB] at e
    exact ⟨by rw [secsT, Be]; exact e, rfl⟩
  | c :: cs, k, s, n, gss, s', n', hc0, h => by
    rw [allF] at h
    split at h
    · cases h
    split at h
    · cases h
    rename_i h1 h2
    split at h
    · cases h
    rename_i gs s2 n2 hc
    split at h
    · cases h
    split at h
    · cases h
    rename_i h3 h4
    obtain ⟨i1, i2⟩ := secF_txt _ _ _ _ _ _ _ _ hc
    revert h
    generalize hd : allF _ _ _ _ _ = X
    intro h
    cases X with
    | error y => cases h
    | ok r =>
      obtain ⟨r, s3, n3⟩ := r
      have e2 : (((gs :: r), s3, n3) : List (List GrL) × ByteArray × Int) = (gss, s', n') := by injection h
      obtain ⟨e3, e4⟩ := Prod.mk.inj e2
      subst e3
      obtain ⟨j1, j2⟩ := allF_txt N cs (k + 1) _ _ _ _ _ (fun c hc => hc0 c (List.mem_cons_of_mem _ hc)) hd
      have hcc := hc0 c List.mem_cons_self
      refine ⟨?_, by rw [List.map_cons, ← j2, i2, Int.toNat_of_nonneg hcc]⟩
      have e5 : decide (k + 1 = N) = decide ((k : Int) = (N : Int) - 1) := by rw [decide_eq_decide]; omega
      have e6 : nlB ++ aftB s2 10 = s2 := by
        have := nl_cut h3
        rw [Classical.byContradiction h4, Be] at this
        exact this.symm
      have q1 := nl_cut h1
      rw [Classical.byContradiction h2, i1, ← e6, j1] at q1
      rw [secsT, e5, q1]
      simp only [ByteArray.append_assoc]
theorem idsN_mem : ∀ (l : List ByteArray) (i : Nat) (f : ByteArray → Option Int) (w : ByteArray) (v : Int), idsN l i f w = some v → f w = some v ∨ ∃ j : Nat, v = ((i + j : Nat) : Int) ∧ l[j]? = some w
  | [], i, f, w, v, h => .inl h
  | x :: l, i, f, w, v, h => by
    rw [idsN] at h
    rcases idsN_mem l (i + 1) _ w v h with h | ⟨j, h1, h2⟩
    · split at h
      · exact .inl h
      · unfold setS at h
        split at h
        · rename_i e
          injection h with h
          exact .inr ⟨0, by omega, by rw [e]; rfl⟩
        · exact .inl h
    · exact .inr ⟨j + 1, by rw [h1]; congr 1; omega, by simpa using h2⟩
theorem idF_at {l : List GrL} {w : ByteArray} {v : Int} (h : idF l w = some v) : at_ (wdsF l) v = w := by
  unfold idF at h
  rcases idsN_mem _ _ _ _ _ h with h | ⟨j, h1, h2⟩
  · cases h
  · subst h1
    unfold at_
    rw [Int.toNat_natCast, List.getD_eq_getElem?_getD, Nat.zero_add, h2]; rfl
section
variable {ws : List ByteArray} {f : ByteArray → Option Int}
theorem idsM_txt (hf : ∀ w v, f w = some v → at_ ws v = w) {line : Int} : ∀ {l : List ByteArray} {G : List Int}, idsM f line l = .ok G → wordsB ws G = l
  | [], G, h => by rw [idsM] at h; injection h with h; subst h; rfl
  | w :: l, G, h => by
    rw [idsM] at h
    split at h
    · cases h
    · rename_i v hv
      revert h
      generalize hc : idsM f line l = X
      intro h
      cases X with
      | error y => cases h
      | ok r =>
        injection h with h; subst h
        show at_ ws v :: wordsB ws r = _
        rw [idsM_txt hf hc, hf _ _ hv]
theorem rowF_txt (hf : ∀ w v, f w = some v → at_ ws v = w) (last : Bool) : ∀ {l : List GrL} {es : List EnL}, rowF f l = .ok es → grsT last l = entsB ws last (es.map ev)
  | [], es, h => by rw [rowF] at h; injection h with h; subst h; rfl
  | g :: l, es, h => by
    rw [rowF] at h
    split at h
    · cases h
    · rename_i G hG
      revert h
      generalize hc : rowF f l = X
      intro h
      cases X with
      | error y => cases h
      | ok r =>
        injection h with h; subst h
        rw [List.map_cons, entsB, grsT, rowF_txt hf last hc]
        congr 1
        unfold grT entB ev
        dsimp only
        rw [idsM_txt hf hG]
theorem rowsF_txt (hf : ∀ w v, f w = some v → at_ ws v = w) (N : Nat) : ∀ {gss : List (List GrL)} {rows : List (List EnL)} (k : Nat), rowsF f gss = .ok rows → secsT N k gss = secsB ws N k (evs rows) ∧ cntsC k (gss.map fun gs => (gs.length : Int)) = cntsB k (evs rows)
  | [], rows, k, h => by rw [rowsF] at h; injection h with h; subst h; exact ⟨rfl, rfl⟩
  | gs :: l, rows, k, h => by
    rw [rowsF] at h
    split at h
    · cases h
    · rename_i es hG
      revert h
      generalize hc : rowsF f l = X
      intro h
      cases X with
      | error y => cases h
      | ok r =>
        injection h with h; subst h
        obtain ⟨i1, i2⟩ := rowsF_txt hf N (k + 1) hc
        have hl := (rowF_ok hG).1
        show _ = secsB ws N k (es.map ev :: evs r) ∧ _ = cntsB k (es.map ev :: evs r)
        rw [secsT, secsB, i1, rowF_txt hf _ hG, List.map_cons, cntsC, cntsB, i2, List.length_map, hl]
        exact ⟨rfl, rfl⟩
end
theorem parse_print {s : ByteArray} {fr : Int} {ws : List ByteArray} {A : List (List EV)} (h : parseF s = .ok (fr, ws, A)) : printB fr ws A = s ∧ chkA fr ws A = 0 := by
  unfold parseF at h
  split at h
  · cases h
  rename_i hd s1 n1 h1
  split at h
  · cases h
  rename_i gss r h2
  obtain ⟨s2, n2⟩ := r
  split at h
  · cases h
  rename_i rows h3
  split at h
  · cases h
  rename_i h4
  injection h with h; injection h with e1 e2; injection e2 with e2 e3
  subst e1; subst e2; subst e3
  refine ⟨?_, Classical.byContradiction h4⟩
  obtain ⟨⟨a1, a2, a3⟩, a4, a5⟩ := headF_ok h1
  have b1 := headF_txt h1
  obtain ⟨c1, c2⟩ := allF_txt _ _ _ _ _ _ _ _ a3 h2
  have hf : ∀ w v, idF (gss.getD 0 []) w = some v → at_ (wdsF (gss.getD 0 [])) v = w := fun w v h => idF_at h
  obtain ⟨d1, d2⟩ := rowsF_txt hf hd.2.length 0 h3
  have hN : (evs rows).length = hd.2.length := by unfold evs; rw [List.length_map, (rowsF_ok h3).1]; have := congrArg List.length c2; rw [List.length_map] at this; exact this.symm
  unfold printB
  rw [hN, ← d1, ← d2, ← c2, b1, c1]
  simp only [ByteArray.append_assoc]
end Go.Proofs.YthkhneimfjaohaaGreatDoor
namespace Go.Proofs.YthkhneimfjaohaaGreatDoor
open Go Go.Fw Go.RowKit
set_option linter.unusedVariables false
set_option linter.unusedSimpArgs false
set_option maxRecDepth 100000
set_option maxHeartbeats 16000000
set_option synthInstance.maxHeartbeats 200000
set_option synthInstance.maxSize 100000
attribute [local irreducible] WPA WLA WDA WDQ WDE QQ seqQ blockQ loopQ fnQ OpP OpT Tr TrP SL SLd OwnS LitS Bk BkE Ob
def kn0 : ByteArray := ⟨#[92, 100, 97, 116, 97, 92, 10, 102, 114, 97, 99, 61, 52, 10, 110, 103, 114, 97, 109, 32, 49, 61, 51, 10, 10, 92, 49, 45, 103, 114, 97, 109, 115, 58, 10, 45, 49, 54, 9, 60, 117, 110, 107, 62, 10, 45, 49, 48, 55, 51, 55, 52, 49, 56, 50, 52, 9, 60, 115, 62, 10, 45, 49, 54, 9, 60, 47, 115, 62, 10, 10, 92, 101, 110, 100, 92, 10]⟩
def kn1 : ByteArray := ⟨#[102, 114, 97, 99, 61, 52, 10, 110, 103, 114, 97, 109, 32, 49, 61, 51, 10, 10, 92, 49, 45, 103, 114, 97, 109, 115, 58, 10, 45, 49, 54, 9, 60, 117, 110, 107, 62, 10, 45, 49, 48, 55, 51, 55, 52, 49, 56, 50, 52, 9, 60, 115, 62, 10, 45, 49, 54, 9, 60, 47, 115, 62, 10, 10, 92, 101, 110, 100, 92, 10]⟩
def kn2 : ByteArray := ⟨#[110, 103, 114, 97, 109, 32, 49, 61, 51, 10, 10, 92, 49, 45, 103, 114, 97, 109, 115, 58, 10, 45, 49, 54, 9, 60, 117, 110, 107, 62, 10, 45, 49, 48, 55, 51, 55, 52, 49, 56, 50, 52, 9, 60, 115, 62, 10, 45, 49, 54, 9, 60, 47, 115, 62, 10, 10, 92, 101, 110, 100, 92, 10]⟩
def kn3 : ByteArray := ⟨#[10, 92, 49, 45, 103, 114, 97, 109, 115, 58, 10, 45, 49, 54, 9, 60, 117, 110, 107, 62, 10, 45, 49, 48, 55, 51, 55, 52, 49, 56, 50, 52, 9, 60, 115, 62, 10, 45, 49, 54, 9, 60, 47, 115, 62, 10, 10, 92, 101, 110, 100, 92, 10]⟩
def kn4 : ByteArray := ⟨#[92, 49, 45, 103, 114, 97, 109, 115, 58, 10, 45, 49, 54, 9, 60, 117, 110, 107, 62, 10, 45, 49, 48, 55, 51, 55, 52, 49, 56, 50, 52, 9, 60, 115, 62, 10, 45, 49, 54, 9, 60, 47, 115, 62, 10, 10, 92, 101, 110, 100, 92, 10]⟩
def kn5 : ByteArray := ⟨#[45, 49, 54, 9, 60, 117, 110, 107, 62, 10, 45, 49, 48, 55, 51, 55, 52, 49, 56, 50, 52, 9, 60, 115, 62, 10, 45, 49, 54, 9, 60, 47, 115, 62, 10, 10, 92, 101, 110, 100, 92, 10]⟩
def kn6 : ByteArray := ⟨#[45, 49, 48, 55, 51, 55, 52, 49, 56, 50, 52, 9, 60, 115, 62, 10, 45, 49, 54, 9, 60, 47, 115, 62, 10, 10, 92, 101, 110, 100, 92, 10]⟩
def kn7 : ByteArray := ⟨#[45, 49, 54, 9, 60, 47, 115, 62, 10, 10, 92, 101, 110, 100, 92, 10]⟩
def kn8 : ByteArray := ⟨#[10, 92, 101, 110, 100, 92, 10]⟩
def kn9 : ByteArray := ⟨#[92, 101, 110, 100, 92, 10]⟩
def kn10 : ByteArray := ⟨#[]⟩
def ln0 : ByteArray := ⟨#[92, 100, 97, 116, 97, 92]⟩
def ln1 : ByteArray := ⟨#[102, 114, 97, 99, 61, 52]⟩
def ln2 : ByteArray := ⟨#[110, 103, 114, 97, 109, 32, 49, 61, 51]⟩
def ln3 : ByteArray := ⟨#[]⟩
def ln4 : ByteArray := ⟨#[92, 49, 45, 103, 114, 97, 109, 115, 58]⟩
def ln5 : ByteArray := ⟨#[45, 49, 54, 9, 60, 117, 110, 107, 62]⟩
def ln6 : ByteArray := ⟨#[45, 49, 48, 55, 51, 55, 52, 49, 56, 50, 52, 9, 60, 115, 62]⟩
def ln7 : ByteArray := ⟨#[45, 49, 54, 9, 60, 47, 115, 62]⟩
def ln8 : ByteArray := ⟨#[]⟩
def ln9 : ByteArray := ⟨#[92, 101, 110, 100, 92]⟩
theorem ka0 : aftB kn0 10 = kn1 := by decide +kernel
theorem kb0 : befB kn0 10 = ln0 := by decide +kernel
theorem kc0 : ¬ ¬ 0 ≤ atB kn0 10 := by decide +kernel
theorem ka1 : aftB kn1 10 = kn2 := by decide +kernel
theorem kb1 : befB kn1 10 = ln1 := by decide +kernel
theorem kc1 : ¬ ¬ 0 ≤ atB kn1 10 := by decide +kernel
theorem ka2 : aftB kn2 10 = kn3 := by decide +kernel
theorem kb2 : befB kn2 10 = ln2 := by decide +kernel
theorem kc2 : ¬ ¬ 0 ≤ atB kn2 10 := by decide +kernel
theorem ka3 : aftB kn3 10 = kn4 := by decide +kernel
theorem kb3 : befB kn3 10 = ln3 := by decide +kernel
theorem kc3 : ¬ ¬ 0 ≤ atB kn3 10 := by decide +kernel
theorem ka4 : aftB kn4 10 = kn5 := by decide +kernel
theorem kb4 : befB kn4 10 = ln4 := by decide +kernel
theorem kc4 : ¬ ¬ 0 ≤ atB kn4 10 := by decide +kernel
theorem ka5 : aftB kn5 10 = kn6 := by decide +kernel
theorem kb5 : befB kn5 10 = ln5 := by decide +kernel
theorem kc5 : ¬ ¬ 0 ≤ atB kn5 10 := by decide +kernel
theorem ka6 : aftB kn6 10 = kn7 := by decide +kernel
theorem kb6 : befB kn6 10 = ln6 := by decide +kernel
theorem kc6 : ¬ ¬ 0 ≤ atB kn6 10 := by decide +kernel
theorem ka7 : aftB kn7 10 = kn8 := by decide +kernel
theorem kb7 : befB kn7 10 = ln7 := by decide +kernel
theorem kc7 : ¬ ¬ 0 ≤ atB kn7 10 := by decide +kernel
theorem ka8 : aftB kn8 10 = kn9 := by decide +kernel
theorem kb8 : befB kn8 10 = ln8 := by decide +kernel
theorem kc8 : ¬ ¬ 0 ≤ atB kn8 10 := by decide +kernel
theorem ka9 : aftB kn9 10 = kn10 := by decide +kernel
theorem kb9 : befB kn9 10 = ln9 := by decide +kernel
theorem kc9 : ¬ ¬ 0 ≤ atB kn9 10 := by decide +kernel
theorem ki1 : intS (1) = ⟨#[49]⟩ := by
  unfold intS
  first | rw [if_pos (by decide)] | rw [if_neg (by decide)]
  rw [show (1 : Int).toNat = 1 by decide]
  rw [decL, dif_pos (by decide)]
  decide +kernel
theorem ki3 : intS (3) = ⟨#[51]⟩ := by
  unfold intS
  first | rw [if_pos (by decide)] | rw [if_neg (by decide)]
  rw [show (3 : Int).toNat = 3 by decide]
  rw [decL, dif_pos (by decide)]
  decide +kernel
theorem ki4 : intS (4) = ⟨#[52]⟩ := by
  unfold intS
  first | rw [if_pos (by decide)] | rw [if_neg (by decide)]
  rw [show (4 : Int).toNat = 4 by decide]
  rw [decL, dif_pos (by decide)]
  decide +kernel
theorem kim16 : intS (-16) = ⟨#[45, 49, 54]⟩ := by
  unfold intS
  first | rw [if_pos (by decide)] | rw [if_neg (by decide)]
  rw [show (-(-16) : Int).toNat = 16 by decide]
  rw [decL, dif_neg (by decide), show 16 / 10 = 1 by decide]
  rw [decL, dif_pos (by decide)]
  decide +kernel
theorem kim1073741824 : intS (-1073741824) = ⟨#[45, 49, 48, 55, 51, 55, 52, 49, 56, 50, 52]⟩ := by
  unfold intS
  first | rw [if_pos (by decide)] | rw [if_neg (by decide)]
  rw [show (-(-1073741824) : Int).toNat = 1073741824 by decide]
  rw [decL, dif_neg (by decide), show 1073741824 / 10 = 107374182 by decide]
  rw [decL, dif_neg (by decide), show 107374182 / 10 = 10737418 by decide]
  rw [decL, dif_neg (by decide), show 10737418 / 10 = 1073741 by decide]
  rw [decL, dif_neg (by decide), show 1073741 / 10 = 107374 by decide]
  rw [decL, dif_neg (by decide), show 107374 / 10 = 10737 by decide]
  rw [decL, dif_neg (by decide), show 10737 / 10 = 1073 by decide]
  rw [decL, dif_neg (by decide), show 1073 / 10 = 107 by decide]
  rw [decL, dif_neg (by decide), show 107 / 10 = 10 by decide]
  rw [decL, dif_neg (by decide), show 10 / 10 = 1 by decide]
  rw [decL, dif_pos (by decide)]
  decide +kernel
def nu3 : ByteArray := ⟨#[51]⟩
theorem ko3 : NumOk nu3 := by unfold NumOk DigP; decide +kernel
theorem kv3 : numV nu3 = 3 := (num_yes ko3).1.trans (by decide +kernel)
def nu4 : ByteArray := ⟨#[52]⟩
theorem ko4 : NumOk nu4 := by unfold NumOk DigP; decide +kernel
theorem kv4 : numV nu4 = 4 := (num_yes ko4).1.trans (by decide +kernel)
def num16 : ByteArray := ⟨#[45, 49, 54]⟩
theorem kom16 : NumOk num16 := by unfold NumOk DigP; decide +kernel
theorem kvm16 : numV num16 = -16 := (num_yes kom16).1.trans (by decide +kernel)
def num1073741824 : ByteArray := ⟨#[45, 49, 48, 55, 51, 55, 52, 49, 56, 50, 52]⟩
theorem kom1073741824 : NumOk num1073741824 := by unfold NumOk DigP; decide +kernel
theorem kvm1073741824 : numV num1073741824 = -1073741824 := (num_yes kom1073741824).1.trans (by decide +kernel)
def kng : ByteArray := ⟨#[110, 103, 114, 97, 109, 32, 49, 61]⟩
theorem kngB : ngB 1 = kng := by unfold ngB; rw [show ((1 : Nat) : Int) = 1 from rfl, ki1]; decide +kernel
theorem ksec : secB 1 = ln4 := by unfold secB; rw [show ((1 : Nat) : Int) = 1 from rfl, ki1]; decide +kernel
theorem kcut1 : cutP ln1 fracB = nu4 := by decide +kernel
theorem khas1 : hasP ln1 fracB := by decide +kernel
theorem kcut2 : cutP ln2 kng = nu3 := by decide +kernel
theorem khas2 : hasP ln2 kng := by decide +kernel
def kw0 : ByteArray := ⟨#[60, 117, 110, 107, 62]⟩
theorem ksp0 : splB ln5 9 = [num16, kw0] := by decide +kernel
theorem ksq0 : splB kw0 32 = [kw0] := by decide +kernel
theorem kpi0 : PieceP kw0 := by unfold PieceP; decide +kernel
theorem ken0 : EntOk ((0 + 1 : Nat) : Int) true ln5 := by
  unfold EntOk
  rw [ksp0]
  show (((2 : Nat) : Int) = 2 ∧ (NumOk num16 ∧ ((splB kw0 32).length : Int) = _) ∧ (∀ w ∈ splB kw0 32, PieceP w) ∧ (true = false → _))
  rw [ksq0]
  exact ⟨rfl, ⟨kom16, rfl⟩, (fun w hw => by rw [List.mem_singleton.1 hw]; exact kpi0), (fun h => by cases h)⟩
theorem kgr0 : grF true 5 ln5 = ⟨5 + 1, [kw0], -16, 0⟩ := by
  unfold grF
  rw [ksp0]
  show (⟨5 + 1, splB kw0 32, numV num16, 0⟩ : GrL) = _
  rw [ksq0, kvm16]
def kw1 : ByteArray := ⟨#[60, 115, 62]⟩
theorem ksp1 : splB ln6 9 = [num1073741824, kw1] := by decide +kernel
theorem ksq1 : splB kw1 32 = [kw1] := by decide +kernel
theorem kpi1 : PieceP kw1 := by unfold PieceP; decide +kernel
theorem ken1 : EntOk ((0 + 1 : Nat) : Int) true ln6 := by
  unfold EntOk
  rw [ksp1]
  show (((2 : Nat) : Int) = 2 ∧ (NumOk num1073741824 ∧ ((splB kw1 32).length : Int) = _) ∧ (∀ w ∈ splB kw1 32, PieceP w) ∧ (true = false → _))
  rw [ksq1]
  exact ⟨rfl, ⟨kom1073741824, rfl⟩, (fun w hw => by rw [List.mem_singleton.1 hw]; exact kpi1), (fun h => by cases h)⟩
theorem kgr1 : grF true 6 ln6 = ⟨6 + 1, [kw1], -1073741824, 0⟩ := by
  unfold grF
  rw [ksp1]
  show (⟨6 + 1, splB kw1 32, numV num1073741824, 0⟩ : GrL) = _
  rw [ksq1, kvm1073741824]
def kw2 : ByteArray := ⟨#[60, 47, 115, 62]⟩
theorem ksp2 : splB ln7 9 = [num16, kw2] := by decide +kernel
theorem ksq2 : splB kw2 32 = [kw2] := by decide +kernel
theorem kpi2 : PieceP kw2 := by unfold PieceP; decide +kernel
theorem ken2 : EntOk ((0 + 1 : Nat) : Int) true ln7 := by
  unfold EntOk
  rw [ksp2]
  show (((2 : Nat) : Int) = 2 ∧ (NumOk num16 ∧ ((splB kw2 32).length : Int) = _) ∧ (∀ w ∈ splB kw2 32, PieceP w) ∧ (true = false → _))
  rw [ksq2]
  exact ⟨rfl, ⟨kom16, rfl⟩, (fun w hw => by rw [List.mem_singleton.1 hw]; exact kpi2), (fun h => by cases h)⟩
theorem kgr2 : grF true 7 ln7 = ⟨7 + 1, [kw2], -16, 0⟩ := by
  unfold grF
  rw [ksp2]
  show (⟨7 + 1, splB kw2 32, numV num16, 0⟩ : GrL) = _
  rw [ksq2, kvm16]
theorem khead : headF kn0 0 = .ok ((4, [3]), kn4, 4) := by
  unfold headF
  rw [ka0, ka1, ka2, kb0, kb1, kcut1, kv4]
  rw [if_neg kc0, if_neg (show ¬ ln0 ≠ dataB by decide +kernel), if_neg kc1, if_neg (fun h => h ⟨khas1, ko4⟩), if_neg kc2, kb2]
  rw [cntF, if_neg (fun h => h.2 rfl), if_neg (by decide)]
  rw [show ([] : List Int).length + 1 = 1 from rfl, kngB, kcut2, kv3]
  rw [if_neg (fun h => h ⟨khas2, ko3⟩), if_neg (by decide), if_neg kc3, ka3, kb3, show kn3.size = 52 + 1 by decide +kernel, cntF, if_pos ⟨by decide +kernel, by simp⟩]
  rfl
theorem ksecF : secF ((0 + 1 : Nat) : Int) true 3 kn5 5 = .ok ([⟨6, [kw0], -16, 0⟩, ⟨7, [kw1], -1073741824, 0⟩, ⟨8, [kw2], -16, 0⟩], kn8, 8) := by
  rw [secF, if_neg kc5, kb5, if_neg (fun h => h ken0), ka5, kgr0, show (5 : Int) + 1 = 6 from rfl, secF, if_neg kc6, kb6, if_neg (fun h => h ken1), ka6, kgr1, show (6 : Int) + 1 = 7 from rfl, secF, if_neg kc7, kb7, if_neg (fun h => h ken2), ka7, kgr2, secF]
  rfl
def kgss : List (List GrL) := [[⟨6, [kw0], -16, 0⟩, ⟨7, [kw1], -1073741824, 0⟩, ⟨8, [kw2], -16, 0⟩]]
theorem kall : allF 1 [3] 0 kn4 4 = .ok (kgss, kn10, 11) := by
  rw [allF, if_neg kc4, kb4, show 0 + 1 = 1 from rfl, if_neg (fun h => h ksec.symm), ka4, show decide (((0 : Nat) : Int) = ((1 : Nat) : Int) - 1) = true by decide, show (3 : Int).toNat = 3 from rfl, show (4 : Int) + 1 = 5 from rfl]
  have h := ksecF
  rw [show 0 + 1 = 1 from rfl] at h
  rw [h]
  dsimp only
  rw [if_neg kc8, kb8, if_neg (show ¬ ln8 ≠ ⟨#[]⟩ by decide +kernel), ka8, allF, if_neg kc9, kb9, if_neg (show ¬ ln9 ≠ endB by decide +kernel), ka9, if_neg (show ¬ kn10 ≠ ⟨#[]⟩ by decide +kernel)]
  rfl
def krows : List (List EnL) := [[([0], -16, 0), ([1], -1073741824, 0), ([2], -16, 0)]]
theorem krow : rowsF (idF (kgss.getD 0 [])) kgss = .ok krows := by rfl
def kA : List (List EV) := [[((-16, 0), [0]), ((-1073741824, 0), [1]), ((-16, 0), [2])]]
theorem kofE : ofE [kw0, kw1, kw2] = 0 := ofE_ok ⟨⟨by decide, by decide +kernel⟩, by decide, fun j h1 h2 => absurd h1 (by simp at h2; omega)⟩
theorem kchk : chkA 4 [kw0, kw1, kw2] kA = 0 := by
  unfold chkA
  rw [if_neg (by decide), kofE, if_neg (fun h => h rfl)]
  decide +kernel
theorem kparse : parseF kn0 = .ok (4, [kw0, kw1, kw2], kA) := by
  unfold parseF
  rw [khead]
  dsimp only
  rw [show ([3] : List Int).length = 1 from rfl, kall]
  dsimp only
  rw [krow]
  dsimp only
  rw [show wdsF (kgss.getD 0 []) = [kw0, kw1, kw2] from rfl, show evs krows = kA from rfl, kchk, if_neg (fun h => h rfl)]
theorem kprint : printB 4 [kw0, kw1, kw2] kA = kn0 := by
  unfold printB kA
  rw [cntsB, cntsB, secsB, secsB, show 0 + 1 = 1 from rfl, kngB]
  unfold secTB
  rw [ksec, entsB, entsB, entsB, entsB]
  unfold entB
  dsimp only
  rw [ki4, kim16, kim1073741824]
  simp only [List.length_cons, List.length_nil]
  rw [show ((0 + 1 + 1 + 1 : Nat) : Int) = 3 from rfl, ki3, show wordsB [kw0, kw1, kw2] [0] = [kw0] from rfl, show wordsB [kw0, kw1, kw2] [1] = [kw1] from rfl, show wordsB [kw0, kw1, kw2] [2] = [kw2] from rfl, show joinB [kw0] spB = kw0 by decide +kernel, show joinB [kw1] spB = kw1 by decide +kernel, show joinB [kw2] spB = kw2 by decide +kernel]
  decide +kernel
def kz0 : ByteArray := ⟨#[92, 100, 97, 116, 97, 92, 10, 102, 114, 97, 99, 61, 48, 52, 10]⟩
def kz1 : ByteArray := ⟨#[102, 114, 97, 99, 61, 48, 52, 10]⟩
def kzl : ByteArray := ⟨#[102, 114, 97, 99, 61, 48, 52]⟩
def kzn : ByteArray := ⟨#[48, 52]⟩
theorem kzbad : ¬ NumOk kzn := by unfold NumOk DigP; decide +kernel
theorem kzparse : parseF kz0 = .error (2, 3) := by
  unfold parseF headF
  rw [show aftB kz0 10 = kz1 by decide +kernel, show befB kz0 10 = dataB by decide +kernel, if_neg (show ¬ ¬ 0 ≤ atB kz0 10 by decide +kernel), if_neg (fun h => h rfl), if_neg (show ¬ ¬ 0 ≤ atB kz1 10 by decide +kernel), show befB kz1 10 = kzl by decide +kernel, if_pos (fun h => kzbad (by have := h.2; rwa [show cutP kzl fracB = kzn by decide +kernel] at this))]
  rfl
end Go.Proofs.YthkhneimfjaohaaGreatDoor
namespace Go.Fw
open Go Go.RowKit
set_option linter.unusedVariables false
set_option linter.unusedSimpArgs false
def dfc (g : FuncId) (caps : List Value) : Deferred := { target := .fn (.func g) caps.toArray, args := #[] }
section
variable {P : Program}
theorem wl_defer {n m : Nat} {ops : Array Oper} {Q : Exit → Act → World → Prop} {rest : List Oper} {a : Act} {w : World} {ρ : Env} {ds : List Deferred} {t : Tmp} {g : FuncId} {caps : List Value} {ts : Array TypeId} {ty : TypeId} {pos : String} {af : Array Edge} (ha : Agree n ρ a ds) (hv : evalE ρ (.tmp t) = .func (.func g) #[] caps.toArray)
    (k : wpListIn (FR none) m P ops Q rest { a with defers := dfc g caps :: a.defers } w) : wpListIn (FR none) m P ops Q (⟨none, .defer { callee := .value (.tmp t), args := #[], argTypes := ts }, ty, pos, af, none⟩ :: rest) a w := by
  refine wpListIn_plain rfl fun K hK => ?_
  unfold Oper.wpIn
  rw [ha.eval]
  refine ⟨fun _ _ => trivial, ?_⟩
  have e : (Oper.semAt (FR none).round (evalE ρ) ⟨none, .defer { callee := .value (.tmp t), args := #[], argTypes := ts }, ty, pos, af, none⟩).run P w = .ok (.defer (dfc g caps)) w := by
    rw [show (FR none).round = none from rfl, Oper.semAt_none]
    simp [execOp, resolve, hv, Deferred.ofValue, dfc, go_sem]
  rw [e, Oper.uponIn_defer]
  exact hK _ _ k
theorem wl_mkfn {n m : Nat} {ops : Array Oper} {Q : Exit → Act → World → Prop} {rest : List Oper} {a : Act} {w : World} {ρ : Env} {ds : List Deferred} {d : Tmp} {g : FuncId} {xs : List Operand} {vs : List Value} {ty : TypeId} {pos : String} {af : Array Edge} (ha : Agree n ρ a ds) [hx : EvAll ρ xs vs] (hd : Nat.blt d n = true)
    (k : ∀ a', Agree n (put1 ρ d (.func (.func g) #[] vs.toArray)) a' ds → wpListIn (FR none) m P ops Q rest a' w) : wpListIn (FR none) m P ops Q (⟨some d, .makeFunc (.func g) #[] xs.toArray, ty, pos, af, none⟩ :: rest) a w := by
  refine wpListIn_plain rfl fun K hK => ?_
  unfold Oper.wpIn
  rw [ha.eval]
  refine ⟨fun _ _ => trivial, ?_⟩
  have e : (Oper.semAt (FR none).round (evalE ρ) ⟨some d, .makeFunc (.func g) #[] xs.toArray, ty, pos, af, none⟩).run P w = .ok (.value (.func (.func g) #[] vs.toArray)) w := by
    rw [show (FR none).round = none from rfl, Oper.semAt_none]
    simp [execOp, Instr.makeFunc, go_sem, ← hx.out]
  rw [e]
  refine hK _ _ (k _ ?_)
  have h1 : Agree n (upd n ρ d (.func (.func g) #[] vs.toArray)) (a.put (some d) (.func (.func g) #[] vs.toArray)) ds := ha.put (some d) (.func (.func g) #[] vs.toArray)
  rw [upd_put1 hd] at h1
  exact h1
theorem wl_mkdefer {n m : Nat} {ops : Array Oper} {Q : Exit → Act → World → Prop} {a : Act} {w : World} {ρ : Env} {d : Tmp} {g : FuncId} {xs : List Operand} {vs : List Value} {ty ty2 : TypeId} {pos pos2 : String} {af af2 : Array Edge} {ts : Array TypeId} (ha : Agree n ρ a []) (hm : ρ.ms = []) [hx : EvAll ρ xs vs] (hd : Nat.blt d n = true)
    (k : ∀ a', Agree n (put1 ρ d (.func (.func g) #[] vs.toArray)) a' [dfc g vs] → Q .normal a' w) : wpListIn (FR none) m P ops Q [⟨some d, .makeFunc (.func g) #[] xs.toArray, ty, pos, af, none⟩, ⟨none, .defer { callee := .value (.tmp d), args := #[], argTypes := ts }, ty2, pos2, af2, none⟩] a w := by
  refine wl_mkfn ha hd fun a' ha' => ?_
  refine wl_defer (caps := vs) (g := g) ha' ?_ ?_
  · show (put1 ρ d _) d = _
    unfold put1
    show (bif Nat.beq d d then _ else _) = _
    rw [Nat.beq_refl]; rfl
  · refine k _ ⟨ha'.sz, ha'.get, ?_⟩
    show dfc g vs :: a'.defers = marks ρ.ms ++ [dfc g vs]
    have h1 := ha'.df
    have h2 : (put1 ρ d (.func (.func g) #[] vs.toArray)).ms = ρ.ms := rfl
    rw [h2, hm] at h1
    rw [h1, hm]; rfl
def HasT (t : Array Value) : List (Nat × Value) → Prop
  | [] => True
  | (i, v) :: l => t.getD i undef = v ∧ HasT t l
theorem HasT.of {t : Array Value} {ρ : Env} (h : ∀ i, t.getD i undef = ρ i) : ∀ {l : List (Nat × Value)}, Has ρ l → HasT t l
  | [], _ => trivial
  | (i, v) :: l, hh => ⟨(h i).trans hh.1, HasT.of h hh.2⟩
theorem HasT.env {t : Array Value} : ∀ {l : List (Nat × Value)}, HasT t l → Has ⟨fun i => t.getD i undef, []⟩ l
  | [], _ => trivial
  | (i, v) :: l, hh => ⟨hh.1, hh.2.env⟩
def awayB (o : Oper) (K : List (Nat × Value)) : Bool := K.all fun p => match o.dst with | some d => !Nat.beq d p.1 | none => true
theorem HasT.put {o : Oper} {v : Value} {a : Act} : ∀ {K : List (Nat × Value)}, awayB o K = true → HasT a.tmps K → HasT (a.put o.dst v).tmps K
  | [], _, _ => trivial
  | (i, u) :: K, h, hh => by
    unfold awayB at h
    rw [List.all_cons, Bool.and_eq_true] at h
    refine ⟨?_, HasT.put (o := o) (K := K) h.2 hh.2⟩
    cases hd : o.dst with
    | none => exact hh.1
    | some d =>
      have h1 := h.1
      rw [hd] at h1
      have hne : d ≠ i := fun e => by subst e; simp at h1
      show (a.tmps.setIfInBounds d v).getD i undef = u
      rw [getD_setIfInBounds, if_neg (fun e => hne e.1.symm)]
      exact hh.1
theorem wpList_keep {F : Fence} {n : Nat} {ops : Array Oper} {K : List (Nat × Value)} {Q : Exit → Act → World → Prop} (hO : ¬ LetsOut Q) : ∀ (l : List Oper) (a : Act) (w : World), (l.all fun o => awayB o K) = true → HasT a.tmps K → wpListIn F n P ops Q l a w → wpListIn F n P ops (fun e a w => Q e a w ∧ HasT a.tmps K) l a w
  | [], a, w, _, hk, h => ⟨h, hk⟩
  | o :: l, a, w, hl, hk, h => by
    rw [List.all_cons, Bool.and_eq_true] at hl
    rw [wpListIn] at h ⊢
    have ih := fun (v : Value) (a : Act) (w : World) (hk : HasT a.tmps K) (h : wpListIn F n P ops Q l (a.put o.dst v) w) => wpList_keep hO l (a.put o.dst v) w hl.2 (HasT.put hl.1 hk) h
    split
    · rename_i hw
      rw [if_pos hw] at h
      unfold Oper.wpIn at h ⊢
      refine ⟨h.1, ?_⟩
      have h2 := h.2
      revert h2
      generalize (Oper.semAt F.round a.eval o).run P w = r
      intro h2
      cases r with
      | ok x w' =>
        cases x <;> simp only [Oper.uponIn] at h2 ⊢
        case value v => exact ih v a w' hk h2
        case skip => exact ih undef a w' hk h2
        case defer d => exact ih undef { a with defers := d :: a.defers } w' hk h2
        case enter f args =>
          refine ⟨h2.1, h2.2.mono ?_⟩
          intro e w'' he
          cases e with
          | returned v => exact ih v a w'' hk he
          | panicked c => exact ⟨he, hk⟩
          | outgrown => exact absurd he hO
        case row row args => exact ⟨h2.1, h2.2.mono fun v w'' he => ih v a w'' hk he⟩
        case round l f tmps assign body =>
          refine ⟨h2.1, h2.2.mono ?_⟩
          intro e w'' he
          cases e with
          | returned v => exact ih v a w'' hk he
          | panicked c => exact ⟨he, hk⟩
          | outgrown => exact absurd he hO
      | halt x w' => cases x <;> simp only [Oper.uponIn] at h2 ⊢ <;> exact ⟨h2, hk⟩
    · rename_i hw
      rw [if_neg hw] at h
      exact ⟨h.1, ih undef a w hk h.2⟩
def dfP (D : Deferred) (Qr : Array Value → World → Prop) (Qp : List PanicEntry → Array Value → World → Prop) : Exit → Act → World → Prop
  | .ret, a, w => a.defers = [D] ∧ Qr a.tmps w
  | .panic c, a, w => a.defers = [D] ∧ Qp c a.tmps w
  | _, _, _ => False
def dfR (Qr : Env → World → Prop) : Hnd
  | .ret, ρ, w => ρ.ms = [] ∧ Qr ρ w
  | _, _, _ => False
theorem QQ.dret {ρ : Env} {A : World → Prop} {Qr : Env → World → Prop} (h : ∀ w, A w → Qr ρ w) (hmk : ρ.ms = [] := by rfl) : QQ (dfR Qr) .ret ρ A := fun w hA => ⟨hmk, h w hA⟩
theorem wp_dfR {N : Nat} {D : Deferred} {Qr : Array Value → World → Prop} {Qr' : Env → World → Prop} {Qp : List PanicEntry → Array Value → World → Prop} {c : Code} {ρ : Env} {A : World → Prop} {a : Act} {w : World} (ha : Agree N ρ a [D]) (hA : A w) (h : WPA none P N c (dfR Qr') ρ A)
    (hr : ∀ ρ w (t : Array Value), (∀ i, t.getD i undef = ρ i) → Qr' ρ w → Qr t w) : c.wpIn (FR none) 0 P (dfP D Qr Qp) a w :=
  wpIn_mono (h (0, [D]) a w ha hA) fun e a w hq => by
    cases e with
    | ret => obtain ⟨ρ, ha, hm, hq⟩ := hq; exact ⟨by rw [ha.df, hm]; rfl, hr ρ w a.tmps ha.get hq⟩
    | normal => obtain ⟨ρ, ha, hq⟩ := hq; exact hq.elim
    | panic c => obtain ⟨ρ, ha, hq⟩ := hq; exact hq.elim
    | outgrown => exact hq.elim
    | exit id => obtain ⟨ρ, ha, hq⟩ := hq; exact hq.elim
    | goto l => obtain ⟨ρ, ha, hq⟩ := hq; exact hq.elim
def rgX (Qn : Env → World → Prop) (Qp : List PanicEntry → World → Prop) : Hnd
  | .normal, ρ, w => ρ.ms = [] ∧ Qn ρ w
  | .panic c, ρ, w => ρ.ms = [] ∧ Qp c w
  | _, _, _ => False
instance {Qn : Env → World → Prop} {Qp : List PanicEntry → World → Prop} : Pas (rgX Qn Qp) (rgX Qn Qp) := ⟨fun _ _ _ h => h⟩
theorem QQ.rthrown {ρ : Env} {A : World → Prop} {ε : Type} {pv : ε → Value} {E : ε → World → Prop} {Qn : Env → World → Prop} {c : List PanicEntry} (y : ε) (hc : c = pan1 (pv y)) (hB : ∀ w, A w → E y w) (hmk : ρ.ms = [] := by rfl) :
    QQ (rgX Qn fun c w => ∃ y, c = pan1 (pv y) ∧ E y w) (.panic c) ρ A := fun w hA => ⟨hmk, y, hc, hB w hA⟩
theorem QQ.rend {ρ : Env} {A : World → Prop} {Qn : Env → World → Prop} {Qp : List PanicEntry → World → Prop} (h : ∀ w, A w → Qn ρ w) (hmk : ρ.ms = [] := by rfl) : QQ (rgX Qn Qp) .normal ρ A := fun w hA => ⟨hmk, h w hA⟩
theorem wp_rgX {N : Nat} {D : Deferred} {Qr : Array Value → World → Prop} {Qp : List PanicEntry → Array Value → World → Prop} {Qn : Env → World → Prop} {Qp' : List PanicEntry → World → Prop} {id : Nat} {l : List Oper} {rest : Code} {ρ : Env} {A : World → Prop} {a : Act} {w : World} (K : List (Nat × Value)) (hl : (l.all fun o => awayB o K) = true)
    (ha : Agree N ρ a [D]) (hK : Has ρ K) (hA : A w) (h : WLA none P N l.toArray (rgX Qn Qp') l ρ A) (hn : ∀ ρ w a, Agree N ρ a [D] → ρ.ms = [] → Qn ρ w → rest.wpIn (FR none) 0 P (dfP D Qr Qp) a w)
    (hp : ∀ c w (t : Array Value), HasT t K → Qp' c w → Qp c t w) : ((Code.region id l.toArray false).seq rest).wpIn (FR none) 0 P (dfP D Qr Qp) a w := by
  have h1 := wpList_keep (P := P) (K := K) (ops := l.toArray) (F := FR none) (n := 0) (Q := QA N [D] (rgX Qn Qp')) (fun ⟨_, _, h⟩ => h) l a w hl (HasT.of ha.get hK) (h (0, [D]) a w ha hA)
  refine wpIn_seq (wpIn_mono (wpIn_region_lit h1) ?_)
  rintro e a w ⟨hq, hk⟩
  cases e with
  | normal => obtain ⟨ρ, ha, hm, hq⟩ := hq; exact hn ρ w a ha hm hq
  | panic c => obtain ⟨ρ, ha, hm, hq⟩ := hq; exact ⟨by rw [ha, hm]; rfl, hp c w a.tmps hk hq⟩
  | ret => obtain ⟨ρ, ha, hq⟩ := hq; exact hq.elim
  | outgrown => exact hq.elim
  | exit id => obtain ⟨ρ, ha, hq⟩ := hq; exact hq.elim
  | goto l => obtain ⟨ρ, ha, hq⟩ := hq; exact hq.elim
theorem Tr.introD {f : FuncId} {fn : Func} {c0 rest : Code} {id : Nat} {l : List Oper} {args : List Value} {A : World → Prop} {τ : Type} {val : τ → Value} {B : τ → World → Prop} {N : Nat} {δ : Type} (d : δ → Deferred) (K0 K1 : δ → Env → World → Prop) (Qr : δ → Array Value → World → Prop) (Qp : δ → List PanicEntry → Array Value → World → Prop)
    (hf : P.funcs[f]? = some fn) (hb : fn.body = some (c0.seq ((Code.region id l.toArray false).seq rest))) (hn : fn.ntmps = N) (hle : Nat.ble args.length N = true)
    (h0 : WPA none P N c0 (fun e ρ w => e = .normal ∧ ρ.ms = [] ∧ ∃ z, K0 z ρ w) (envOf args) A)
    (h1 : ∀ z ρ w a, Agree N ρ a [] → ρ.ms = [] → K0 z ρ w → ∀ Q : Exit → Act → World → Prop, (∀ ρ' a' w', Agree N ρ' a' [d z] → ρ'.ms = [] → K1 z ρ' w' → Q .normal a' w') → wpListIn (FR none) 0 P l.toArray Q l a w)
    (h2 : ∀ z ρ w a, Agree N ρ a [d z] → ρ.ms = [] → K1 z ρ w → rest.wpIn (FR none) 0 P (dfP (d z) (Qr z) (Qp z)) a w)
    (hr : ∀ z w (tmps : Array Value), Qr z tmps w → LeavesInM Fence.wide 0 P fn tmps (fun e w' => ∃ x, e = .returned (val x) ∧ B x w') [d z] .returning w)
    (hp : ∀ z c w (tmps : Array Value), Qp z c tmps w → LeavesInM Fence.wide 0 P fn tmps (fun e w' => ∃ x, e = .returned (val x) ∧ B x w') [d z] (.panicking c) w) : Tr P f args.toArray A val B := by
  intro w hA
  subst hn
  have leave : ∀ (z : δ) (e : Exit) (a : Act) (w : World), dfP (d z) (Qr z) (Qp z) e a w → bodyPostM (FR none) 0 P fn (fun e w' => ∃ x, e = .returned (val x) ∧ B x w') e a w := by
    intro z e a w hq
    cases e with
    | ret => show LeavesInM _ _ _ _ _ _ a.defers _ _; rw [hq.1]; exact hr z w a.tmps hq.2
    | panic c => show LeavesInM _ _ _ _ _ _ a.defers _ _; rw [hq.1]; exact hp z c w a.tmps hq.2
    | normal => exact hq.elim
    | outgrown => exact hq.elim
    | exit id => exact hq.elim
    | goto l => exact hq.elim
  refine callsIn_wide.1 (callsIn_of_wp_marks (n := 0) hf hb trivial (wpIn_seq (wpIn_mono (h0 (0, []) _ w ⟨?_, ?_, rfl⟩ hA) ?_)))
  · have : args.length ≤ fn.ntmps := Nat.le_of_ble_eq_true hle
    simp; omega
  · intro i
    simp only [envOf, Array.getD_eq_getD_getElem?, List.getD_eq_getElem?_getD]
    rw [Array.getElem?_append]
    split
    · rename_i hi; simp
    · rename_i hi
      have : args[i]? = none := by simp at hi; simp [hi]
      rw [this]
      rw [Array.getElem?_replicate]
      split <;> rfl
  · intro e a w1 hq
    cases e with
    | normal =>
      obtain ⟨ρ, ha, _, hm, z, hk⟩ := hq
      show ((Code.region id l.toArray false).seq rest).wpIn _ _ _ _ a w1
      refine wpIn_seq (wpIn_region_lit (h1 z ρ w1 a ha hm hk _ ?_))
      intro ρ' a' w' ha' hm' hk'
      exact wpIn_mono (h2 z ρ' w' a' ha' hm' hk') (leave z)
    | panic c => obtain ⟨ρ, _, he, _⟩ := hq; cases he
    | outgrown => exact hq.elim
    | ret => obtain ⟨ρ, _, he, _⟩ := hq; cases he
    | exit id => obtain ⟨ρ, _, he, _⟩ := hq; cases he
    | goto l => obtain ⟨ρ, _, he, _⟩ := hq; cases he
theorem wpS_walk {N : Nat} {c : Code} {ρ : Env} {fn : Func} {c₀ : Frame} {cs : List Frame} {U : FrameMode} {a : Act} {w : World} {R : World → Prop} (ha : Agree N ρ a []) (hres : fn.results = #[])
    (h : WPA none P N c (fun e ρ w => (e = .normal ∨ e = .ret) ∧ ρ.ms = [] ∧ R w) ρ (fun u => u = w)) :
    c.wpSIn Fence.wide 0 P (bodyPostS P fn c₀ cs fun e u' w' => e = .returned (.tuple #[]) ∧ u' = U ∧ R w') a ({ c₀ with mode := U } :: cs) w := by
  refine wpSIn_of_wpIn rfl (wpIn_mono (h (0, []) a w ha rfl) ?_)
  intro e a' w' hq
  have fin : ∀ ρ' : Env, Agree N ρ' a' [] → ρ'.ms = [] → R w' → a'.defers = [] ∧ ∃ u', ({ c₀ with mode := U } :: cs : List Frame) = { c₀ with mode := u' } :: cs ∧ ∃ v, (results fn a'.tmps).run P w' = .ok v w' ∧ (Ending.returned v = .returned (.tuple #[]) ∧ u' = U ∧ R w') := fun ρ' ha' hm hR =>
    ⟨by rw [ha'.df, hm]; rfl, U, rfl, _, results_none (by rw [hres]) _ _ _, rfl, rfl, hR⟩
  cases e with
  | normal => obtain ⟨ρ', ha', _, hm, hR⟩ := hq; exact fin ρ' ha' hm hR
  | ret => obtain ⟨ρ', ha', _, hm, hR⟩ := hq; exact fin ρ' ha' hm hR
  | panic x => obtain ⟨ρ', _, h1, _⟩ := hq; rcases h1 with h1 | h1 <;> cases h1
  | outgrown => exact hq.elim
  | exit id => obtain ⟨ρ', _, h1, _⟩ := hq; rcases h1 with h1 | h1 <;> cases h1
  | goto l => obtain ⟨ρ', _, h1, _⟩ := hq; rcases h1 with h1 | h1 <;> cases h1
theorem wpS_walkL {N : Nat} {c : Code} {fn : Func} {c₀ : Frame} {cs : List Frame} {U : FrameMode} {a : Act} {w : World} {R : World → Prop} (l : List (Nat × Value)) (hsz : a.tmps.size = N) (hdf : a.defers = []) (hl : Has ⟨fun i => a.tmps.getD i undef, []⟩ l) (hres : fn.results = #[])
    (h : ∀ f, WPA none P N c (fun e ρ w => (e = .normal ∨ e = .ret) ∧ ρ.ms = [] ∧ R w) (envM [] (envL l ⟨f, []⟩)) (fun u => u = w)) :
    c.wpSIn Fence.wide 0 P (bodyPostS P fn c₀ cs fun e u' w' => e = .returned (.tuple #[]) ∧ u' = U ∧ R w') a ({ c₀ with mode := U } :: cs) w := by
  have hk := h fun i => a.tmps.getD i undef
  rw [envL_has hl] at hk
  exact wpS_walk (ρ := ⟨fun i => a.tmps.getD i undef, []⟩) ⟨hsz, fun i => rfl, by rw [hdf]; rfl⟩ hres hk
end
end Go.Fw
namespace Go.Proofs.YthkhneimfjaohaaGreatDoor
open Go Go.Fw Go.RowKit
set_option linter.unusedVariables false
set_option linter.unusedSimpArgs false
set_option maxRecDepth 100000
set_option maxHeartbeats 16000000
set_option synthInstance.maxHeartbeats 200000
set_option synthInstance.maxSize 100000
attribute [local irreducible] WPA WLA WDA WDQ WDE QQ seqQ blockQ loopQ fnQ OpP OpT Tr TrP SL SLd OwnS LitS Bk BkE Ob
theorem as_yes (v : Value) (w : World) : (Instr.typeAssert (.iface 60 v) 20 60 true).run Tryz.prog w = .ok (.tuple #[v, .bool true]) w := by kernel_rfl
theorem as_nil (w : World) : (Instr.typeAssert .nilIface 20 60 true).run Tryz.prog w = .ok (.tuple #[.agg #[.int .i64 0, .int .i64 0], .bool false]) w := by kernel_rfl
theorem bk_self (b : Nat) (t : TypeId) (cs : List Value) : Bk b t cs [(b, .cells cs.toArray t (0, 0))] := by
  unfold Bk; rfl
section
variable {w0 : World} {I : Foot} {L : List HP}
theorem clo_idle {p q r : Nat} {w : World} (hw : SL w0 I L w) : CallsDIn Fence.wide 0 Tryz.prog 24 #[.pointer (some ⟨p, 0, none⟩), .pointer (some ⟨q, 0, none⟩), .pointer (some ⟨r, 0, none⟩)] .returning w fun e u' w' => e = .returned (.tuple #[]) ∧ u' = .returning ∧ SL w0 I L w' := by
  refine callsDIn_of_wpSIn Tryz.func24 rfl (by simp [Fence.wide]) fun c₀ cs hu => ?_
  have hc : c₀ = { c₀ with mode := .returning } := by cases c₀; simp_all
  rw [hc]
  clear hc
  apply wpSIn_seq
  apply wpSIn_region
  simp [wpOpsSIn, go_sem, recoverD, Tryz.ntmps24, Exit.thenS, as_nil]
  refine wpS_walkL (N := 16) [(0, .pointer (some ⟨p, 0, none⟩)), (4, .bool false)] ?_ ?_ ?_ rfl fun f => ?_
  · simp
  · rfl
  · refine ⟨?_, ?_, trivial⟩
    · simp
    · simp
  refine WPA.mono (B := SL w0 I (Bk w.heap.size 60 [.int .i64 0, .int .i64 0] :: L)) (fun u hu => by subst hu; exact hw.push _ _ (bk_self _ _ _)) ?_
  repeat' (first | ((first | refine WLA.m rfl rfl ?_ ?_ | refine WLA.st rfl ?_ ?_ | refine WLA.x rfl rfl ?_ (fun x => ?_) | refine WLA.x0 rfl ?_ (fun x => ?_)); first | exact trivial | exact rfl | assumption | omega | (refine ⟨?_, ?_⟩ <;> omega) | (simp only [Room, lenS]; omega) | decide | skip) | (refine Stp.go ?_) | (refine WPA.ifT ?_) | (refine WPA.ifF ?_) | ((first | refine WPA.dec ?_); first | refine .inl ⟨by first | assumption | omega | with_reducible rfl | (refine fun h => h ?_; first | assumption | with_reducible rfl) | (simp only [lenS] <;> omega) | decide, ?_⟩ | refine .inr ⟨by first | assumption | omega | with_reducible rfl | (refine fun h => h ?_; first | assumption | with_reducible rfl) | (simp only [lenS] <;> omega) | decide, ?_⟩) | ((first | refine WPA.ifBt ?_ ?_ | refine WPA.ifBnf ?_ ?_); assumption) | ((first | refine WPA.ifBnt ?_ ?_ | refine WPA.ifBf ?_ ?_); assumption) | ((first | refine WPA.ifs ?_ ?_ | refine WPA.ifB ?_ ?_) <;> intro hc))
  unfold QQ
  exact fun w h => ⟨.inl rfl, rfl, Ent.drop1.sl h⟩
theorem clo_caught {p q r : Nat} {w : World} {y : Int × Int} {a0 b0 c0 : Value} {l0 e0 : Int} (hw : SL w0 I (Bk p 25 [a0, b0, c0] :: Bk q 3 [.int .i64 l0] :: Bk r 28 [.int .i64 e0] :: L) w) :
    CallsDIn Fence.wide 0 Tryz.prog 24 #[.pointer (some ⟨p, 0, none⟩), .pointer (some ⟨q, 0, none⟩), .pointer (some ⟨r, 0, none⟩)] (.panicking (pan1 (wrV y))) w fun e u' w' => e = .returned (.tuple #[]) ∧ u' = .panicking [{ v := wrV y, recovered := true }] ∧ SL w0 I (Bk p 25 [.int .i64 0, .slice none 0 0, .slice none 0 0] :: Bk q 3 [.int .i64 y.1] :: Bk r 28 [.int .i64 y.2] :: L) w' := by
  refine callsDIn_of_wpSIn Tryz.func24 rfl (by simp [Fence.wide]) fun c₀ cs hu => ?_
  unfold pan1 at hu
  apply wpSIn_seq
  apply wpSIn_region
  simp [wpOpsSIn, go_sem, recoverD, hu, Tryz.ntmps24, Exit.thenS, as_yes, wrV]
  refine wpS_walkL (N := 16) [(0, .pointer (some ⟨p, 0, none⟩)), (1, .pointer (some ⟨q, 0, none⟩)), (2, .pointer (some ⟨r, 0, none⟩)), (3, .pointer (some ⟨w.heap.size, 0, none⟩)), (4, .bool true)] ?_ ?_ ?_ rfl fun f => ?_
  · simp
  · rfl
  · refine ⟨?_, ?_, ?_, ?_, ?_, trivial⟩ <;> simp
  refine WPA.mono (B := SL w0 I (Bk w.heap.size 60 [.int .i64 y.1, .int .i64 y.2] :: Bk p 25 [a0, b0, c0] :: Bk q 3 [.int .i64 l0] :: Bk r 28 [.int .i64 e0] :: L)) (fun u hu => by subst hu; exact hw.push _ _ (bk_self _ _ _)) ?_
  refine WPA.freezeBk (b := w.heap.size) ?_
  repeat' (first | ((first | refine WLA.m rfl rfl ?_ ?_ | refine WDQ.m rfl rfl ?_ ?_ | refine WDP.m rfl rfl ?_ ?_ | refine WLA.st rfl ?_ ?_ | refine WLA.x rfl rfl ?_ (fun x => ?_) | refine WLA.x0 rfl ?_ (fun x => ?_) | refine WDW.x rfl rfl ?_ (fun x => ?_) | refine WDW.st rfl ?_ ?_); first | exact trivial | exact rfl | assumption | omega | (refine ⟨?_, ?_⟩ <;> omega) | (simp only [Room, lenS]; omega) | decide | skip) | (refine Stp.go ?_) | (refine WPA.ifT ?_) | (refine WPA.ifF ?_) | ((first | refine WPA.dec ?_); first | refine .inl ⟨by first | assumption | omega | with_reducible rfl | (refine fun h => h ?_; first | assumption | with_reducible rfl) | (simp only [lenS] <;> omega) | decide, ?_⟩ | refine .inr ⟨by first | assumption | omega | with_reducible rfl | (refine fun h => h ?_; first | assumption | with_reducible rfl) | (simp only [lenS] <;> omega) | decide, ?_⟩) | ((first | refine WPA.ifBt ?_ ?_ | refine WPA.ifBnf ?_ ?_); assumption) | ((first | refine WPA.ifBnt ?_ ?_ | refine WPA.ifBf ?_ ?_); assumption) | ((first | refine WPA.ifs ?_ ?_ | refine WPA.ifB ?_ ?_) <;> intro hc) | (guard_target =~ WPA _ _ _ (.region 2 _ true) _ _ _; refine WPA.drawT 7 (.p 0 (.p 1 (.p 2 (.p 3 (.p 4 (.w 5 (.w 6 .fin))))))) mixed ?_ ?_; kernel_rfl) | (refine WDA.finish (tl := [⟨_, _, _, _, _, _⟩]) rfl ?_) | (refine WDQ.see rfl ?_) | (refine WDP.see rfl ?_) | (refine WDW.see rfl ?_))
  unfold QQ
  exact fun w h => ⟨.inl rfl, rfl, h.unI.to⟩
end
end Go.Proofs.YthkhneimfjaohaaGreatDoor
namespace Go.Proofs.YthkhneimfjaohaaGreatDoor
open Go Go.Fw Go.RowKit
set_option linter.unusedVariables false
set_option linter.unusedSimpArgs false
set_option maxRecDepth 100000
set_option maxHeartbeats 16000000
set_option synthInstance.maxHeartbeats 200000
set_option synthInstance.maxSize 100000
attribute [local irreducible] WPA WLA WDA WDQ WDE QQ seqQ blockQ loopQ fnQ OpP OpT Tr TrP SL SLd OwnS LitS Bk BkE Ob
attribute [local irreducible] fnX TrX TblH VocH EntOk
abbrev Res3 (z : Nat × Nat × Nat) (m : List Value) (l e : Int) (L : List HP) : List HP := Bk z.1 25 m :: Bk z.2.1 3 [.int .i64 l] :: Bk z.2.2 28 [.int .i64 e] :: L
section
variable {L : List HP} {w0 : World} {I : Foot}
theorem all_trS {P : Nat} {s : ByteArray} {n : Int} {L' : List HP} {cv : SV} {cs : List Int} [h : FindK L PsH P (s, n) L'] [hcs : SlI I cv Int inferInstance cs] (hsz : 0 ≤ n ∧ n + s.size ≤ 999990) (hc : cs.length ≤ 8) (hc0 : ∀ c ∈ cs, 0 ≤ c) :
    TrX Tryz.prog 27 #[.pointer (some ⟨P, 0, none⟩), .slice cv.a cv.n cv.cap] (SL w0 I L)
      (fun x : { x : SV × List SV × List (List GrL) × (ByteArray × Int) × Foot // (allF cs.length cs 0 s n = .ok (x.2.2.1, x.2.2.2.1) ∧ x.2.1.length = x.2.2.1.length ∧ ∀ j : Nat, j < x.2.2.1.length → RowG (x.2.2.2.2 ++ I) (at_ x.2.1 (j : Int)) (x.2.2.1.getD j [])) ∧ SlI (x.2.2.2.2 ++ I) x.1 SV inferInstance x.2.1 } => .slice x.1.1.a x.1.1.n x.1.1.cap)
      (fun x => SL w0 (x.1.2.2.2.2 ++ I) (PsH P x.1.2.2.2.1 :: L'))
      (fun y : { y : Int × Int // allF cs.length cs 0 s n = .error y } => wrV y.1) (fun _ => SL w0 I L') := by
  refine (all_trX hsz hc hc0).conv (fun w hw => hw) (fun x w hw => ?_) (fun y w hw => ⟨y, rfl, hw⟩)
  obtain ⟨⟨h1, h2, h3, h4⟩, h5⟩ := hw
  obtain ⟨R, hR, h6⟩ := h5.freeze
  have q := SlI.ofOwn hR
  have s1 : SubI ((R ++ x.2.2.2.2) ++ I) x.2.2.2.2 := ⟨fun z hz => List.mem_append_left _ (List.mem_append_right _ hz)⟩
  have s2 : SubI ((R ++ x.2.2.2.2) ++ I) R := ⟨fun z hz => List.mem_append_left _ (List.mem_append_left _ hz)⟩
  exact ⟨⟨⟨x.1, x.2.1, x.2.2.1, x.2.2.2.1, R ++ x.2.2.2.2⟩, ⟨h1, h3, fun j hj => (h4 j hj).sub s1⟩, q.sub (hs := s2)⟩, rfl, h6.sub fun z hz => by
    rcases List.mem_append.1 hz with hz | hz
    · exact hz
    · exact List.mem_append_right _ (h2.out hz)⟩
theorem told_trS {av : SV} {vs : List SV} {gss : List (List GrL)} {fr : Int} [hav : SlI I av SV inferInstance vs] (hvl : vs.length = gss.length) (hpos : 0 < gss.length) (hrow : ∀ j : Nat, j < gss.length → RowG I (at_ vs (j : Int)) (gss.getD j [])) (hgl : gss.length ≤ 8) (hwl0 : ∀ r ∈ gss, ∀ g ∈ r, g.words.length ≤ 1000001) (hlen : ∀ r ∈ gss, r.length ≤ 1000000) (hw1 : ∀ g ∈ gss.getD 0 [], 0 < g.words.length) :
    TrX Tryz.prog 26 #[.int .i64 fr, .slice av.a av.n av.cap] (SL w0 I L)
      (fun x : { x : SV × SV × List (List EnL) × Foot // rowsF (idF (gss.getD 0 [])) gss = .ok x.2.2.1 ∧ MdL (x.2.2.2 ++ I) x.1 x.2.1 (wdsF (gss.getD 0 [])) (evs x.2.2.1) } => .agg #[.int .i64 fr, .slice x.1.1.a x.1.1.n x.1.1.cap, .slice x.1.2.1.a x.1.2.1.n x.1.2.1.cap])
      (fun x => SL w0 (x.1.2.2.2 ++ I) L)
      (fun y : { y : Int × Int // rowsF (idF (gss.getD 0 [])) gss = .error y } => wrV y.1) (fun _ => SL w0 I L) := by
  refine (told_trX hvl hpos hrow hgl hwl0 hlen hw1).conv (fun w hw => hw) (fun x w hw => ?_) (fun y w hw => ⟨y, rfl, hw⟩)
  obtain ⟨⟨h1, h2, h3, h3a, h4⟩, h5⟩ := hw
  obtain ⟨R, hR, h6⟩ := h5.freeze
  have q := SlI.ofOwn hR
  have s1 : SubI ((R ++ x.2.2.2.2) ++ I) x.2.2.2.2 := ⟨fun z hz => List.mem_append_left _ (List.mem_append_right _ hz)⟩
  have s2 : SubI ((R ++ x.2.2.2.2) ++ I) R := ⟨fun z hz => List.mem_append_left _ (List.mem_append_left _ hz)⟩
  refine ⟨⟨⟨x.1, x.2.1, x.2.2.2.1, R ++ x.2.2.2.2⟩, h1, h3.sub (hs := s1), x.2.2.1, q.sub (hs := s2), by unfold evs; rw [List.length_map, h3a], fun k hk => ?_⟩, rfl, h6.sub fun z hz => by
    rcases List.mem_append.1 hz with hz | hz
    · exact hz
    · exact List.mem_append_right _ (h2.out hz)⟩
  unfold evs at hk ⊢
  rw [List.length_map] at hk
  have := (h4 k hk).lst.sub s1
  rw [List.getD_eq_getElem?_getD, List.getElem?_eq_getElem hk] at this
  rw [List.getD_eq_getElem?_getD, List.getElem?_map, List.getElem?_eq_getElem hk]
  exact this
theorem MdL.nil : MdL I SV.nil SV.nil [] [] := ⟨SlI.nil, [], SlI.nil, rfl, fun k hk => absurd hk (Nat.not_lt_zero k)⟩
theorem clo_invoke {p q r : Nat} {w : World} : (invoke (dfc 24 [.pointer (some ⟨p, 0, none⟩), .pointer (some ⟨q, 0, none⟩), .pointer (some ⟨r, 0, none⟩)]).target (dfc 24 [.pointer (some ⟨p, 0, none⟩), .pointer (some ⟨q, 0, none⟩), .pointer (some ⟨r, 0, none⟩)]).args).run Tryz.prog w = .ok (.enter 24 #[.pointer (some ⟨p, 0, none⟩), .pointer (some ⟨q, 0, none⟩), .pointer (some ⟨r, 0, none⟩)]) w := by
  have h : Callb Tryz.prog 24 := inferInstance
  simp [dfc, invoke, run_callFunc h.out, go_sem]
theorem leave3 {p q r : Nat} {tmps : Array Value} {w : World} {J : Foot} {a b c : Value} {l e : Int} (hH : HasT tmps [(2, .pointer (some ⟨p, 0, none⟩)), (3, .pointer (some ⟨q, 0, none⟩)), (4, .pointer (some ⟨r, 0, none⟩))])
    (hw : SL w0 J (Res3 (p, q, r) [a, b, c] l e L) w) : (results Tryz.f10 tmps).run Tryz.prog w = .ok (.tuple #[.agg #[a, b, c], .int .i64 l, .int .i64 e]) w := by
  have hr : EvC Tryz.prog (envL [(2, .pointer (some ⟨p, 0, none⟩)), (3, .pointer (some ⟨q, 0, none⟩)), (4, .pointer (some ⟨r, 0, none⟩))] ⟨fun i => tmps.getD i undef, []⟩) (Bk p 25 [a, b, c] :: Bk q 3 [.int .i64 l] :: Bk r 28 [.int .i64 e] :: L) [.cell 2 25, .cell 3 3, .cell 4 28] [.agg #[a, b, c], .int .i64 l, .int .i64 e] := inferInstance
  exact hr.results (v := .tuple #[.agg #[a, b, c], .int .i64 l, .int .i64 e]) inferInstance rfl hw tmps (by rw [envL_has hH.env]; exact fun i => rfl)
theorem env_has {f : Nat → Value} {ms : List Nat} {l : List (Nat × Value)} (hm : ms = []) (h : Has ⟨f, ms⟩ l) : (⟨f, ms⟩ : Env) = envM [] (envL l ⟨f, []⟩) := by subst hm; rw [envL_has h]; rfl
abbrev Slt3 (z : Nat × Nat × Nat) (l : List (Nat × Value)) : List (Nat × Value) := (2, .pointer (some ⟨z.1, 0, none⟩)) :: (3, .pointer (some ⟨z.2.1, 0, none⟩)) :: (4, .pointer (some ⟨z.2.2, 0, none⟩)) :: l
theorem Parse_tr {s : ByteArray} (hs : s.size ≤ 999990) : Tr Tryz.prog 10 #[.string s] (SL w0 I L)
    (fun x : SV × SV × Foot => .tuple #[.agg #[.int .i64 (prF (parseF s)), .slice x.1.a x.1.n x.1.cap, .slice x.2.1.a x.2.1.n x.2.1.cap], .int .i64 (prY (parseF s)).1, .int .i64 (prY (parseF s)).2])
    (fun x w => (SubI x.2.2 I ∧ MdL x.2.2 x.1 x.2.1 (prW (parseF s)) (prA (parseF s))) ∧ SL w0 x.2.2 L w) := by
  refine Tr.introD (P := Tryz.prog) (δ := Nat × Nat × Nat) (args := [.string s]) (fun z => dfc 24 [.pointer (some ⟨z.1, 0, none⟩), .pointer (some ⟨z.2.1, 0, none⟩), .pointer (some ⟨z.2.2, 0, none⟩)])
    (fun z ρ w => Has ρ (Slt3 z [(0, .string s)]) ∧ SL w0 I (Res3 z [.int .i64 0, .slice none 0 0, .slice none 0 0] 0 0 L) w)
    (fun z ρ w => Has ρ (Slt3 z [(0, .string s)]) ∧ SL w0 I (Res3 z [.int .i64 0, .slice none 0 0, .slice none 0 0] 0 0 L) w)
    (fun z t w => HasT t (Slt3 z []) ∧ ∃ x : SV × SV × Foot, (SubI x.2.2 I ∧ MdL x.2.2 x.1 x.2.1 (prW (parseF s)) (prA (parseF s))) ∧ SL w0 x.2.2 (Res3 z [.int .i64 (prF (parseF s)), .slice x.1.a x.1.n x.1.cap, .slice x.2.1.a x.2.1.n x.2.1.cap] (prY (parseF s)).1 (prY (parseF s)).2 L) w)
    (fun z c t w => HasT t (Slt3 z []) ∧ ∃ y : { y : Int × Int // parseF s = .error y }, c = pan1 (wrV y.1) ∧ SL w0 I (Res3 z [.int .i64 0, .slice none 0 0, .slice none 0 0] 0 0 L) w)
    Tryz.func10 rfl Tryz.ntmps10 rfl ?_ ?_ ?_ ?_ ?_
  · skip
    repeat' (first | ((first | refine WLA.m rfl rfl ?_ ?_ | refine WLA.st rfl ?_ ?_ | refine WLA.x rfl rfl ?_ (fun x => ?_) | refine WLA.x0 rfl ?_ (fun x => ?_)); first | exact trivial | exact rfl | assumption | omega | (refine ⟨?_, ?_⟩ <;> omega) | (simp only [Room, lenS]; omega) | decide | skip) | (refine Stp.go ?_) | (refine WPA.ifT ?_) | (refine WPA.ifF ?_) | ((first | refine WPA.dec ?_); first | refine .inl ⟨by first | assumption | omega | with_reducible rfl | (refine fun h => h ?_; first | assumption | with_reducible rfl) | (simp only [lenS] <;> omega) | decide, ?_⟩ | refine .inr ⟨by first | assumption | omega | with_reducible rfl | (refine fun h => h ?_; first | assumption | with_reducible rfl) | (simp only [lenS] <;> omega) | decide, ?_⟩) | ((first | refine WPA.ifBt ?_ ?_ | refine WPA.ifBnf ?_ ?_); assumption) | ((first | refine WPA.ifBnt ?_ ?_ | refine WPA.ifBf ?_ ?_); assumption) | ((first | refine WPA.ifs ?_ ?_ | refine WPA.ifB ?_ ?_) <;> intro hc))
    revert x; intro r; revert x; intro q; revert x; intro p
    unfold QQ
    exact fun w h => ⟨rfl, rfl, (p, q, r), ⟨rfl, rfl, rfl, rfl, trivial⟩, h.to⟩
  · rintro z ρ w a ha hm ⟨hH, hw⟩ Q hQ
    rw [← envL_has hH] at ha hm
    exact wl_mkdefer ha hm rfl fun a' ha' => hQ _ a' w ha' hm ⟨⟨rfl, rfl, rfl, rfl, trivial⟩, hw⟩
  · rintro ⟨p, q, r⟩ ⟨f, ms⟩ w a ha hm ⟨hH, hw⟩
    rw [env_has hm hH] at ha
    clear hm hH
    refine wp_rgX (Slt3 (p, q, r) []) rfl ha ⟨rfl, rfl, rfl, trivial⟩ hw (Qn := fun ρ w => ∃ t, Has ρ (Slt3 (p, q, r) [(5, .pointer (some ⟨t, 0, none⟩))]) ∧ SL w0 I (PsH t (s, 0) :: Res3 (p, q, r) [.int .i64 0, .slice none 0 0, .slice none 0 0] 0 0 L) w) (Qp' := fun c w => ∃ y : { y : Int × Int // parseF s = .error y }, c = pan1 (wrV y.1) ∧ SL w0 I (Res3 (p, q, r) [.int .i64 0, .slice none 0 0, .slice none 0 0] 0 0 L) w) ?_ ?_ (fun c w t h1 h2 => ⟨h1, h2⟩)
    · unfold Res3 Slt3
      dsimp only
      repeat' (first | ((first | refine WLA.m rfl rfl ?_ ?_ | refine WLA.st rfl ?_ ?_ | refine WLA.x rfl rfl ?_ (fun x => ?_) | refine WLA.x0 rfl ?_ (fun x => ?_)); first | exact trivial | exact rfl | assumption | omega | (refine ⟨?_, ?_⟩ <;> omega) | (simp only [Room, lenS]; omega) | decide | skip) | (refine Stp.go ?_) | (refine WPA.ifT ?_) | (refine WPA.ifF ?_) | ((first | refine WPA.dec ?_); first | refine .inl ⟨by first | assumption | omega | with_reducible rfl | (refine fun h => h ?_; first | assumption | with_reducible rfl) | (simp only [lenS] <;> omega) | decide, ?_⟩ | refine .inr ⟨by first | assumption | omega | with_reducible rfl | (refine fun h => h ?_; first | assumption | with_reducible rfl) | (simp only [lenS] <;> omega) | decide, ?_⟩) | ((first | refine WPA.ifBt ?_ ?_ | refine WPA.ifBnf ?_ ?_); assumption) | ((first | refine WPA.ifBnt ?_ ?_ | refine WPA.ifBf ?_ ?_); assumption) | ((first | refine WPA.ifs ?_ ?_ | refine WPA.ifB ?_ ?_) <;> intro hc))
      revert x; intro t
      exact QQ.rend fun w h => ⟨t, ⟨rfl, rfl, rfl, rfl, trivial⟩, h⟩
    clear ha hw
    rintro ⟨f, ms⟩ w a ha hm ⟨t, hH, hw⟩
    rw [env_has hm hH] at ha
    clear hm hH
    refine wp_rgX (Slt3 (p, q, r) []) rfl ha ⟨rfl, rfl, rfl, trivial⟩ hw (Qn := fun ρ w => ∃ (fr : Int) (cs : List Int) (cv : SV) (s1 : ByteArray) (n1 : Int) (R : Foot), headF s 0 = .ok ((fr, cs), s1, n1) ∧ SlI (R ++ I) cv Int inferInstance cs ∧ Has ρ (Slt3 (p, q, r) [(5, .pointer (some ⟨t, 0, none⟩)), (6, .int .i64 fr), (7, .slice cv.a cv.n cv.cap)]) ∧ SL w0 (R ++ I) (PsH t (s1, n1) :: Res3 (p, q, r) [.int .i64 0, .slice none 0 0, .slice none 0 0] 0 0 L) w) (Qp' := fun c w => ∃ y : { y : Int × Int // parseF s = .error y }, c = pan1 (wrV y.1) ∧ SL w0 I (Res3 (p, q, r) [.int .i64 0, .slice none 0 0, .slice none 0 0] 0 0 L) w) ?_ ?_ (fun c w t h1 h2 => ⟨h1, h2⟩)
    · unfold Res3 Slt3
      dsimp only
      repeat' (first | ((first | refine WLA.m rfl rfl ?_ ?_ | refine WLA.st rfl ?_ ?_ | refine WLA.x rfl rfl ?_ (fun x => ?_) | refine WLA.x0 rfl ?_ (fun x => ?_)); first | exact trivial | exact rfl | assumption | omega | (refine ⟨?_, ?_⟩ <;> omega) | (simp only [Room, lenS]; omega) | decide | skip) | (refine Stp.go ?_) | (guard_target =~ WLA _ _ _ _ _ (⟨_, .call ⟨.value (.func 25), _, _⟩, _, _, _, _⟩ :: _) _ _; first | (refine WLA.callX rfl rfl (head_trX ⟨by omega, by omega⟩) (by intro y; refine QQ.thrw ?_; exact QQ.rthrown ⟨y.1, by unfold parseF; simp only [y.2]⟩ rfl fun w h => h.to) ?_; rintro ⟨⟨⟨fr, cs⟩, cv, s1, n1⟩, hh⟩) | (refine WLA.callX0 rfl (head_trX ⟨by omega, by omega⟩) (by intro y; refine QQ.thrw ?_; exact QQ.rthrown ⟨y.1, by unfold parseF; simp only [y.2]⟩ rfl fun w h => h.to) ?_; rintro ⟨⟨⟨fr, cs⟩, cv, s1, n1⟩, hh⟩)) | (refine WPA.ifT ?_) | (refine WPA.ifF ?_) | ((first | refine WPA.dec ?_); first | refine .inl ⟨by first | assumption | omega | with_reducible rfl | (refine fun h => h ?_; first | assumption | with_reducible rfl) | (simp only [lenS] <;> omega) | decide, ?_⟩ | refine .inr ⟨by first | assumption | omega | with_reducible rfl | (refine fun h => h ?_; first | assumption | with_reducible rfl) | (simp only [lenS] <;> omega) | decide, ?_⟩) | ((first | refine WPA.ifBt ?_ ?_ | refine WPA.ifBnf ?_ ?_); assumption) | ((first | refine WPA.ifBnt ?_ ?_ | refine WPA.ifBf ?_ ?_); assumption) | ((first | refine WPA.ifs ?_ ?_ | refine WPA.ifB ?_ ?_) <;> intro hc))
      dsimp only at hh ⊢
      refine QQ.freeze fun R hR => ?_
      exact QQ.rend fun w h => ⟨fr, cs, cv, s1, n1, R, hh, by have := SlI.ofOwn hR; infer_instance, ⟨rfl, rfl, rfl, rfl, rfl, rfl, trivial⟩, h⟩
    clear ha hw
    rintro ⟨f, ms⟩ w a ha hm ⟨fr, cs, cv, s1, n1, R, hh, hcv, hH, hw⟩
    rw [env_has hm hH] at ha
    clear hm hH
    obtain ⟨⟨c1, c2, c3⟩, c4, c5⟩ := headF_ok hh
    dsimp only at c1 c2 c3
    refine wp_rgX (Slt3 (p, q, r) []) rfl ha ⟨rfl, rfl, rfl, trivial⟩ hw (Qn := fun ρ w => ∃ (gss : List (List GrL)) (s2 : ByteArray) (n2 : Int) (wv gv : SV) (rows : List (List EnL)) (R3 : Foot), allF cs.length cs 0 s1 n1 = .ok (gss, s2, n2) ∧ rowsF (idF (gss.getD 0 [])) gss = .ok rows ∧ MdL (R3 ++ I) wv gv (wdsF (gss.getD 0 [])) (evs rows) ∧ Has ρ (Slt3 (p, q, r) []) ∧ SL w0 (R3 ++ I) (Res3 (p, q, r) [.int .i64 fr, .slice wv.a wv.n wv.cap, .slice gv.a gv.n gv.cap] 0 0 L) w) (Qp' := fun c w => ∃ y : { y : Int × Int // parseF s = .error y }, c = pan1 (wrV y.1) ∧ SL w0 I (Res3 (p, q, r) [.int .i64 0, .slice none 0 0, .slice none 0 0] 0 0 L) w) ?_ ?_ (fun c w t h1 h2 => ⟨h1, h2⟩)
    · unfold Res3 Slt3
      dsimp only
      repeat' (first | ((first | refine WLA.m rfl rfl ?_ ?_ | refine WLA.st rfl ?_ ?_ | refine WLA.x rfl rfl ?_ (fun x => ?_) | refine WLA.x0 rfl ?_ (fun x => ?_)); first | exact trivial | exact rfl | assumption | omega | (refine ⟨?_, ?_⟩ <;> omega) | (simp only [Room, lenS]; omega) | decide | skip) | (refine Stp.go ?_) | (guard_target =~ WLA _ _ _ _ _ (⟨_, .call ⟨.value (.func 27), _, _⟩, _, _, _, _⟩ :: _) _ _; first | (refine WLA.callX rfl rfl (all_trS ⟨by omega, by omega⟩ c2 c3) (by intro y; refine QQ.thrw ?_; exact QQ.rthrown ⟨y.1, by unfold parseF; simp only [hh, y.2]⟩ rfl fun w h => (SL.unI h).to) ?_; rintro ⟨⟨av, vs, gss, ⟨s2, n2⟩, R2⟩, ⟨ha1, ha2, ha3⟩, hav⟩) | (refine WLA.callX0 rfl (all_trS ⟨by omega, by omega⟩ c2 c3) (by intro y; refine QQ.thrw ?_; exact QQ.rthrown ⟨y.1, by unfold parseF; simp only [hh, y.2]⟩ rfl fun w h => (SL.unI h).to) ?_; rintro ⟨⟨av, vs, gss, ⟨s2, n2⟩, R2⟩, ⟨ha1, ha2, ha3⟩, hav⟩)) | (refine WPA.ifT ?_) | (refine WPA.ifF ?_) | ((first | refine WPA.dec ?_); first | refine .inl ⟨by first | assumption | omega | with_reducible rfl | (refine fun h => h ?_; first | assumption | with_reducible rfl) | (simp only [lenS] <;> omega) | decide, ?_⟩ | refine .inr ⟨by first | assumption | omega | with_reducible rfl | (refine fun h => h ?_; first | assumption | with_reducible rfl) | (simp only [lenS] <;> omega) | decide, ?_⟩) | ((first | refine WPA.ifBt ?_ ?_ | refine WPA.ifBnf ?_ ?_); assumption) | ((first | refine WPA.ifBnt ?_ ?_ | refine WPA.ifBf ?_ ?_); assumption) | ((first | refine WPA.ifs ?_ ?_ | refine WPA.ifB ?_ ?_) <;> intro hc))
      dsimp only at ha1 ha2 ha3 hav ⊢
      obtain ⟨b1, b2⟩ := allF_ok _ _ _ _ _ _ _ _ ha1
      have hpos : 0 < gss.length := by rw [b1]; exact List.length_pos_iff.2 c1
      have hm : gss.getD 0 [] ∈ gss := by rw [List.getD_eq_getElem?_getD, List.getElem?_eq_getElem hpos]; exact List.getElem_mem _
      have htold := fun {L : List HP} => told_trS (w0 := w0) (I := R2 ++ (R ++ I)) (L := L) (av := av) (vs := vs) (gss := gss) (fr := fr) ha2 hpos ha3 (by omega) (fun r hr g hg => by have := ((b2 r hr).2 g hg).top; omega) (fun r hr => by have := (b2 r hr).1; omega) (fun g hg => ((b2 _ hm).2 g hg).low)
      repeat' (first | ((first | refine WLA.m rfl rfl ?_ ?_ | refine WLA.st rfl ?_ ?_ | refine WLA.x rfl rfl ?_ (fun x => ?_) | refine WLA.x0 rfl ?_ (fun x => ?_)); first | exact trivial | exact rfl | assumption | omega | (refine ⟨?_, ?_⟩ <;> omega) | (simp only [Room, lenS]; omega) | decide | skip) | (refine Stp.go ?_) | (guard_target =~ WLA _ _ _ _ _ (⟨_, .call ⟨.value (.func 26), _, _⟩, _, _, _, _⟩ :: _) _ _; first | (refine WLA.callX rfl rfl (htold) (by intro y; refine QQ.thrw ?_; exact QQ.rthrown ⟨y.1, by unfold parseF; simp only [hh, ha1, y.2]⟩ rfl fun w h => (SL.unI (SL.unI h)).to) ?_; rintro ⟨⟨wv, gv, rows, R3⟩, hr1, hM⟩) | (refine WLA.callX0 rfl (htold) (by intro y; refine QQ.thrw ?_; exact QQ.rthrown ⟨y.1, by unfold parseF; simp only [hh, ha1, y.2]⟩ rfl fun w h => (SL.unI (SL.unI h)).to) ?_; rintro ⟨⟨wv, gv, rows, R3⟩, hr1, hM⟩)) | (refine WPA.ifT ?_) | (refine WPA.ifF ?_) | ((first | refine WPA.dec ?_); first | refine .inl ⟨by first | assumption | omega | with_reducible rfl | (refine fun h => h ?_; first | assumption | with_reducible rfl) | (simp only [lenS] <;> omega) | decide, ?_⟩ | refine .inr ⟨by first | assumption | omega | with_reducible rfl | (refine fun h => h ?_; first | assumption | with_reducible rfl) | (simp only [lenS] <;> omega) | decide, ?_⟩) | ((first | refine WPA.ifBt ?_ ?_ | refine WPA.ifBnf ?_ ?_); assumption) | ((first | refine WPA.ifBnt ?_ ?_ | refine WPA.ifBf ?_ ?_); assumption) | ((first | refine WPA.ifs ?_ ?_ | refine WPA.ifB ?_ ?_) <;> intro hc))
      dsimp only at hr1 hM ⊢
      refine QQ.rend fun w h => ⟨gss, s2, n2, wv, gv, rows, R3 ++ (R2 ++ R), ha1, hr1, hM.sub ⟨fun z hz => ?_⟩, ⟨rfl, rfl, rfl, trivial⟩, (h.sub fun z hz => ?_).to⟩
      · simpa [List.append_assoc] using hz
      · simpa [List.append_assoc] using hz
    clear ha hw
    rintro ⟨f, ms⟩ w a ha hm ⟨gss, s2, n2, wv, gv, rows, R3, ha1, hr1, hM, hH, hw⟩
    rw [env_has hm hH] at ha
    clear hm hH
    obtain ⟨d1, d2, d3, d4⟩ := told_few (by omega) hh ha1 hr1
    have hp : parseF s = if chkA fr (wdsF (gss.getD 0 [])) (evs rows) ≠ 0 then .error (0, chkA fr (wdsF (gss.getD 0 [])) (evs rows)) else .ok (fr, wdsF (gss.getD 0 []), evs rows) := by unfold parseF; simp only [hh, ha1, hr1]
    have hchk := fun {L : List HP} => CheckA_tr (w0 := w0) (L := L) (fr := fr) hM d1 d2 d3 d4
    have hsub : SubI (R3 ++ I) I := inferInstance
    generalize chkA fr (wdsF (gss.getD 0 [])) (evs rows) = e at hp hchk
    refine wp_dfR (Qr' := fun ρ w => Has ρ (Slt3 (p, q, r) []) ∧ ∃ x : SV × SV × Foot, (SubI x.2.2 I ∧ MdL x.2.2 x.1 x.2.1 (prW (parseF s)) (prA (parseF s))) ∧ SL w0 x.2.2 (Res3 (p, q, r) [.int .i64 (prF (parseF s)), .slice x.1.a x.1.n x.1.cap, .slice x.2.1.a x.2.1.n x.2.1.cap] (prY (parseF s)).1 (prY (parseF s)).2 L) w) ha hw ?_ (fun ρ w t h1 h2 => ⟨HasT.of h1 h2.1, h2.2⟩)
    unfold Res3 Slt3
    dsimp only
    repeat' ((fail_if_success (guard_target =~ WPA _ _ _ (.region 6 _ _) _ _ _)); first | ((first | refine WLA.m rfl rfl ?_ ?_ | refine WLA.st rfl ?_ ?_ | refine WLA.x rfl rfl ?_ (fun x => ?_) | refine WLA.x0 rfl ?_ (fun x => ?_)); first | exact trivial | exact rfl | assumption | omega | (refine ⟨?_, ?_⟩ <;> omega) | (simp only [Room, lenS]; omega) | decide | skip) | (refine Stp.go ?_) | (guard_target =~ WLA _ _ _ _ _ (⟨_, .call ⟨.value (.func 15), _, _⟩, _, _, _, _⟩ :: _) _ _; refine WLA.call rfl rfl (hchk) ?_; rintro ⟨⟩) | (refine WPA.ifT ?_) | (refine WPA.ifF ?_) | ((first | refine WPA.dec ?_); first | refine .inl ⟨by first | assumption | omega | with_reducible rfl | (refine fun h => h ?_; first | assumption | with_reducible rfl) | (simp only [lenS] <;> omega) | decide, ?_⟩ | refine .inr ⟨by first | assumption | omega | with_reducible rfl | (refine fun h => h ?_; first | assumption | with_reducible rfl) | (simp only [lenS] <;> omega) | decide, ?_⟩) | ((first | refine WPA.ifBt ?_ ?_ | refine WPA.ifBnf ?_ ?_); assumption) | ((first | refine WPA.ifBnt ?_ ?_ | refine WPA.ifBf ?_ ?_); assumption) | ((first | refine WPA.ifs ?_ ?_ | refine WPA.ifB ?_ ?_) <;> intro hc))
    by_cases he : e = 0
    · rw [if_neg (fun k => k he)] at hp
      rw [hp]
      repeat' (first | ((first | refine WLA.m rfl rfl ?_ ?_ | refine WLA.st rfl ?_ ?_ | refine WLA.x rfl rfl ?_ (fun x => ?_) | refine WLA.x0 rfl ?_ (fun x => ?_)); first | exact trivial | exact rfl | assumption | omega | (refine ⟨?_, ?_⟩ <;> omega) | (simp only [Room, lenS]; omega) | decide | skip) | (refine Stp.go ?_) | (refine WPA.ifT ?_) | (refine WPA.ifF ?_) | ((first | refine WPA.dec ?_); first | refine .inl ⟨by first | assumption | omega | with_reducible rfl | (refine fun h => h ?_; first | assumption | with_reducible rfl) | (simp only [lenS] <;> omega) | decide, ?_⟩ | refine .inr ⟨by first | assumption | omega | with_reducible rfl | (refine fun h => h ?_; first | assumption | with_reducible rfl) | (simp only [lenS] <;> omega) | decide, ?_⟩) | ((first | refine WPA.ifBt ?_ ?_ | refine WPA.ifBnf ?_ ?_); assumption) | ((first | refine WPA.ifBnt ?_ ?_ | refine WPA.ifBf ?_ ?_); assumption) | ((first | refine WPA.ifs ?_ ?_ | refine WPA.ifB ?_ ?_) <;> intro hc))
      exact QQ.dret (fun w h => ⟨⟨rfl, rfl, rfl, trivial⟩, (wv, gv, R3 ++ I), ⟨hsub, hM⟩, by
        show SL w0 (R3 ++ I) (Bk p 25 [.int .i64 fr, .slice wv.a wv.n wv.cap, .slice gv.a gv.n gv.cap] :: Bk q 3 [.int .i64 0] :: Bk r 28 [.int .i64 0] :: L) w
        exact h.to⟩)
    · rw [if_pos he] at hp
      rw [hp]
      repeat' (first | ((first | refine WLA.m rfl rfl ?_ ?_ | refine WLA.st rfl ?_ ?_ | refine WLA.x rfl rfl ?_ (fun x => ?_) | refine WLA.x0 rfl ?_ (fun x => ?_)); first | exact trivial | exact rfl | assumption | omega | (refine ⟨?_, ?_⟩ <;> omega) | (simp only [Room, lenS]; omega) | decide | skip) | (refine Stp.go ?_) | (refine WPA.ifT ?_) | (refine WPA.ifF ?_) | ((first | refine WPA.dec ?_); first | refine .inl ⟨by first | assumption | omega | with_reducible rfl | (refine fun h => h ?_; first | assumption | with_reducible rfl) | (simp only [lenS] <;> omega) | decide, ?_⟩ | refine .inr ⟨by first | assumption | omega | with_reducible rfl | (refine fun h => h ?_; first | assumption | with_reducible rfl) | (simp only [lenS] <;> omega) | decide, ?_⟩) | ((first | refine WPA.ifBt ?_ ?_ | refine WPA.ifBnf ?_ ?_); assumption) | ((first | refine WPA.ifBnt ?_ ?_ | refine WPA.ifBf ?_ ?_); assumption) | ((first | refine WPA.ifs ?_ ?_ | refine WPA.ifB ?_ ?_) <;> intro hc))
      exact QQ.dret (fun w h => ⟨⟨rfl, rfl, rfl, trivial⟩, (SV.nil, SV.nil, I), ⟨inferInstance, MdL.nil⟩, by
        show SL w0 I (Bk p 25 [.int .i64 0, .slice none 0 0, .slice none 0 0] :: Bk q 3 [.int .i64 0] :: Bk r 28 [.int .i64 e] :: L) w
        exact (h.sub hsub.out).to⟩)
  · rintro ⟨p, q, r⟩ w tmps ⟨hH, x, hx, hw⟩
    refine ⟨by simp, .inr ⟨by simp [Fence.wide], _, _, 24, _, rfl, clo_invoke, fun _ _ => trivial, (clo_idle hw).mono ?_⟩⟩
    rintro e u' w' ⟨rfl, rfl, hw'⟩
    exact ⟨_, leave3 hH hw', x, rfl, hx, (Ent.drop1.trans (Ent.drop1.trans Ent.drop1)).sl hw'⟩
  · rintro ⟨p, q, r⟩ c w tmps ⟨hH, ⟨y, hy⟩, rfl, hw⟩
    refine ⟨by simp, .inr ⟨by simp [Fence.wide], _, _, 24, _, rfl, clo_invoke, fun _ _ => trivial, (clo_caught hw).mono ?_⟩⟩
    rintro e u' w' ⟨rfl, rfl, hw'⟩
    have k := leave3 (J := I) (L := L) (a := .int .i64 0) (b := .slice none 0 0) (c := .slice none 0 0) (l := y.1) (e := y.2) hH hw'
    show LeavesInM Fence.wide 0 Tryz.prog Tryz.f10 tmps _ [] .returning w'
    refine ⟨_, k, (SV.nil, SV.nil, I), ?_⟩
    dsimp only
    rw [hy]
    exact ⟨rfl, ⟨inferInstance, MdL.nil⟩, (Ent.drop1.trans (Ent.drop1.trans Ent.drop1)).sl hw'⟩
end
end Go.Proofs.YthkhneimfjaohaaGreatDoor
