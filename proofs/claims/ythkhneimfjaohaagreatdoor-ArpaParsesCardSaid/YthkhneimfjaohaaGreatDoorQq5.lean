/- Texts that ArpaParses_law leans on, part 5. Conditions: none. -/
import Derived.Test.YthkhneimfjaohaaGreatDoorQq4
namespace Go.Proofs.YthkhneimfjaohaaGreatDoor
open Go Go.Fw Go.RowKit
set_option linter.unusedVariables false
set_option linter.unusedSimpArgs false
set_option maxRecDepth 100000
set_option maxHeartbeats 16000000
set_option synthInstance.maxHeartbeats 200000
set_option synthInstance.maxSize 100000
attribute [local irreducible] WPA WLA WDA WDQ WDE QQ seqQ blockQ loopQ fnQ OpP OpT Tr TrP SL SLd OwnS LitS Bk BkE Ob
abbrev En := SV × Int × Int
def EnG (I : Foot) (kg : SV → List Int) (es : List En) : Prop := ∀ p ∈ es, SlI I p.1 Int inferInstance (kg p.1)
theorem EnG.at {I : Foot} {kg : SV → List Int} {ps : List En} (h : EnG I kg ps) {i : Nat} (hi : i < ps.length) : SlI I (at_ ps (i : Int)).1 Int inferInstance (kg (at_ ps (i : Int)).1) := h _ (by rw [at_nat ps i hi]; exact List.getElem_mem _)
theorem idxOf_first {α : Type} [BEq α] [LawfulBEq α] {xs : List α} {v : α} {i : Nat} (hi : i < xs.length) (hv : xs[i] = v) (hn : v ∉ xs.take i) : xs.idxOf v = i := by
  have hm : v ∈ xs := by rw [← hv]; exact List.getElem_mem _
  have h1 : ¬ xs.idxOf v < i := fun h => hn (by
    have h3 := List.getElem_idxOf (List.idxOf_lt_length_iff.2 hm)
    rw [← h3]
    exact List.mem_take_iff_getElem.2 ⟨xs.idxOf v, by have := List.idxOf_lt_length_iff.2 hm; omega, rfl⟩)
  have h2 : ¬ i < xs.idxOf v := fun h => by
    have := List.not_of_lt_findIdx (p := fun x => x == v) (xs := xs) h
    simp [hv] at this
  omega
section
variable {kg : SV → List Int} {L : List HP} {w0 : World} {I : Foot}
theorem find1M_tr {x : En} {g : SV} {gs : List Int} {xs : List Int} [hx : SlI I x.1 Int inferInstance xs] [hg : RdS I L g Int inferInstance gs] (h1 : xs.length ≤ 1000000000) (h2 : gs.length ≤ 1000000000) :
    Tr Tryz.prog 67 #[.agg #[.slice x.1.a x.1.n x.1.cap, .int .i64 x.2.1, .int .i64 x.2.2], .slice g.a g.n g.cap] (SL w0 I L) (fun _ : Unit => .int .i64 (cmpL xs gs)) (fun _ => SL w0 I L) := by
  refine Tr.intro Tryz.func67 rfl Tryz.ntmps67 rfl ?_
  repeat' (first | ((first | refine WLA.m rfl rfl ?_ ?_ | refine WLA.st rfl ?_ ?_ | refine WLA.x rfl rfl ?_ (fun x => ?_) | refine WLA.x0 rfl ?_ (fun x => ?_)); first | exact sdT | skip) | (refine Stp.go ?_) | (guard_target =~ WLA _ _ _ _ _ (⟨_, .call ⟨.value (.func 41), _, _⟩, _, _, _, _⟩ :: _) _ _; refine WLA.cq rfl rfl (gCompare_tr h1 h2) ?_) | (refine WPA.ifT ?_) | (refine WPA.ifF ?_) | ((first | refine WPA.dec ?_); first | refine orL ?_ | refine orR ?_) | ((first | refine WPA.ifBt ?_ ?_ | refine WPA.ifBnf ?_ ?_); assumption) | ((first | refine WPA.ifBnt ?_ ?_ | refine WPA.ifBf ?_ ?_); assumption) | ((first | refine WPA.ifs ?_ ?_ | refine WPA.ifB ?_ ?_) <;> intro hc))
  exact QQ.end_ rfl () rfl fun w h => h.to
def hasN (kg : SV → List Int) (es : List En) (g : List Int) : Int := if g ∈ es.map (fun p => kg p.1) then (es.map (fun p => kg p.1)).idxOf g else -1
def RisE (kg : SV → List Int) (es : List En) : Prop := (es.map fun p => kg p.1).Pairwise ltL
theorem bsf_tr {s g : SV} {es : List En} {gs : List Int} [hr : RdS I L s En inferInstance es] [hg : RdS I L g Int inferInstance gs] (hG : EnG I kg es) (hR : RisE kg es) (hn : es.length ≤ 1000000000) (hl : ∀ p ∈ es, (kg p.1).length ≤ 1000000000) (h2 : gs.length ≤ 1000000000) :
    Tr Tryz.prog 66 #[.slice s.a s.n s.cap, .slice g.a g.n g.cap, .func (.func 67) #[] #[]] (SL w0 I L) (fun k : { k : Nat // gs ∈ es.map (fun p => kg p.1) → k < es.length ∧ kg (at_ es (k : Int)).1 = gs } => .tuple #[.int .i64 (k.1 : Nat), .bool (decide (gs ∈ es.map fun p => kg p.1))]) (fun _ => SL w0 I L) := by
  refine Tr.intro Tryz.func66 rfl Tryz.ntmps66 rfl ?_
  repeat' (first | ((first | refine WLA.m rfl rfl ?_ ?_ | refine WLA.st rfl ?_ ?_ | refine WLA.x rfl rfl ?_ (fun x => ?_) | refine WLA.x0 rfl ?_ (fun x => ?_)); first | exact sdT | skip) | (refine Stp.go ?_) | (refine WPA.ifT ?_) | (refine WPA.ifF ?_) | ((first | refine WPA.dec ?_); first | refine orL ?_ | refine orR ?_) | ((first | refine WPA.ifBt ?_ ?_ | refine WPA.ifBnf ?_ ?_); assumption) | ((first | refine WPA.ifBnt ?_ ?_ | refine WPA.ifBf ?_ ?_); assumption) | ((first | refine WPA.ifs ?_ ?_ | refine WPA.ifB ?_ ?_) <;> intro hc))
  refine WPA.loopS (σ := Nat × Nat) (fun y => [(0, .slice s.a s.n s.cap), (1, .slice g.a g.n g.cap), (2, .func (.func 67) #[] #[]), (8, .int .i64 es.length), (9, .int .i64 y.1), (10, .int .i64 y.2)])
    (fun y => (y.1 ≤ y.2 ∧ y.2 ≤ es.length) ∧ (∀ j : Nat, j < y.1 → cmpL (kg (at_ es (j : Int)).1) gs < 0) ∧ (∀ j : Nat, y.2 ≤ j → j < es.length → ¬ cmpL (kg (at_ es (j : Int)).1) gs < 0))
    (fun _ => SL w0 I L) (fun y => y.2 - y.1) (0, es.length) ⟨rfl, rfl, rfl, rfl, rfl, rfl, trivial⟩ ⟨⟨Nat.zero_le _, Nat.le_refl _⟩, fun j hj => by dsimp only at hj; omega, fun j h1 h2 => by dsimp only at h1; omega⟩ (fun w h => h) ?_
  rintro ⟨lo, hi⟩ ρ ⟨⟨hlh, hhn⟩, hlo, hhi⟩
  dsimp only at hlh hhn hlo hhi ⊢
  by_cases hlt : lo < hi
  · have hlt' : (lo : Int) < hi := by omega
    have hm1 : lo ≤ (lo + hi) / 2 := by omega
    have hm2 : (lo + hi) / 2 < hi := by omega
    have hmid : IntKind.i64.wrap ((IntKind.u64.wrap ((lo : Int) + hi)).fdiv (2 ^ Int.toNat 1)) = (((lo + hi) / 2 : Nat) : Int) := by
      rw [wrap_u64 (by omega), show ((lo : Int) + hi).fdiv (2 ^ Int.toNat 1) = (((lo + hi) / 2 : Nat) : Int) by rw [Int.fdiv_eq_ediv_of_nonneg _ (by decide)]; show ((lo : Int) + hi) / 2 = _; omega]
      exact wrap_i64 (by omega)
    repeat' ((fail_if_success (guard_target =~ WPA _ _ _ (.region 5 _ _) _ _ _)); first | (guard_target =~ WLA _ _ _ _ _ (⟨_, .convert _ _ _, _, _, _, _⟩ :: _) _ _; refine WLA.m (h := convW) rfl rfl trivial ?_) | (guard_target =~ WDQ _ _ _ _ _ _ _ ⟨_, .convert _ _ _, _, _, _, _⟩ _ _ _; refine WDQ.m (h := convW) rfl rfl trivial ?_) | (guard_target =~ WDP _ _ _ _ _ _ _ ⟨_, .convert _ _ _, _, _, _, _⟩ _ _ _; refine WDP.m (h := convW) rfl rfl trivial ?_) | ((first | refine WLA.m rfl rfl ?_ ?_ | refine WLA.st rfl ?_ ?_ | refine WLA.x rfl rfl ?_ (fun x => ?_) | refine WLA.x0 rfl ?_ (fun x => ?_)); first | exact sdT | skip) | (refine Stp.go ?_) | (refine WPA.ifT ?_) | (refine WPA.ifF ?_) | ((first | refine WPA.dec ?_); first | refine orL ?_ | refine orR ?_) | ((first | refine WPA.ifBt ?_ ?_ | refine WPA.ifBnf ?_ ?_); assumption) | ((first | refine WPA.ifBnt ?_ ?_ | refine WPA.ifBf ?_ ?_); assumption) | ((first | refine WPA.ifs ?_ ?_ | refine WPA.ifB ?_ ?_) <;> intro hc))
    rw [hmid]
    generalize (lo + hi) / 2 = m at hm1 hm2 hmid
    have hmn : m < es.length := by omega
    have hmn' : (m : Int) < es.length := by omega
    have hxl : (kg (at_ es (m : Int)).1).length ≤ 1000000000 := hl _ (by rw [at_nat es m hmn]; exact List.getElem_mem _)
    have hxg := hG.at hmn
    have hmono : ∀ j k : Nat, j < k → k < es.length → ltL (kg (at_ es (j : Int)).1) (kg (at_ es (k : Int)).1) := by
      intro j k hjk hk
      have hp := List.pairwise_iff_getElem.1 hR j k (by rw [List.length_map]; omega) (by rw [List.length_map]; exact hk) hjk
      rwa [List.getElem_map, List.getElem_map, ← at_nat es j (by omega), ← at_nat es k hk] at hp
    by_cases hc : cmpL (kg (at_ es (m : Int)).1) gs < 0
    · skip
      repeat' (first | ((first | refine WLA.m rfl rfl ?_ ?_ | refine WLA.st rfl ?_ ?_ | refine WLA.x rfl rfl ?_ (fun x => ?_) | refine WLA.x0 rfl ?_ (fun x => ?_)); first | exact sdT | skip) | (refine Stp.go ?_) | (guard_target =~ WLA _ _ _ _ _ (⟨_, .call ⟨.value (.tmp _), _, _⟩, _, _, _, _⟩ :: _) _ _; refine WLA.callV rfl rfl (find1M_tr (x := at_ es (m : Int)) hxl h2) ?_; rintro ⟨⟩) | (refine WPA.ifT ?_) | (refine WPA.ifF ?_) | ((first | refine WPA.dec ?_); first | refine orL ?_ | refine orR ?_) | ((first | refine WPA.ifBt ?_ ?_ | refine WPA.ifBnf ?_ ?_); assumption) | ((first | refine WPA.ifBnt ?_ ?_ | refine WPA.ifBf ?_ ?_); assumption) | ((first | refine WPA.ifs ?_ ?_ | refine WPA.ifB ?_ ?_) <;> intro hc))
      refine QQ.loopS (m + 1, hi) ⟨rfl, rfl, rfl, rfl, rfl, rfl, trivial⟩ ⟨⟨hm2, hhn⟩, fun j hj => ?_, hhi⟩ (by dsimp only; omega) (fun w h => h)
      dsimp only at hj
      rcases Nat.eq_or_lt_of_le (Nat.lt_succ_iff.1 hj) with rfl | hjm
      · exact hc
      · exact ltL_tt (hmono j m hjm hmn) hc
    · skip
      repeat' (first | ((first | refine WLA.m rfl rfl ?_ ?_ | refine WLA.st rfl ?_ ?_ | refine WLA.x rfl rfl ?_ (fun x => ?_) | refine WLA.x0 rfl ?_ (fun x => ?_)); first | exact sdT | skip) | (refine Stp.go ?_) | (guard_target =~ WLA _ _ _ _ _ (⟨_, .call ⟨.value (.tmp _), _, _⟩, _, _, _, _⟩ :: _) _ _; refine WLA.callV rfl rfl (find1M_tr (x := at_ es (m : Int)) hxl h2) ?_; rintro ⟨⟩) | (refine WPA.ifT ?_) | (refine WPA.ifF ?_) | ((first | refine WPA.dec ?_); first | refine orL ?_ | refine orR ?_) | ((first | refine WPA.ifBt ?_ ?_ | refine WPA.ifBnf ?_ ?_); assumption) | ((first | refine WPA.ifBnt ?_ ?_ | refine WPA.ifBf ?_ ?_); assumption) | ((first | refine WPA.ifs ?_ ?_ | refine WPA.ifB ?_ ?_) <;> intro hc))
      refine QQ.loopS (lo, m) ⟨rfl, rfl, rfl, rfl, rfl, rfl, trivial⟩ ⟨⟨hm1, by dsimp only; omega⟩, hlo, fun j hj hjn => ?_⟩ (by dsimp only; omega) (fun w h => h)
      dsimp only at hj
      rcases Nat.eq_or_lt_of_le hj with rfl | hjm
      · exact hc
      · exact fun hk => hc (ltL_tt (hmono m j hjm hjn) hk)
  · have hlt' : ¬ (lo : Int) < hi := by omega
    have e : lo = hi := by omega
    subst e
    by_cases hle : lo < es.length
    · have hle' : (lo : Int) < es.length := by omega
      have hxl : (kg (at_ es (lo : Int)).1).length ≤ 1000000000 := hl _ (by rw [at_nat es lo hle]; exact List.getElem_mem _)
      have hxg := hG.at hle
      have hmem : gs ∈ es.map (fun p => kg p.1) ↔ cmpL (kg (at_ es (lo : Int)).1) gs = 0 := by
        rw [cmp_zero]
        constructor
        · intro hm
          obtain ⟨j, hj, hje⟩ := List.getElem_of_mem hm
          rw [List.length_map] at hj
          rw [List.getElem_map, ← at_nat es j hj] at hje
          have h0 : ¬ j < lo := fun h => by have := hlo j h; rw [hje, cmpL_refl] at this; omega
          rcases Nat.eq_or_lt_of_le (Nat.le_of_not_lt h0) with rfl | hlj
          · exact hje
          · exfalso
            have hp := List.pairwise_iff_getElem.1 hR lo j (by rw [List.length_map]; exact hle) (by rw [List.length_map]; exact hj) hlj
            rw [List.getElem_map, List.getElem_map, ← at_nat es lo hle, ← at_nat es j hj, hje] at hp
            exact hhi lo (Nat.le_refl _) hle hp
        · intro he
          rw [← he]
          rw [at_nat es lo hle]
          exact List.mem_map_of_mem (f := fun p : En => kg p.1) (List.getElem_mem hle)
      repeat' ((fail_if_success (guard_target =~ WPA _ _ _ (.region 8 _ _) _ _ _)); first | ((first | refine WLA.m rfl rfl ?_ ?_ | refine WLA.st rfl ?_ ?_ | refine WLA.x rfl rfl ?_ (fun x => ?_) | refine WLA.x0 rfl ?_ (fun x => ?_)); first | exact sdT | skip) | (refine Stp.go ?_) | (refine WPA.ifT ?_) | (refine WPA.ifF ?_) | ((first | refine WPA.dec ?_); first | refine orL ?_ | refine orR ?_) | ((first | refine WPA.ifBt ?_ ?_ | refine WPA.ifBnf ?_ ?_); assumption) | ((first | refine WPA.ifBnt ?_ ?_ | refine WPA.ifBf ?_ ?_); assumption) | ((first | refine WPA.ifs ?_ ?_ | refine WPA.ifB ?_ ?_) <;> intro hc))
      repeat' (first | ((first | refine WLA.m rfl rfl ?_ ?_ | refine WLA.st rfl ?_ ?_ | refine WLA.x rfl rfl ?_ (fun x => ?_) | refine WLA.x0 rfl ?_ (fun x => ?_)); first | exact sdT | skip) | (refine Stp.go ?_) | (guard_target =~ WLA _ _ _ _ _ (⟨_, .call ⟨.value (.tmp _), _, _⟩, _, _, _, _⟩ :: _) _ _; refine WLA.callV rfl rfl (find1M_tr (x := at_ es (lo : Int)) hxl h2) ?_; rintro ⟨⟩) | (refine WPA.ifT ?_) | (refine WPA.ifF ?_) | (refine WLA.no rfl rfl ?_) | ((first | refine WPA.dec ?_ | ((fail_if_success (guard_target =~ WLA _ _ _ _ _ _ (put1 _ _ (.bool true)) _)); (fail_if_success (guard_target =~ WLA _ _ _ _ _ _ (put1 _ _ (.bool false)) _)); refine WLA.dec rfl rfl ?_) | refine WLA.pk ?_); first | refine orL ?_ | refine orR ?_) | ((first | refine WPA.ifBt ?_ ?_ | refine WPA.ifBnf ?_ ?_); assumption) | ((first | refine WPA.ifBnt ?_ ?_ | refine WPA.ifBf ?_ ?_); assumption) | ((first | refine WPA.ifs ?_ ?_ | refine WPA.ifB ?_ ?_) <;> intro hc) | ((fail_if_success (guard_target =~ WLA _ _ _ _ _ _ (put1 _ _ (.bool true)) _)); (fail_if_success (guard_target =~ WLA _ _ _ _ _ _ (put1 _ _ (.bool false)) _)); (first | refine WLA.both rfl rfl ?_ ?_ | refine WLA.bothB rfl rfl ?_ ?_) <;> intro hg))
      exact QQ.end_ rfl ⟨lo, fun hm => ⟨hle, cmp_zero.1 (hmem.1 hm)⟩⟩ (by rw [decide_eq_decide.2 hmem]) fun w h => h
    · have hle' : ¬ (lo : Int) < es.length := by omega
      have hno : gs ∉ es.map (fun p => kg p.1) := by
        intro hm
        obtain ⟨j, hj, hje⟩ := List.getElem_of_mem hm
        rw [List.length_map] at hj
        rw [List.getElem_map, ← at_nat es j hj] at hje
        have := hlo j (by omega)
        rw [hje, cmpL_refl] at this
        omega
      repeat' ((fail_if_success (guard_target =~ WPA _ _ _ (.region 8 _ _) _ _ _)); first | ((first | refine WLA.m rfl rfl ?_ ?_ | refine WLA.st rfl ?_ ?_ | refine WLA.x rfl rfl ?_ (fun x => ?_) | refine WLA.x0 rfl ?_ (fun x => ?_)); first | exact sdT | skip) | (refine Stp.go ?_) | (refine WPA.ifT ?_) | (refine WPA.ifF ?_) | ((first | refine WPA.dec ?_); first | refine orL ?_ | refine orR ?_) | ((first | refine WPA.ifBt ?_ ?_ | refine WPA.ifBnf ?_ ?_); assumption) | ((first | refine WPA.ifBnt ?_ ?_ | refine WPA.ifBf ?_ ?_); assumption) | ((first | refine WPA.ifs ?_ ?_ | refine WPA.ifB ?_ ?_) <;> intro hc))
      repeat' (first | ((first | refine WLA.m rfl rfl ?_ ?_ | refine WLA.st rfl ?_ ?_ | refine WLA.x rfl rfl ?_ (fun x => ?_) | refine WLA.x0 rfl ?_ (fun x => ?_)); first | exact sdT | skip) | (refine Stp.go ?_) | (refine WPA.ifT ?_) | (refine WPA.ifF ?_) | (refine WLA.no rfl rfl ?_) | ((first | refine WPA.dec ?_ | ((fail_if_success (guard_target =~ WLA _ _ _ _ _ _ (put1 _ _ (.bool true)) _)); (fail_if_success (guard_target =~ WLA _ _ _ _ _ _ (put1 _ _ (.bool false)) _)); refine WLA.dec rfl rfl ?_) | refine WLA.pk ?_); first | refine orL ?_ | refine orR ?_) | ((first | refine WPA.ifBt ?_ ?_ | refine WPA.ifBnf ?_ ?_); assumption) | ((first | refine WPA.ifBnt ?_ ?_ | refine WPA.ifBf ?_ ?_); assumption) | ((first | refine WPA.ifs ?_ ?_ | refine WPA.ifB ?_ ?_) <;> intro hc) | ((fail_if_success (guard_target =~ WLA _ _ _ _ _ _ (put1 _ _ (.bool true)) _)); (fail_if_success (guard_target =~ WLA _ _ _ _ _ _ (put1 _ _ (.bool false)) _)); (first | refine WLA.both rfl rfl ?_ ?_ | refine WLA.bothB rfl rfl ?_ ?_) <;> intro hg))
      exact QQ.end_ rfl ⟨lo, fun hm => absurd hm hno⟩ (by rw [decide_eq_false hno]) fun w h => h
theorem findM_tr {s g : SV} {es : List En} {gs : List Int} [hr : RdS I L s En inferInstance es] [hg : RdS I L g Int inferInstance gs] (hG : EnG I kg es) (hR : RisE kg es) (hn : es.length ≤ 1000000000) (hl : ∀ p ∈ es, (kg p.1).length ≤ 1000000000) (h2 : gs.length ≤ 1000000000) :
    Tr Tryz.prog 42 #[.slice s.a s.n s.cap, .slice g.a g.n g.cap] (SL w0 I L) (fun k : { k : Nat // gs ∈ es.map (fun p => kg p.1) → k < es.length ∧ kg (at_ es (k : Int)).1 = gs } => .tuple #[.int .i64 (k.1 : Nat), .bool (decide (gs ∈ es.map fun p => kg p.1))]) (fun _ => SL w0 I L) := by
  refine Tr.intro Tryz.func42 rfl Tryz.ntmps42 rfl ?_
  repeat' (first | ((first | refine WLA.m rfl rfl ?_ ?_ | refine WLA.st rfl ?_ ?_ | refine WLA.x rfl rfl ?_ (fun x => ?_) | refine WLA.x0 rfl ?_ (fun x => ?_)); first | exact sdT | skip) | (refine Stp.go ?_) | (guard_target =~ WLA _ _ _ _ _ (⟨_, .call ⟨.value (.func 66), _, _⟩, _, _, _, _⟩ :: _) _ _; refine WLA.call rfl rfl (bsf_tr hG hR hn hl h2) ?_; rintro ⟨k, hk⟩) | (refine WPA.ifT ?_) | (refine WPA.ifF ?_) | ((first | refine WPA.dec ?_); first | refine orL ?_ | refine orR ?_) | ((first | refine WPA.ifBt ?_ ?_ | refine WPA.ifBnf ?_ ?_); assumption) | ((first | refine WPA.ifBnt ?_ ?_ | refine WPA.ifBf ?_ ?_); assumption) | ((first | refine WPA.ifs ?_ ?_ | refine WPA.ifB ?_ ?_) <;> intro hc))
  exact QQ.end_ rfl ⟨k, hk⟩ rfl fun w h => h
theorem IndexM_tr {s : SV} {xs : List Int} {v : Int} [hr : RdS I L s Int inferInstance xs] (hn : xs.length ≤ 1000000000) :
    TrP Tryz.prog 84 #[.slice s.a s.n s.cap, .int .i64 v] (SL w0 I L) (.int .i64 (if v ∈ xs then (xs.idxOf v : Int) else -1)) := by
  refine TrP.ofD fun u => Tr.intro Tryz.func84 rfl Tryz.ntmps84 rfl ?_
  repeat' (first | ((first | refine WLA.m rfl rfl ?_ ?_ | refine WLA.st rfl ?_ ?_ | refine WLA.x rfl rfl ?_ (fun x => ?_) | refine WLA.x0 rfl ?_ (fun x => ?_)); first | exact sdT | skip) | (refine Stp.go ?_) | (refine WPA.ifT ?_) | (refine WPA.ifF ?_) | ((first | refine WPA.dec ?_); first | refine orL ?_ | refine orR ?_) | ((first | refine WPA.ifBt ?_ ?_ | refine WPA.ifBnf ?_ ?_); assumption) | ((first | refine WPA.ifBnt ?_ ?_ | refine WPA.ifBf ?_ ?_); assumption) | ((first | refine WPA.ifs ?_ ?_ | refine WPA.ifB ?_ ?_) <;> intro hc))
  refine WPA.loopS (σ := Nat) (fun i => [(0, .slice s.a s.n s.cap), (1, .int .i64 v), (7, .int .i64 xs.length), (8, .int .i64 i)]) (fun i => i ≤ xs.length ∧ v ∉ xs.take i)
    (fun i => SLd w0 I L u) (fun i => xs.length - i) 0 ⟨rfl, rfl, rfl, rfl, trivial⟩ ⟨Nat.zero_le _, by simp⟩ (fun w h => h) ?_
  rintro i ρ ⟨hi, he⟩
  by_cases hlt : i < xs.length
  · have hlt' : (i : Int) < xs.length := by omega
    by_cases hv : v = at_ xs (i : Int)
    · have hm : v ∈ xs := by rw [hv, at_nat xs i hlt]; exact List.getElem_mem _
      have hix : xs.idxOf v = i := idxOf_first hlt (by rw [hv, at_nat xs i hlt]) he
      repeat' (first | ((first | refine WLA.m rfl rfl ?_ ?_ | refine WLA.st rfl ?_ ?_ | refine WLA.x rfl rfl ?_ (fun x => ?_) | refine WLA.x0 rfl ?_ (fun x => ?_)); first | exact sdT | skip) | (refine Stp.go ?_) | (refine WPA.ifT ?_) | (refine WPA.ifF ?_) | ((first | refine WPA.dec ?_); first | refine orL ?_ | refine orR ?_) | ((first | refine WPA.ifBt ?_ ?_ | refine WPA.ifBnf ?_ ?_); assumption) | ((first | refine WPA.ifBnt ?_ ?_ | refine WPA.ifBf ?_ ?_); assumption) | ((first | refine WPA.ifs ?_ ?_ | refine WPA.ifB ?_ ?_) <;> intro hc))
      exact QQ.end_ rfl () (by rw [if_pos hm, hix]) fun w h => h
    · skip
      repeat' (first | ((first | refine WLA.m rfl rfl ?_ ?_ | refine WLA.st rfl ?_ ?_ | refine WLA.x rfl rfl ?_ (fun x => ?_) | refine WLA.x0 rfl ?_ (fun x => ?_)); first | exact sdT | skip) | (refine Stp.go ?_) | (refine WPA.ifT ?_) | (refine WPA.ifF ?_) | ((first | refine WPA.dec ?_); first | refine orL ?_ | refine orR ?_) | ((first | refine WPA.ifBt ?_ ?_ | refine WPA.ifBnf ?_ ?_); assumption) | ((first | refine WPA.ifBnt ?_ ?_ | refine WPA.ifBf ?_ ?_); assumption) | ((first | refine WPA.ifs ?_ ?_ | refine WPA.ifB ?_ ?_) <;> intro hc))
      refine QQ.loopS (i + 1) ⟨rfl, rfl, rfl, rfl, trivial⟩ ⟨hlt, ?_⟩ (by omega) (fun w h => h)
      rw [List.take_add_one, List.getElem?_eq_getElem hlt, ← at_nat xs i hlt]
      intro hm
      rcases List.mem_append.1 hm with hm | hm
      · exact he hm
      · simp only [Option.toList_some, List.mem_singleton] at hm; exact hv hm
  · have hlt' : ¬ (i : Int) < xs.length := by omega
    rw [List.take_of_length_le (by omega)] at he
    repeat' (first | ((first | refine WLA.m rfl rfl ?_ ?_ | refine WLA.st rfl ?_ ?_ | refine WLA.x rfl rfl ?_ (fun x => ?_) | refine WLA.x0 rfl ?_ (fun x => ?_)); first | exact sdT | skip) | (refine Stp.go ?_) | (refine WPA.ifT ?_) | (refine WPA.ifF ?_) | ((first | refine WPA.dec ?_); first | refine orL ?_ | refine orR ?_) | ((first | refine WPA.ifBt ?_ ?_ | refine WPA.ifBnf ?_ ?_); assumption) | ((first | refine WPA.ifBnt ?_ ?_ | refine WPA.ifBf ?_ ?_); assumption) | ((first | refine WPA.ifs ?_ ?_ | refine WPA.ifB ?_ ?_) <;> intro hc))
    exact QQ.end_ rfl () (by rw [if_neg he]) fun w h => h
theorem ContainsM_tr {s : SV} {xs : List Int} {v : Int} [hr : RdS I L s Int inferInstance xs] (hn : xs.length ≤ 1000000000) :
    TrP Tryz.prog 63 #[.slice s.a s.n s.cap, .int .i64 v] (SL w0 I L) (.bool (decide (v ∈ xs))) := by
  refine TrP.ofD fun u => Tr.intro Tryz.func63 rfl Tryz.ntmps63 rfl ?_
  repeat' (first | ((first | refine WLA.m rfl rfl ?_ ?_ | refine WLA.st rfl ?_ ?_ | refine WLA.x rfl rfl ?_ (fun x => ?_) | refine WLA.x0 rfl ?_ (fun x => ?_)); first | exact sdT | skip) | (refine Stp.go ?_) | (guard_target =~ WLA _ _ _ _ _ (⟨_, .call ⟨.value (.func 84), _, _⟩, _, _, _, _⟩ :: _) _ _; refine WLA.cq rfl rfl (IndexM_tr hn) ?_) | (refine WPA.ifT ?_) | (refine WPA.ifF ?_) | ((first | refine WPA.dec ?_); first | refine orL ?_ | refine orR ?_) | ((first | refine WPA.ifBt ?_ ?_ | refine WPA.ifBnf ?_ ?_); assumption) | ((first | refine WPA.ifBnt ?_ ?_ | refine WPA.ifBf ?_ ?_); assumption) | ((first | refine WPA.ifs ?_ ?_ | refine WPA.ifB ?_ ?_) <;> intro hc))
  exact QQ.end_ rfl () (congrArg Value.bool (decide_eq_decide.2 (by split <;> simp [*]))) fun w h => h
theorem HasM_tr {s g : SV} {es : List En} {gs : List Int} [hr : RdS I L s En inferInstance es] [hg : RdS I L g Int inferInstance gs] (hG : EnG I kg es) (hn : es.length ≤ 1000000000) (hl : ∀ p ∈ es, (kg p.1).length ≤ 1000000000) (h2 : gs.length ≤ 1000000000) :
    TrP Tryz.prog 23 #[.slice s.a s.n s.cap, .slice g.a g.n g.cap] (SL w0 I L) (.int .i64 (hasN kg es gs)) := by
  refine TrP.ofD fun u => Tr.intro Tryz.func23 rfl Tryz.ntmps23 rfl ?_
  repeat' (first | ((first | refine WLA.m rfl rfl ?_ ?_ | refine WLA.st rfl ?_ ?_ | refine WLA.x rfl rfl ?_ (fun x => ?_) | refine WLA.x0 rfl ?_ (fun x => ?_)); first | exact sdT | skip) | (refine Stp.go ?_) | (refine WPA.ifT ?_) | (refine WPA.ifF ?_) | ((first | refine WPA.dec ?_); first | refine orL ?_ | refine orR ?_) | ((first | refine WPA.ifBt ?_ ?_ | refine WPA.ifBnf ?_ ?_); assumption) | ((first | refine WPA.ifBnt ?_ ?_ | refine WPA.ifBf ?_ ?_); assumption) | ((first | refine WPA.ifs ?_ ?_ | refine WPA.ifB ?_ ?_) <;> intro hc))
  refine WPA.loopS (σ := Nat) (fun i => [(0, .slice s.a s.n s.cap), (1, .slice g.a g.n g.cap), (5, .int .i64 i)]) (fun i => i ≤ es.length ∧ gs ∉ (es.take i).map (fun p => kg p.1))
    (fun i => SLd w0 I L u) (fun i => es.length - i) 0 ⟨rfl, rfl, rfl, trivial⟩ ⟨Nat.zero_le _, by simp⟩ (fun w h => h) ?_
  rintro i ρ ⟨hi, he⟩
  by_cases hlt : i < es.length
  · have hlt' : (i : Int) < es.length := by omega
    have hxl : (kg (at_ es (i : Int)).1).length ≤ 1000000000 := hl _ (by rw [at_nat es i hlt]; exact List.getElem_mem _)
    have hxg := hG.at hlt
    have hil : i < (es.map fun p => kg p.1).length := by rw [List.length_map]; exact hlt
    have hia : (es.map fun p => kg p.1)[i] = kg (at_ es (i : Int)).1 := by rw [List.getElem_map, ← at_nat es i hlt]
    rw [List.map_take] at he
    by_cases hc : kg (at_ es (i : Int)).1 = gs
    · have hm : gs ∈ es.map (fun p => kg p.1) := by rw [← hc, ← hia]; exact List.getElem_mem _
      have hix := idxOf_first hil (hia.trans hc) he
      repeat' (first | ((first | refine WLA.m rfl rfl ?_ ?_ | refine WLA.st rfl ?_ ?_ | refine WLA.x rfl rfl ?_ (fun x => ?_) | refine WLA.x0 rfl ?_ (fun x => ?_)); first | exact sdT | skip) | (refine Stp.go ?_) | (guard_target =~ WLA _ _ _ _ _ (⟨_, .call ⟨.value (.func 49), _, _⟩, _, _, _, _⟩ :: _) _ _; refine WLA.cq rfl rfl (Ints_tr hxl) ?_) | (refine WPA.ifT ?_) | (refine WPA.ifF ?_) | ((first | refine WPA.dec ?_); first | refine orL ?_ | refine orR ?_) | ((first | refine WPA.ifBt ?_ ?_ | refine WPA.ifBnf ?_ ?_); assumption) | ((first | refine WPA.ifBnt ?_ ?_ | refine WPA.ifBf ?_ ?_); assumption) | ((first | refine WPA.ifs ?_ ?_ | refine WPA.ifB ?_ ?_) <;> intro hc))
      exact QQ.end_ rfl () (by unfold hasN; rw [if_pos hm, hix]) fun w h => h
    · skip
      repeat' (first | ((first | refine WLA.m rfl rfl ?_ ?_ | refine WLA.st rfl ?_ ?_ | refine WLA.x rfl rfl ?_ (fun x => ?_) | refine WLA.x0 rfl ?_ (fun x => ?_)); first | exact sdT | skip) | (refine Stp.go ?_) | (guard_target =~ WLA _ _ _ _ _ (⟨_, .call ⟨.value (.func 49), _, _⟩, _, _, _, _⟩ :: _) _ _; refine WLA.cq rfl rfl (Ints_tr hxl) ?_) | (refine WPA.ifT ?_) | (refine WPA.ifF ?_) | ((first | refine WPA.dec ?_); first | refine orL ?_ | refine orR ?_) | ((first | refine WPA.ifBt ?_ ?_ | refine WPA.ifBnf ?_ ?_); assumption) | ((first | refine WPA.ifBnt ?_ ?_ | refine WPA.ifBf ?_ ?_); assumption) | ((first | refine WPA.ifs ?_ ?_ | refine WPA.ifB ?_ ?_) <;> intro hc))
      refine QQ.loopS (i + 1) ⟨rfl, rfl, rfl, trivial⟩ ⟨hlt, ?_⟩ (by omega) (fun w h => h)
      rw [List.map_take, List.take_add_one, List.getElem?_eq_getElem hil, hia]
      intro hm
      rcases List.mem_append.1 hm with hm | hm
      · exact he hm
      · simp only [Option.toList_some, List.mem_singleton] at hm; exact hc hm.symm
  · have hlt' : ¬ (i : Int) < es.length := by omega
    rw [List.take_of_length_le (by omega)] at he
    repeat' (first | ((first | refine WLA.m rfl rfl ?_ ?_ | refine WLA.st rfl ?_ ?_ | refine WLA.x rfl rfl ?_ (fun x => ?_) | refine WLA.x0 rfl ?_ (fun x => ?_)); first | exact sdT | skip) | (refine Stp.go ?_) | (refine WPA.ifT ?_) | (refine WPA.ifF ?_) | ((first | refine WPA.dec ?_); first | refine orL ?_ | refine orR ?_) | ((first | refine WPA.ifBt ?_ ?_ | refine WPA.ifBnf ?_ ?_); assumption) | ((first | refine WPA.ifBnt ?_ ?_ | refine WPA.ifBf ?_ ?_); assumption) | ((first | refine WPA.ifs ?_ ?_ | refine WPA.ifB ?_ ?_) <;> intro hc))
    exact QQ.end_ rfl () (by unfold hasN; rw [if_neg he]) fun w h => h
theorem withinM_tr {v : Int} : TrP Tryz.prog 64 #[.int .i64 v] (SL w0 I L) (.bool (decide (-1073741824 ≤ v ∧ v ≤ 0))) := by
  refine TrP.ofD fun u => Tr.intro Tryz.func64 rfl Tryz.ntmps64 rfl ?_
  by_cases h1 : -1073741824 ≤ v
  · by_cases h2 : v ≤ 0
    · skip
      repeat' (first | ((first | refine WLA.m rfl rfl ?_ ?_ | refine WLA.st rfl ?_ ?_ | refine WLA.x rfl rfl ?_ (fun x => ?_) | refine WLA.x0 rfl ?_ (fun x => ?_)); first | exact sdT | skip) | (refine Stp.go ?_) | (refine WPA.ifT ?_) | (refine WPA.ifF ?_) | (refine WLA.no rfl rfl ?_) | ((first | refine WPA.dec ?_ | ((fail_if_success (guard_target =~ WLA _ _ _ _ _ _ (put1 _ _ (.bool true)) _)); (fail_if_success (guard_target =~ WLA _ _ _ _ _ _ (put1 _ _ (.bool false)) _)); refine WLA.dec rfl rfl ?_) | refine WLA.pk ?_); first | refine orL ?_ | refine orR ?_) | ((first | refine WPA.ifBt ?_ ?_ | refine WPA.ifBnf ?_ ?_); assumption) | ((first | refine WPA.ifBnt ?_ ?_ | refine WPA.ifBf ?_ ?_); assumption) | ((first | refine WPA.ifs ?_ ?_ | refine WPA.ifB ?_ ?_) <;> intro hc) | ((fail_if_success (guard_target =~ WLA _ _ _ _ _ _ (put1 _ _ (.bool true)) _)); (fail_if_success (guard_target =~ WLA _ _ _ _ _ _ (put1 _ _ (.bool false)) _)); (first | refine WLA.both rfl rfl ?_ ?_ | refine WLA.bothB rfl rfl ?_ ?_) <;> intro hg))
      exact QQ.end_ rfl () (congrArg Value.bool (by simp [h1, h2])) fun w h => h
    · skip
      repeat' (first | ((first | refine WLA.m rfl rfl ?_ ?_ | refine WLA.st rfl ?_ ?_ | refine WLA.x rfl rfl ?_ (fun x => ?_) | refine WLA.x0 rfl ?_ (fun x => ?_)); first | exact sdT | skip) | (refine Stp.go ?_) | (refine WPA.ifT ?_) | (refine WPA.ifF ?_) | (refine WLA.no rfl rfl ?_) | ((first | refine WPA.dec ?_ | ((fail_if_success (guard_target =~ WLA _ _ _ _ _ _ (put1 _ _ (.bool true)) _)); (fail_if_success (guard_target =~ WLA _ _ _ _ _ _ (put1 _ _ (.bool false)) _)); refine WLA.dec rfl rfl ?_) | refine WLA.pk ?_); first | refine orL ?_ | refine orR ?_) | ((first | refine WPA.ifBt ?_ ?_ | refine WPA.ifBnf ?_ ?_); assumption) | ((first | refine WPA.ifBnt ?_ ?_ | refine WPA.ifBf ?_ ?_); assumption) | ((first | refine WPA.ifs ?_ ?_ | refine WPA.ifB ?_ ?_) <;> intro hc) | ((fail_if_success (guard_target =~ WLA _ _ _ _ _ _ (put1 _ _ (.bool true)) _)); (fail_if_success (guard_target =~ WLA _ _ _ _ _ _ (put1 _ _ (.bool false)) _)); (first | refine WLA.both rfl rfl ?_ ?_ | refine WLA.bothB rfl rfl ?_ ?_) <;> intro hg))
      exact QQ.end_ rfl () (congrArg Value.bool (by simp [h1, h2])) fun w h => h
  · skip
    repeat' (first | ((first | refine WLA.m rfl rfl ?_ ?_ | refine WLA.st rfl ?_ ?_ | refine WLA.x rfl rfl ?_ (fun x => ?_) | refine WLA.x0 rfl ?_ (fun x => ?_)); first | exact sdT | skip) | (refine Stp.go ?_) | (refine WPA.ifT ?_) | (refine WPA.ifF ?_) | (refine WLA.no rfl rfl ?_) | ((first | refine WPA.dec ?_ | ((fail_if_success (guard_target =~ WLA _ _ _ _ _ _ (put1 _ _ (.bool true)) _)); (fail_if_success (guard_target =~ WLA _ _ _ _ _ _ (put1 _ _ (.bool false)) _)); refine WLA.dec rfl rfl ?_) | refine WLA.pk ?_); first | refine orL ?_ | refine orR ?_) | ((first | refine WPA.ifBt ?_ ?_ | refine WPA.ifBnf ?_ ?_); assumption) | ((first | refine WPA.ifBnt ?_ ?_ | refine WPA.ifBf ?_ ?_); assumption) | ((first | refine WPA.ifs ?_ ?_ | refine WPA.ifB ?_ ?_) <;> intro hc) | ((fail_if_success (guard_target =~ WLA _ _ _ _ _ _ (put1 _ _ (.bool true)) _)); (fail_if_success (guard_target =~ WLA _ _ _ _ _ _ (put1 _ _ (.bool false)) _)); (first | refine WLA.both rfl rfl ?_ ?_ | refine WLA.bothB rfl rfl ?_ ?_) <;> intro hg))
    exact QQ.end_ rfl () (congrArg Value.bool (by simp [h1])) fun w h => h
end
end Go.Proofs.YthkhneimfjaohaaGreatDoor
namespace Go.Proofs.YthkhneimfjaohaaGreatDoor
open Go Go.Fw Go.RowKit
set_option linter.unusedVariables false
set_option linter.unusedSimpArgs false
set_option maxRecDepth 100000
set_option maxHeartbeats 16000000
set_option synthInstance.maxHeartbeats 200000
set_option synthInstance.maxSize 100000
attribute [local irreducible] WPA WLA WDA WDQ WDE QQ seqQ blockQ loopQ fnQ OpP OpT Tr TrP SL SLd OwnS LitS Bk BkE Ob
def mixL (s : ByteArray) : Nat → Int → Int → Int
  | 0, h, _ => h
  | k + 1, h, i => if i < (s.size : Int) then mixL s k (IntKind.u64.wrap (Go.bits .xor .u64 h (bt s i) * 1099511628211)) (i + 1) else h
def mixv (s : ByteArray) : Int := Go.bits .xor .u64 (mixL s s.size 14695981039346656037 0) ((mixL s s.size 14695981039346656037 0).fdiv (2 ^ 29))
section
variable {L L1 L2 : List HP} {w0 : World} {I : Foot}
theorem mix_tr {s : ByteArray} (hs : s.size ≤ 140737488355328) : TrP Tryz.prog 96 #[.string s] (SL w0 I L) (.int .u64 (mixv s)) := by
  refine TrP.ofD fun u => Tr.intro Tryz.func96 rfl Tryz.ntmps96 rfl ?_
  repeat' (first | ((first | refine WLA.m rfl rfl ?_ ?_ | refine WLA.st rfl ?_ ?_ | refine WLA.x rfl rfl ?_ (fun x => ?_) | refine WLA.x0 rfl ?_ (fun x => ?_)); first | exact sdT | skip) | (refine Stp.go ?_) | (refine WPA.ifT ?_) | (refine WPA.ifF ?_) | ((first | refine WPA.dec ?_); first | refine orL ?_ | refine orR ?_) | ((first | refine WPA.ifBt ?_ ?_ | refine WPA.ifBnf ?_ ?_); assumption) | ((first | refine WPA.ifBnt ?_ ?_ | refine WPA.ifBf ?_ ?_); assumption) | ((first | refine WPA.ifs ?_ ?_ | refine WPA.ifB ?_ ?_) <;> intro hc))
  refine WPA.loopS (σ := Nat × Int) (fun x => [(0, .string s), (3, .int .u64 x.2), (4, .int .i64 x.1)]) (fun x => x.1 ≤ s.size ∧ mixL s (s.size - x.1) x.2 x.1 = mixL s s.size 14695981039346656037 0)
    (fun _ => SLd w0 I L u) (fun x => s.size - x.1) (0, 14695981039346656037) ⟨rfl, rfl, rfl, trivial⟩ ⟨by omega, rfl⟩ (fun _ h => h) ?_
  rintro ⟨i, h⟩ ρ ⟨hi, hm⟩
  dsimp only at hi hm ⊢
  by_cases hlt : i < s.size
  · have hlt' : (i : Int) < s.size := by omega
    have hbt := bt_range s (i : Int)
    repeat' (first | ((first | refine WLA.m rfl rfl ?_ ?_ | refine WLA.st rfl ?_ ?_ | refine WLA.x rfl rfl ?_ (fun x => ?_) | refine WLA.x0 rfl ?_ (fun x => ?_)); first | exact sdT | skip) | (refine Stp.go ?_) | (refine WPA.ifT ?_) | (refine WPA.ifF ?_) | ((first | refine WPA.dec ?_); first | refine orL ?_ | refine orR ?_) | ((first | refine WPA.ifBt ?_ ?_ | refine WPA.ifBnf ?_ ?_); assumption) | ((first | refine WPA.ifBnt ?_ ?_ | refine WPA.ifBf ?_ ?_); assumption) | ((first | refine WPA.ifs ?_ ?_ | refine WPA.ifB ?_ ?_) <;> intro hc))
    obtain ⟨d, hd⟩ : ∃ d, s.size - i = d + 1 := ⟨s.size - i - 1, by omega⟩
    rw [hd, mixL, if_pos (by omega)] at hm
    exact QQ.loopS (i + 1, _) ⟨rfl, rfl, rfl, trivial⟩ ⟨by omega, by rw [show s.size - (i + 1) = d by omega]; push_cast; exact hm⟩ (by omega) (fun _ h => h)
  · have hlt' : ¬ (i : Int) < s.size := by omega
    repeat' (first | ((first | refine WLA.m rfl rfl ?_ ?_ | refine WLA.st rfl ?_ ?_ | refine WLA.x rfl rfl ?_ (fun x => ?_) | refine WLA.x0 rfl ?_ (fun x => ?_)); first | exact sdT | skip) | (refine Stp.go ?_) | (refine WPA.ifT ?_) | (refine WPA.ifF ?_) | ((first | refine WPA.dec ?_); first | refine orL ?_ | refine orR ?_) | ((first | refine WPA.ifBt ?_ ?_ | refine WPA.ifBnf ?_ ?_); assumption) | ((first | refine WPA.ifBnt ?_ ?_ | refine WPA.ifBf ?_ ?_); assumption) | ((first | refine WPA.ifs ?_ ?_ | refine WPA.ifB ?_ ?_) <;> intro hc))
    have e : s.size - i = 0 := by omega
    rw [e, mixL] at hm
    refine QQ.end_ rfl () ?_ (fun _ h => h)
    unfold mixv; rw [← hm]; rfl
theorem key_tr {B T : Nat} {vt : SV} {x1 x2 x3 : Value} {texts : List ByteArray} {z : Int} [h1 : FindBk L B 114 [.pointer (some ⟨T, 0, none⟩)] L1] [h2 : FindBk L T 137 [.slice vt.a vt.n vt.cap, x1, x2, x3] L2] [h3 : RdS I L vt ByteArray inferInstance texts] (hz : 0 ≤ z ∧ z < texts.length) :
    TrP Tryz.prog 97 #[.int .i64 z, .pointer (some ⟨B, 0, none⟩)] (SL w0 I L) (.string (at_ texts z)) := by
  refine TrP.ofD fun u => Tr.intro Tryz.func97 rfl Tryz.ntmps97 rfl ?_
  repeat' (first | ((first | refine WLA.m rfl rfl ?_ ?_ | refine WLA.st rfl ?_ ?_ | refine WLA.x rfl rfl ?_ (fun x => ?_) | refine WLA.x0 rfl ?_ (fun x => ?_)); first | exact sdT | skip) | (refine Stp.go ?_) | (refine WPA.ifT ?_) | (refine WPA.ifF ?_) | ((first | refine WPA.dec ?_); first | refine orL ?_ | refine orR ?_) | ((first | refine WPA.ifBt ?_ ?_ | refine WPA.ifBnf ?_ ?_); assumption) | ((first | refine WPA.ifBnt ?_ ?_ | refine WPA.ifBf ?_ ?_); assumption) | ((first | refine WPA.ifs ?_ ?_ | refine WPA.ifB ?_ ?_) <;> intro hc))
  exact QQ.end_ rfl () rfl (fun _ h => h)
def placeL (texts : List ByteArray) (sl : List Int) (s : ByteArray) : Nat → Nat → Option Nat
  | 0, _ => none
  | f + 1, i => if sl.getD i 0 = 0 then some i else if texts.getD (sl.getD i 0 - 1).toNat ⟨#[]⟩ = s then some i else placeL texts sl s f ((i + 1) % sl.length)
def start (sl : List Int) (s : ByteArray) : Nat := (mixv s % (sl.length : Int)).toNat
theorem and_mask (a : Int) (p : Nat) (hp : p ≤ 62) : Go.bits .and .i64 a (2 ^ p - 1) = a % 2 ^ p := by
  have hlt : (2 : Nat) ^ p < 2 ^ 63 := Nat.pow_lt_pow_right (by omega) (by omega)
  have hpos : 0 < (2 : Nat) ^ p := Nat.pow_pos (by omega)
  have hc : ((2 : Int) ^ p) = ((2 ^ p : Nat) : Int) := by push_cast; rfl
  have e1 : (BitVec.ofInt 64 (2 ^ p - 1)).toNat = 2 ^ p - 1 := by
    rw [BitVec.toNat_ofInt, hc]
    have : (((2 ^ p : Nat) : Int) - 1) % ((2 ^ 64 : Nat) : Int) = ((2 ^ p : Nat) : Int) - 1 := Int.emod_eq_of_lt (by omega) (by omega)
    rw [this]; omega
  have e2 : (BitVec.ofInt 64 a &&& BitVec.ofInt 64 (2 ^ p - 1)).toNat = (a % 2 ^ p).toNat := by
    rw [BitVec.toNat_and, e1, Nat.and_two_pow_sub_one_eq_mod, BitVec.toNat_ofInt]
    have h1 : ((a % ((2 ^ 64 : Nat) : Int)).toNat : Int) = a % ((2 ^ 64 : Nat) : Int) := Int.toNat_of_nonneg (Int.emod_nonneg _ (by decide))
    have h2 : (((a % ((2 ^ 64 : Nat) : Int)).toNat % 2 ^ p : Nat) : Int) = a % ((2 ^ p : Nat) : Int) := by
      rw [Int.natCast_emod, h1]
      refine Int.emod_emod_of_dvd a ?_
      refine Int.natCast_dvd_natCast.2 (Nat.pow_dvd_pow 2 (by omega))
    rw [hc]; omega
  have e3 : 0 ≤ a % (2 : Int) ^ p ∧ a % (2 : Int) ^ p < 2 ^ p := by
    rw [hc]; exact ⟨Int.emod_nonneg _ (by omega), Int.emod_lt_of_pos _ (by omega)⟩
  show IntKind.i64.wrap ((BitVec.ofInt 64 a &&& BitVec.ofInt 64 (2 ^ p - 1)).toNat : Int) = _
  rw [e2, wrap_i64]
  · omega
  · rw [hc] at e3 ⊢; omega
theorem wrap_mod (a : Int) (p : Nat) (hp : p ≤ 62) : IntKind.i64.wrap a % 2 ^ p = a % 2 ^ p := by
  have hd : ((2 : Int) ^ p) ∣ 18446744073709551616 := by
    have : (18446744073709551616 : Int) = 2 ^ p * 2 ^ (64 - p) := by rw [← Int.pow_add, show p + (64 - p) = 64 by omega]; rfl
    exact ⟨_, this⟩
  have e : IntKind.i64.wrap a = a % 18446744073709551616 ∨ IntKind.i64.wrap a = a % 18446744073709551616 - 18446744073709551616 := by
    simp only [IntKind.wrap, IntKind.bits, IntKind.signed]; simp; omega
  rcases e with e | e
  · rw [e, Int.emod_emod_of_dvd _ hd]
  · obtain ⟨c, hc⟩ := hd
    rw [e]
    conv => lhs; rw [hc]
    rw [Int.sub_mul_emod_self_left, ← hc, Int.emod_emod_of_dvd _ ⟨c, hc⟩]
def i32s (l : List Int) : List (KInt .i32) := l
abbrev slv (l : List Int) (i : Nat) : Int := ofK (at_ (i32s l) (i : Int))
theorem i32s_at (l : List Int) (i : Nat) : slv l i = l.getD i 0 := rfl
theorem i32s_len (l : List Int) : (i32s l).length = l.length := rfl
set_option maxHeartbeats 4000000 in
theorem place_tr {B T p f r : Nat} {vt sa : SV} {texts : List ByteArray} {sl : List Int} {s : ByteArray} [h1 : FindBk L B 114 [.pointer (some ⟨T, 0, none⟩)] L1] [h2 : FindBk L T 137 [.slice vt.a vt.n vt.cap, .slice sa.a sa.n sa.cap, .func (.func 96) #[] #[], .func (.func 97) #[] #[.pointer (some ⟨B, 0, none⟩)]] L2]
    [h3 : RdS I L vt ByteArray inferInstance texts] [h4 : RdS I L sa (KInt .i32) inferInstance (i32s sl)]
    (hp : sl.length = 2 ^ p) (hp2 : p ≤ 40) (hat : ∀ i, i < sl.length → 0 ≤ sl.getD i 0 ∧ sl.getD i 0 ≤ texts.length) (hn : texts.length ≤ 2147483647) (hs : s.size ≤ 140737488355328) (hr : placeL texts sl s f (start sl s) = some r) :
    TrP Tryz.prog 82 #[.pointer (some ⟨T, 1, none⟩), .string s] (SL w0 I L) (.int .i64 r) := by
  have hm0 : 0 < sl.length := by rw [hp]; exact Nat.pow_pos (by omega)
  have hm1 : (sl.length : Int) ≤ 1099511627776 := by
    have : 2 ^ p ≤ 2 ^ 40 := Nat.pow_le_pow_right (by omega) hp2
    omega
  have hpi : (sl.length : Int) = 2 ^ p := by rw [hp]; push_cast; rfl
  have hst : start sl s < sl.length := by
    unfold start
    have := Int.emod_lt_of_pos (mixv s) (show (0 : Int) < sl.length by omega)
    have := Int.emod_nonneg (mixv s) (show (sl.length : Int) ≠ 0 by omega)
    omega
  have hs0 : Go.bits .and .i64 (IntKind.i64.wrap (mixv s)) ((sl.length : Int) - 1) = (start sl s : Int) := by
    unfold start
    rw [hpi, and_mask _ _ (by omega), wrap_mod _ _ (by omega), Int.toNat_of_nonneg]
    exact Int.emod_nonneg _ (by rw [← hpi]; omega)
  have hlen := i32s_len sl
  refine TrP.ofD fun u => Tr.intro Tryz.func82 rfl Tryz.ntmps82 rfl ?_
  repeat' (first | (guard_target =~ WLA _ _ _ _ _ (⟨_, .convert _ _ _, _, _, _, _⟩ :: _) _ _; refine WLA.m (h := convW) rfl rfl trivial ?_) | (guard_target =~ WDQ _ _ _ _ _ _ _ ⟨_, .convert _ _ _, _, _, _, _⟩ _ _ _; refine WDQ.m (h := convW) rfl rfl trivial ?_) | (guard_target =~ WDP _ _ _ _ _ _ _ ⟨_, .convert _ _ _, _, _, _, _⟩ _ _ _; refine WDP.m (h := convW) rfl rfl trivial ?_) | ((first | refine WLA.m rfl rfl ?_ ?_ | refine WLA.st rfl ?_ ?_ | refine WLA.x rfl rfl ?_ (fun x => ?_) | refine WLA.x0 rfl ?_ (fun x => ?_)); first | exact sdT | skip) | (refine Stp.go ?_) | (guard_target =~ WLA _ _ _ _ _ (⟨_, .call ⟨.value (.tmp _), _, _⟩, _, _, _, _⟩ :: _) _ _; refine WLA.cqV rfl rfl (mix_tr hs) ?_) | (refine WPA.ifT ?_) | (refine WPA.ifF ?_) | ((first | refine WPA.dec ?_); first | refine orL ?_ | refine orR ?_) | ((first | refine WPA.ifBt ?_ ?_ | refine WPA.ifBnf ?_ ?_); assumption) | ((first | refine WPA.ifBnt ?_ ?_ | refine WPA.ifBf ?_ ?_); assumption) | ((first | refine WPA.ifs ?_ ?_ | refine WPA.ifB ?_ ?_) <;> intro hc))
  refine WPA.loopS (σ := Nat × Nat) (fun x => [(0, .pointer (some ⟨T, 1, none⟩)), (1, .string s), (5, .int .i64 ((sl.length : Int) - 1)), (6, .int .i64 x.2)]) (fun x => x.2 < sl.length ∧ placeL texts sl s x.1 x.2 = some r)
    (fun _ => SLd w0 I L u) (fun x => x.1) (f, start sl s) ⟨rfl, rfl, rfl, congrArg (Value.int .i64) hs0, trivial⟩ ⟨hst, hr⟩ (fun _ h => h) ?_
  rintro ⟨f, i⟩ ρ ⟨hi, hf⟩
  dsimp only at hi hf ⊢
  cases f with
  | zero => simp [placeL] at hf
  | succ f =>
    rw [placeL] at hf
    have hx := i32s_at sl i
    have hb := hat i hi
    have hx1 : (i : Int) < (i32s sl).length := by rw [hlen]; omega
    clear hat hr hs0
    by_cases he : sl.getD i 0 = 0
    · rw [if_pos he] at hf
      have he' : ¬ slv sl i ≠ 0 := fun h => h (hx.trans he)
      cases hf
      repeat' (first | ((first | refine WLA.m rfl rfl ?_ ?_ | refine WDQ.m rfl rfl ?_ ?_ | refine WLA.st rfl ?_ ?_ | refine WLA.x rfl rfl ?_ (fun x => ?_) | refine WLA.x0 rfl ?_ (fun x => ?_)); first | exact sdT | skip) | (refine Stp.go ?_) | (guard_target =~ WLA _ _ _ _ _ (⟨_, .call ⟨.value (.tmp _), _, _⟩, _, _, _, _⟩ :: _) _ _; refine WLA.cqV rfl rfl (key_tr (by assumption)) ?_) | (refine WPA.ifT ?_) | (refine WPA.ifF ?_) | (refine WLA.no rfl rfl ?_) | (refine WDQ.no rfl rfl ?_) | ((first | refine WPA.dec ?_ | ((fail_if_success (guard_target =~ WLA _ _ _ _ _ _ (put1 _ _ (.bool true)) _)); (fail_if_success (guard_target =~ WLA _ _ _ _ _ _ (put1 _ _ (.bool false)) _)); refine WLA.dec rfl rfl ?_) | refine WLA.pk ?_ | refine WDQ.dec rfl rfl ?_); first | refine orL ?_ | refine orR ?_) | ((first | refine WPA.ifBt ?_ ?_ | refine WPA.ifBnf ?_ ?_); assumption) | ((first | refine WPA.ifBnt ?_ ?_ | refine WPA.ifBf ?_ ?_); assumption) | ((first | refine WPA.ifs ?_ ?_ | refine WPA.ifB ?_ ?_) <;> intro hc) | ((fail_if_success (guard_target =~ WLA _ _ _ _ _ _ (put1 _ _ (.bool true)) _)); (fail_if_success (guard_target =~ WLA _ _ _ _ _ _ (put1 _ _ (.bool false)) _)); (first | refine WLA.both rfl rfl ?_ ?_ | refine WLA.bothB rfl rfl ?_ ?_) <;> intro hg) | (guard_target =~ WPA _ _ _ (.region 3 _ true) _ _ _; refine WPA.drawT 24 (.q 0 (.q 1 (.q 2 (.q 3 (.q 4 (.q 5 (.q 6 (.q 7 (.q 8 (.q 9 (.q 10 (.q 11 (.q 12 (.q 13 (.q 14 (.q 15 (.q 16 (.q 17 (.q 18 (.q 19 (.q 20 (.q 21 (.q 22 (.q 23 .fin)))))))))))))))))))))))) mixed ?_ ?_; kernel_rfl) | (refine WDA.finish (tl := [⟨_, _, _, _, _, _⟩, ⟨_, _, _, _, _, _⟩]) rfl ?_) | (refine WDQ.see rfl ?_) | (guard_target =~ WDQ _ _ _ _ _ _ _ ⟨_, .call ⟨.value (.tmp _), _, _⟩, _, _, _, _⟩ _ _ _; refine WDQ.cqV rfl rfl (key_tr (by assumption)) ?_) | ((first | refine WDQ.both rfl rfl ?_ ?_) <;> intro hg))
      exact QQ.end_ rfl () rfl (fun _ h => h)
    · rw [if_neg he] at hf
      have he' : slv sl i ≠ 0 := fun h => he (hx.symm.trans h)
      have hj : 0 ≤ slv sl i - 1 ∧ slv sl i - 1 < texts.length := by rw [hx]; omega
      have hw : -9223372036854775808 ≤ ofK (at_ (i32s sl) (i : Int)) ∧ ofK (at_ (i32s sl) (i : Int)) ≤ 9223372036854775807 := by have := hx; unfold slv at this; rw [this]; omega
      have hw2 : -9223372036854775808 ≤ ofK (at_ (i32s sl) (i : Int)) - 1 ∧ ofK (at_ (i32s sl) (i : Int)) - 1 ≤ 9223372036854775807 := by have := hx; unfold slv at this; rw [this]; omega
      have hg : texts.getD (sl.getD i 0 - 1).toNat ⟨#[]⟩ = at_ texts (slv sl i - 1) := by rw [hx]; rfl
      rw [hg] at hf
      have hand : Go.bits .and .i64 ((i : Int) + 1) ((sl.length : Int) - 1) = (((i + 1) % sl.length : Nat) : Int) := by
        rw [hpi, and_mask _ _ (by omega), ← hpi]; push_cast; rfl
      by_cases hc : at_ texts (slv sl i - 1) = s
      · rw [if_pos hc] at hf
        have hc' : ¬ at_ texts (slv sl i - 1) ≠ s := fun h => h hc
        cases hf
        repeat' (first | ((first | refine WLA.m rfl rfl ?_ ?_ | refine WDQ.m rfl rfl ?_ ?_ | refine WLA.st rfl ?_ ?_ | refine WLA.x rfl rfl ?_ (fun x => ?_) | refine WLA.x0 rfl ?_ (fun x => ?_)); first | exact sdT | skip) | (refine Stp.go ?_) | (guard_target =~ WLA _ _ _ _ _ (⟨_, .call ⟨.value (.tmp _), _, _⟩, _, _, _, _⟩ :: _) _ _; refine WLA.cqV rfl rfl (key_tr hj) ?_) | (refine WPA.ifT ?_) | (refine WPA.ifF ?_) | (refine WLA.no rfl rfl ?_) | (refine WDQ.no rfl rfl ?_) | ((first | refine WPA.dec ?_ | ((fail_if_success (guard_target =~ WLA _ _ _ _ _ _ (put1 _ _ (.bool true)) _)); (fail_if_success (guard_target =~ WLA _ _ _ _ _ _ (put1 _ _ (.bool false)) _)); refine WLA.dec rfl rfl ?_) | refine WLA.pk ?_ | refine WDQ.dec rfl rfl ?_); first | refine orL ?_ | refine orR ?_) | ((first | refine WPA.ifBt ?_ ?_ | refine WPA.ifBnf ?_ ?_); assumption) | ((first | refine WPA.ifBnt ?_ ?_ | refine WPA.ifBf ?_ ?_); assumption) | ((first | refine WPA.ifs ?_ ?_ | refine WPA.ifB ?_ ?_) <;> intro hc) | ((fail_if_success (guard_target =~ WLA _ _ _ _ _ _ (put1 _ _ (.bool true)) _)); (fail_if_success (guard_target =~ WLA _ _ _ _ _ _ (put1 _ _ (.bool false)) _)); (first | refine WLA.both rfl rfl ?_ ?_ | refine WLA.bothB rfl rfl ?_ ?_) <;> intro hg) | (guard_target =~ WPA _ _ _ (.region 3 _ true) _ _ _; refine WPA.drawT 24 (.q 0 (.q 1 (.q 2 (.q 3 (.q 4 (.q 5 (.q 6 (.q 7 (.q 8 (.q 9 (.q 10 (.q 11 (.q 12 (.q 13 (.q 14 (.q 15 (.q 16 (.q 17 (.q 18 (.q 19 (.q 20 (.q 21 (.q 22 (.q 23 .fin)))))))))))))))))))))))) mixed ?_ ?_; kernel_rfl) | (refine WDA.finish (tl := [⟨_, _, _, _, _, _⟩, ⟨_, _, _, _, _, _⟩]) rfl ?_) | (refine WDQ.see rfl ?_) | (guard_target =~ WDQ _ _ _ _ _ _ _ ⟨_, .call ⟨.value (.tmp _), _, _⟩, _, _, _, _⟩ _ _ _; refine WDQ.cqV rfl rfl (key_tr hj) ?_) | ((first | refine WDQ.both rfl rfl ?_ ?_) <;> intro hg))
        exact QQ.end_ rfl () rfl (fun _ h => h)
      · rw [if_neg hc] at hf
        have hc' : at_ texts (slv sl i - 1) ≠ s := hc
        repeat' (first | ((first | refine WLA.m rfl rfl ?_ ?_ | refine WDQ.m rfl rfl ?_ ?_ | refine WLA.st rfl ?_ ?_ | refine WLA.x rfl rfl ?_ (fun x => ?_) | refine WLA.x0 rfl ?_ (fun x => ?_)); first | exact sdT | skip) | (refine Stp.go ?_) | (guard_target =~ WLA _ _ _ _ _ (⟨_, .call ⟨.value (.tmp _), _, _⟩, _, _, _, _⟩ :: _) _ _; refine WLA.cqV rfl rfl (key_tr hj) ?_) | (refine WPA.ifT ?_) | (refine WPA.ifF ?_) | (refine WLA.no rfl rfl ?_) | (refine WDQ.no rfl rfl ?_) | ((first | refine WPA.dec ?_ | ((fail_if_success (guard_target =~ WLA _ _ _ _ _ _ (put1 _ _ (.bool true)) _)); (fail_if_success (guard_target =~ WLA _ _ _ _ _ _ (put1 _ _ (.bool false)) _)); refine WLA.dec rfl rfl ?_) | refine WLA.pk ?_ | refine WDQ.dec rfl rfl ?_); first | refine orL ?_ | refine orR ?_) | ((first | refine WPA.ifBt ?_ ?_ | refine WPA.ifBnf ?_ ?_); assumption) | ((first | refine WPA.ifBnt ?_ ?_ | refine WPA.ifBf ?_ ?_); assumption) | ((first | refine WPA.ifs ?_ ?_ | refine WPA.ifB ?_ ?_) <;> intro hc) | ((fail_if_success (guard_target =~ WLA _ _ _ _ _ _ (put1 _ _ (.bool true)) _)); (fail_if_success (guard_target =~ WLA _ _ _ _ _ _ (put1 _ _ (.bool false)) _)); (first | refine WLA.both rfl rfl ?_ ?_ | refine WLA.bothB rfl rfl ?_ ?_) <;> intro hg) | (guard_target =~ WPA _ _ _ (.region 3 _ true) _ _ _; refine WPA.drawT 24 (.q 0 (.q 1 (.q 2 (.q 3 (.q 4 (.q 5 (.q 6 (.q 7 (.q 8 (.q 9 (.q 10 (.q 11 (.q 12 (.q 13 (.q 14 (.q 15 (.q 16 (.q 17 (.q 18 (.q 19 (.q 20 (.q 21 (.q 22 (.q 23 .fin)))))))))))))))))))))))) mixed ?_ ?_; kernel_rfl) | (refine WDA.finish (tl := [⟨_, _, _, _, _, _⟩, ⟨_, _, _, _, _, _⟩]) rfl ?_) | (refine WDQ.see rfl ?_) | (guard_target =~ WDQ _ _ _ _ _ _ _ ⟨_, .call ⟨.value (.tmp _), _, _⟩, _, _, _, _⟩ _ _ _; refine WDQ.cqV rfl rfl (key_tr hj) ?_) | ((first | refine WDQ.both rfl rfl ?_ ?_) <;> intro hg))
        exact QQ.loopS (f, (i + 1) % sl.length) ⟨rfl, rfl, rfl, congrArg (Value.int .i64) hand, trivial⟩ ⟨Nat.mod_lt _ hm0, hf⟩ (Nat.lt_succ_self _) (fun _ h => h)
end
end Go.Proofs.YthkhneimfjaohaaGreatDoor
namespace Go.Proofs.YthkhneimfjaohaaGreatDoor
set_option linter.unusedVariables false
open Go
def pos (m i d : Nat) : Nat := (i + d) % m
theorem pos_succ (m i d : Nat) : (pos m i d + 1) % m = pos m i (d + 1) := by unfold pos; rw [Nat.mod_add_mod, Nat.add_assoc]
theorem pos_zero {m i : Nat} (h : i < m) : pos m i 0 = i := by unfold pos; simp [Nat.mod_eq_of_lt h]
theorem pos_lt {m : Nat} (hm : 0 < m) (i d : Nat) : pos m i d < m := Nat.mod_lt _ hm
theorem pos_all {m i z : Nat} (hi : i < m) (hz : z < m) : ∃ d, d < m ∧ pos m i d = z := by
  by_cases h : i ≤ z
  · exact ⟨z - i, by omega, by unfold pos; rw [show i + (z - i) = z by omega, Nat.mod_eq_of_lt hz]⟩
  · exact ⟨m - i + z, by omega, by unfold pos; rw [show i + (m - i + z) = z + m by omega, Nat.add_mod_right, Nat.mod_eq_of_lt hz]⟩
def stops (texts : List ByteArray) (at_ : List Int) (s : ByteArray) (x : Nat) : Prop := at_.getD x 0 = 0 ∨ texts.getD (at_.getD x 0 - 1).toNat ⟨#[]⟩ = s
theorem placeL_at {texts : List ByteArray} {at_ : List Int} {s : ByteArray} (i : Nat) : ∀ (k d : Nat), stops texts at_ s (pos at_.length i (d + k)) → (∀ e, e < k → ¬ stops texts at_ s (pos at_.length i (d + e))) →
    placeL texts at_ s (k + 1) (pos at_.length i d) = some (pos at_.length i (d + k)) := by
  intro k
  induction k with
  | zero =>
    intro d h _
    rw [placeL]
    simp only [Nat.add_zero] at h ⊢
    rcases h with h | h
    · rw [if_pos h]
    · by_cases h0 : at_.getD (pos at_.length i d) 0 = 0
      · rw [if_pos h0]
      · rw [if_neg h0, if_pos h]
  | succ k ih =>
    intro d h hn
    have h0 := hn 0 (by omega)
    simp only [Nat.add_zero, stops, not_or] at h0
    rw [placeL, if_neg h0.1, if_neg h0.2, pos_succ]
    have := ih (d + 1) (by rw [show d + 1 + k = d + (k + 1) by omega]; exact h) (fun e he => by rw [show d + 1 + e = d + (e + 1) by omega]; exact hn (e + 1) (by omega))
    rw [this, show d + 1 + k = d + (k + 1) by omega]
theorem least {p : Nat → Prop} : ∀ n, p n → ∃ k, k ≤ n ∧ p k ∧ ∀ e, e < k → ¬ p e := by
  intro n
  induction n using Nat.strongRecOn with
  | _ n ih =>
    intro h
    by_cases hx : ∃ e, e < n ∧ p e
    · obtain ⟨e, he, hp⟩ := hx
      obtain ⟨k, hk, h1, h2⟩ := ih e he hp
      exact ⟨k, by omega, h1, h2⟩
    · exact ⟨n, Nat.le_refl _, h, fun e he hp => hx ⟨e, he, hp⟩⟩
structure Good (texts : List ByteArray) (at_ : List Int) : Prop where
  range : ∀ i, i < at_.length → 0 ≤ at_.getD i 0 ∧ at_.getD i 0 ≤ texts.length
  path : ∀ j (hj : j < texts.length), ∃ d, at_.getD (pos at_.length (start at_ texts[j]) d) 0 = (j : Int) + 1 ∧ ∀ e, e < d → at_.getD (pos at_.length (start at_ texts[j]) e) 0 ≠ 0
  nodup : texts.Nodup
  few : (at_.filter (fun x => decide (x ≠ 0))).length ≤ texts.length
  some_ : 0 < at_.length
theorem start_lt {at_ : List Int} (h : 0 < at_.length) (s : ByteArray) : start at_ s < at_.length := by
  unfold start
  have := Int.emod_lt_of_pos (mixv s) (show (0 : Int) < at_.length by omega)
  have := Int.emod_nonneg (mixv s) (show (at_.length : Int) ≠ 0 by omega)
  omega
theorem Good.found {texts : List ByteArray} {at_ : List Int} (g : Good texts at_) {j : Nat} (hj : j < texts.length) : ∃ f r, placeL texts at_ texts[j] f (start at_ texts[j]) = some r ∧ r < at_.length ∧ at_.getD r 0 = (j : Int) + 1 := by
  obtain ⟨d, h1, h2⟩ := g.path j hj
  have hs : stops texts at_ texts[j] (pos at_.length (start at_ texts[j]) d) := .inr (by rw [h1]; simp [hj])
  obtain ⟨k, hk, h3, h4⟩ := least (p := fun e => stops texts at_ texts[j] (pos at_.length (start at_ texts[j]) e)) d hs
  have hp := placeL_at (texts := texts) (s := texts[j]) (start at_ texts[j]) k 0 (by simpa using h3) (fun e he => by simpa using h4 e he)
  rw [pos_zero (start_lt g.some_ _), Nat.zero_add] at hp
  refine ⟨k + 1, _, hp, pos_lt g.some_ _ _, ?_⟩
  rcases h3 with h3 | h3
  · rcases Nat.lt_or_ge k d with h | h
    · exact absurd h3 (h2 k h)
    · have : k = d := by omega
      subst this; exact h1
  · have hr := g.range _ (pos_lt g.some_ (start at_ texts[j]) k)
    by_cases h0 : at_.getD (pos at_.length (start at_ texts[j]) k) 0 = 0
    · rcases Nat.lt_or_ge k d with h | h
      · exact absurd h0 (h2 k h)
      · have : k = d := by omega
        subst this; exact h1
    · obtain ⟨q, hq⟩ : ∃ q : Nat, at_.getD (pos at_.length (start at_ texts[j]) k) 0 = (q : Int) + 1 := ⟨(at_.getD (pos at_.length (start at_ texts[j]) k) 0 - 1).toNat, by omega⟩
      rw [hq] at h3 hr ⊢
      have hql : q < texts.length := by omega
      have e : texts[q] = texts[j] := by simpa [hql] using h3
      have := (List.nodup_iff_pairwise_ne.1 g.nodup)
      have hqj : q = j := by
        rcases Nat.lt_trichotomy q j with h | h | h
        · exact absurd e (List.pairwise_iff_getElem.1 g.nodup q j hql hj h)
        · exact h
        · exact absurd e.symm (List.pairwise_iff_getElem.1 g.nodup j q hj hql h)
      rw [hqj]
theorem has_zero {l : List Int} (h : (l.filter (fun x => decide (x ≠ 0))).length < l.length) : ∃ z, z < l.length ∧ l.getD z 0 = 0 := by
  apply Classical.byContradiction
  intro hn
  have : l.filter (fun x => decide (x ≠ 0)) = l := List.filter_eq_self.2 fun a ha => by
    obtain ⟨i, hi, e⟩ := List.getElem_of_mem ha
    rw [decide_eq_true_eq]
    intro h0
    exact hn ⟨i, hi, by simp [List.getD_eq_getElem?_getD, hi, e, h0]⟩
  rw [this] at h; omega
theorem Good.free {texts : List ByteArray} {at_ : List Int} (g : Good texts at_) (hlt : texts.length < at_.length) {s : ByteArray} (hs : s ∉ texts) :
    ∃ f d, placeL texts at_ s f (start at_ s) = some (pos at_.length (start at_ s) d) ∧ at_.getD (pos at_.length (start at_ s) d) 0 = 0 ∧ ∀ e, e < d → at_.getD (pos at_.length (start at_ s) e) 0 ≠ 0 := by
  obtain ⟨z, hz, h0⟩ := has_zero (l := at_) (by have := g.few; omega)
  obtain ⟨d0, _, hd⟩ := pos_all (start_lt g.some_ s) hz
  obtain ⟨k, hk, h3, h4⟩ := least (p := fun e => stops texts at_ s (pos at_.length (start at_ s) e)) d0 (by show stops _ _ _ _; rw [hd]; exact .inl h0)
  have hp := placeL_at (texts := texts) (s := s) (start at_ s) k 0 (by simpa using h3) (fun e he => by simpa using h4 e he)
  rw [pos_zero (start_lt g.some_ _), Nat.zero_add] at hp
  refine ⟨k + 1, k, hp, ?_, fun e he h => h4 e he (.inl h)⟩
  rcases h3 with h3 | h3
  · exact h3
  · have hr := g.range _ (pos_lt g.some_ (start at_ s) k)
    by_cases h0 : at_.getD (pos at_.length (start at_ s) k) 0 = 0
    · exact h0
    · exfalso
      apply hs
      have hql : (at_.getD (pos at_.length (start at_ s) k) 0 - 1).toNat < texts.length := by omega
      rw [← h3, List.getD_eq_getElem?_getD, List.getElem?_eq_getElem hql, Option.getD_some]
      exact List.getElem_mem hql
theorem filter_set_le (p : Int → Bool) (v : Int) : ∀ (l : List Int) (r : Nat), ((l.set r v).filter p).length ≤ (l.filter p).length + 1
  | [], r => by simp
  | a :: l, 0 => by
    simp only [List.set_cons_zero, List.filter_cons]
    split <;> split <;> simp <;> omega
  | a :: l, r + 1 => by
    have := filter_set_le p v l r
    simp only [List.set_cons_succ, List.filter_cons]
    split <;> simp <;> omega
theorem start_set (at_ : List Int) (r : Nat) (v : Int) (s : ByteArray) : start (at_.set r v) s = start at_ s := by unfold start; simp
theorem getD_set (l : List Int) (r i : Nat) (v : Int) : (l.set r v).getD i 0 = if i = r ∧ r < l.length then v else l.getD i 0 := by
  simp only [List.getD_eq_getElem?_getD, List.getElem?_set]
  by_cases h : r = i
  · subst h
    by_cases h2 : r < l.length <;> simp [h2]
  · rw [if_neg h, if_neg (fun hh => h hh.1.symm)]
theorem Good.insert {texts : List ByteArray} {at_ : List Int} (g : Good texts at_) {s : ByteArray} (hs : s ∉ texts) {d : Nat} (h0 : at_.getD (pos at_.length (start at_ s) d) 0 = 0) (hp : ∀ e, e < d → at_.getD (pos at_.length (start at_ s) e) 0 ≠ 0) :
    Good (texts ++ [s]) (at_.set (pos at_.length (start at_ s) d) ((texts.length : Int) + 1)) := by
  have hl := pos_lt g.some_ (start at_ s) d
  refine ⟨fun i hi => ?_, fun j hj => ?_, ?_, ?_, by simpa using g.some_⟩
  · rw [getD_set]
    simp only [List.length_set] at hi
    have := g.range i hi
    rw [List.length_append, List.length_singleton]
    split
    · constructor <;> omega
    · exact ⟨this.1, by omega⟩
  · simp only [List.length_set, start_set]
    by_cases hjl : j < texts.length
    · have e : (texts ++ [s])[j] = texts[j] := List.getElem_append_left hjl
      rw [e]
      obtain ⟨d', h1, h2⟩ := g.path j hjl
      refine ⟨d', ?_, fun e he => ?_⟩
      · rw [getD_set, if_neg, h1]
        rintro ⟨e1, _⟩; rw [e1, h0] at h1; omega
      · rw [getD_set]
        split
        · omega
        · exact h2 e he
    · have hj' : j = texts.length := by simp at hj; omega
      subst hj'
      have e : (texts ++ [s])[texts.length] = s := by simp
      rw [e]
      refine ⟨d, by rw [getD_set, if_pos ⟨rfl, hl⟩], fun e he => ?_⟩
      rw [getD_set]
      split
      · omega
      · exact hp e he
  · rw [List.nodup_append]
    exact ⟨g.nodup, by simp, fun a ha b hb => by simp at hb; subst hb; rintro rfl; exact hs ha⟩
  · have := filter_set_le (fun x => decide (x ≠ 0)) ((texts.length : Int) + 1) at_ (pos at_.length (start at_ s) d)
    have := g.few
    simp only [List.length_append, List.length_singleton]
    omega
theorem good_empty {m : Nat} (hm : 0 < m) : Good [] (List.replicate m 0) := by
  refine ⟨fun i hi => ?_, fun j hj => by simp at hj, List.nodup_nil, by simp, by simpa using hm⟩
  simp at hi
  simp [List.getD_eq_getElem?_getD, hi]
theorem placeL_take {texts : List ByteArray} {at_ : List Int} {s : ByteArray} {k : Nat} (hr : ∀ i, i < at_.length → 0 ≤ at_.getD i 0 ∧ at_.getD i 0 ≤ k) (hk : k ≤ texts.length) (h0 : 0 < at_.length) :
    ∀ f i, i < at_.length → placeL (texts.take k) at_ s f i = placeL texts at_ s f i := by
  intro f
  induction f with
  | zero => intro i _; rfl
  | succ f ih =>
    intro i hi
    rw [placeL, placeL]
    by_cases h : at_.getD i 0 = 0
    · rw [if_pos h, if_pos h]
    · have := hr i hi
      have hl : (at_.getD i 0 - 1).toNat < k := by omega
      have e : (texts.take k).getD (at_.getD i 0 - 1).toNat ⟨#[]⟩ = texts.getD (at_.getD i 0 - 1).toNat ⟨#[]⟩ := by
        rw [List.getD_eq_getElem?_getD, List.getElem?_take, if_pos hl, ← List.getD_eq_getElem?_getD]
      rw [if_neg h, if_neg h, e, ih _ (Nat.mod_lt _ h0)]
theorem len_of {m k n : Nat} (hm : m = 8 * 2 ^ k) (h : k = 0 ∨ m < 4 * n) (hn : n ≤ 1000000000) : m = 2 ^ (k + 3) ∧ k + 3 ≤ 35 := by
  refine ⟨by rw [hm, Nat.pow_add]; omega, ?_⟩
  rcases h with h | h
  · omega
  · apply Classical.byContradiction
    intro hk
    have : 2 ^ 32 ≤ 2 ^ k := Nat.pow_le_pow_right (by omega) (by omega)
    omega
def findT : List ByteArray → ByteArray → Int
  | [], _ => -1
  | a :: l, s => if a = s then 0 else if findT l s < 0 then -1 else findT l s + 1
def putT (l : List ByteArray) (s : ByteArray) : List ByteArray := if findT l s < 0 then l ++ [s] else l
theorem findT_range : ∀ (l : List ByteArray) (s : ByteArray), -1 ≤ findT l s ∧ findT l s < l.length
  | [], s => by simp [findT]
  | a :: l, s => by
    have := findT_range l s
    simp only [findT, List.length_cons]
    split
    · omega
    · split <;> omega
theorem findT_some : ∀ (l : List ByteArray) (s : ByteArray) (j : Nat), findT l s = j → ∃ h : j < l.length, l[j] = s
  | [], s, j, h => by simp only [findT] at h; omega
  | a :: l, s, j, h => by
    simp only [findT] at h
    split at h
    · have : j = 0 := by omega
      subst this; exact ⟨by simp, by simpa⟩
    · split at h
      · omega
      · cases j with
        | zero => have := findT_range l s; omega
        | succ j =>
          obtain ⟨h1, h2⟩ := findT_some l s j (by omega)
          exact ⟨by simpa using h1, by simpa using h2⟩
theorem findT_none : ∀ (l : List ByteArray) (s : ByteArray), findT l s < 0 ↔ s ∉ l
  | [], s => by simp [findT]; try omega
  | a :: l, s => by
    have := findT_none l s
    simp only [findT, List.mem_cons, not_or]
    split
    · rename_i h; subst h; simp
    · rename_i h
      have h' : s ≠ a := fun e => h e.symm
      split
      · rename_i h2; exact ⟨fun _ => ⟨h', this.1 h2⟩, fun _ => by omega⟩
      · rename_i h2; exact ⟨fun h3 => by omega, fun h3 => absurd (this.2 h3.2) h2⟩
theorem putT_find (l : List ByteArray) (s : ByteArray) : findT (putT l s) s = if findT l s < 0 then (l.length : Int) else findT l s := by
  unfold putT
  split
  · rename_i h
    have hn := (findT_none _ _).1 h
    clear h
    induction l with
    | nil => simp [findT]
    | cons a l ih =>
      simp only [List.mem_cons, not_or] at hn
      have ha : ¬ a = s := fun e => hn.1 e.symm
      simp only [List.cons_append, findT, if_neg ha, ih hn.2, List.length_cons]
      rw [if_neg (by omega)]; push_cast; rfl
  · rfl
theorem findT_split (l : List ByteArray) (s : ByteArray) (i : Nat) (hi : i < l.length) (h0 : findT (l.take i) s < 0) : if l[i] = s then findT l s = i else findT (l.take (i + 1)) s < 0 := by
  induction l generalizing i with
  | nil => simp at hi
  | cons a l ih =>
    cases i with
    | zero =>
      simp only [List.getElem_cons_zero, List.take_succ_cons, List.take_zero, findT]
      by_cases h : a = s <;> simp [h]
    | succ i =>
      simp only [List.take_succ_cons, findT] at h0
      by_cases h : a = s
      · rw [if_pos h] at h0; omega
      · rw [if_neg h] at h0
        have h1 : findT (l.take i) s < 0 := by
          split at h0
          · assumption
          · have := findT_range (l.take i) s; omega
        have hil : i < l.length := by simpa using hi
        have := ih i hil h1
        simp only [List.getElem_cons_succ, List.take_succ_cons, findT, if_neg h]
        by_cases h2 : l[i] = s
        · rw [if_pos h2] at this ⊢
          rw [this, if_neg (by omega)]; push_cast; rfl
        · rw [if_neg h2] at this ⊢
          rw [if_pos this]; omega
end Go.Proofs.YthkhneimfjaohaaGreatDoor
namespace Go.Proofs.YthkhneimfjaohaaGreatDoor
open Go Go.Fw Go.RowKit
set_option linter.unusedVariables false
set_option linter.unusedSimpArgs false
set_option maxRecDepth 100000
set_option maxHeartbeats 16000000
set_option synthInstance.maxHeartbeats 200000
set_option synthInstance.maxSize 100000
attribute [local irreducible] WPA WLA WDA WDQ WDE QQ seqQ blockQ loopQ fnQ OpP OpT Tr TrP SL SLd OwnS LitS Bk BkE Ob
structure TblG (texts : List ByteArray) (sl : List Int) : Prop where
  good : Good texts sl
  pow : ∃ k, sl.length = 8 * 2 ^ k ∧ (k = 0 ∨ sl.length < 4 * texts.length)
  room : 2 * texts.length ≤ sl.length
  few : texts.length ≤ 1000000000
  small : ∀ s ∈ texts, s.size ≤ 140737488355328
def tbC (vt sa : SV) (B : Nat) : List Value := [.slice vt.a vt.n vt.cap, .slice sa.a sa.n sa.cap, .func (.func 96) #[] #[], .func (.func 97) #[] #[.pointer (some ⟨B, 0, none⟩)]]
structure TV where
  vt : SV
  sa : SV
  sl : List Int
  B : Nat
def TblH (T : Nat) (texts : List ByteArray) : HP := exH fun y : TV => pureH (TblG texts y.sl) (star (Bk T 137 [.slice y.vt.a y.vt.n y.vt.cap, .slice y.sa.a y.sa.n y.sa.cap, .func (.func 96) #[] #[], .func (.func 97) #[] #[.pointer (some ⟨y.B, 0, none⟩)]])
  (star (OwnS 9 y.vt texts) (star (OwnS 21 y.sa (i32s y.sl)) (Bk y.B 114 [.pointer (some ⟨T, 0, none⟩)]))))
instance {T : Nat} {texts : List ByteArray} : Opn (TblH T texts) { y : TV // TblG texts y.sl } (fun y L => Bk T 137 [.slice y.1.vt.a y.1.vt.n y.1.vt.cap, .slice y.1.sa.a y.1.sa.n y.1.sa.cap, .func (.func 96) #[] #[], .func (.func 97) #[] #[.pointer (some ⟨y.1.B, 0, none⟩)]] :: OwnS 9 y.1.vt texts :: OwnS 21 y.1.sa (i32s y.1.sl) :: Bk y.1.B 114 [.pointer (some ⟨T, 0, none⟩)] :: L) := ⟨fun w0 I L w h => by
  obtain ⟨y, h⟩ := h.exH
  exact ⟨⟨y, h.pureH.1⟩, (Ent.unstar.trans (Ent.cons (Ent.unstar.trans (Ent.cons Ent.unstar)))).sl h.pureH.2⟩⟩
theorem TblH.fold {T B : Nat} {texts : List ByteArray} {vt sa : SV} {sl : List Int} {L : List HP} (h : TblG texts sl) : Ent (Bk T 137 [.slice vt.a vt.n vt.cap, .slice sa.a sa.n sa.cap, .func (.func 96) #[] #[], .func (.func 97) #[] #[.pointer (some ⟨B, 0, none⟩)]] :: OwnS 9 vt texts :: OwnS 21 sa (i32s sl) :: Bk B 114 [.pointer (some ⟨T, 0, none⟩)] :: L) (TblH T texts :: L) :=
  Ent.ex (⟨vt, sa, sl, B⟩ : TV) (Ent.pure h (Ent.star (Ent.trans (Ent.cons (Ent.trans (Ent.cons (Ent.star Ent.refl)) (Ent.star Ent.refl))) (Ent.cons Ent.refl))))
theorem TNew_tr (w0 : World) (I : Foot) (L : List HP) : Tr Tryz.prog 78 #[] (SL w0 I L) (fun T : Nat => .pointer (some ⟨T, 0, none⟩)) (fun T => SL w0 I (TblH T [] :: L)) := by
  refine Tr.intro Tryz.func78 rfl Tryz.ntmps78 rfl ?_
  repeat' (first | ((first | refine WLA.m rfl rfl ?_ ?_ | refine WDQ.m rfl rfl ?_ ?_ | refine WLA.st rfl ?_ ?_ | refine WLA.x rfl rfl ?_ (fun x => ?_) | refine WLA.x0 rfl ?_ (fun x => ?_)); first | exact sdT | skip) | (refine Stp.go ?_) | (refine WPA.ifT ?_) | (refine WPA.ifF ?_) | ((first | refine WPA.dec ?_); first | refine orL ?_ | refine orR ?_) | ((first | refine WPA.ifBt ?_ ?_ | refine WPA.ifBnf ?_ ?_); assumption) | ((first | refine WPA.ifBnt ?_ ?_ | refine WPA.ifBf ?_ ?_); assumption) | ((first | refine WPA.ifs ?_ ?_ | refine WPA.ifB ?_ ?_) <;> intro hc) | (guard_target =~ WPA _ _ _ (.region 2 _ true) _ _ _; refine WPA.drawT 4 (.q 0 (.q 2 (.e 1 (.q 3 .fin)))) mixed ?_ ?_; kernel_rfl) | (refine WDA.finish (tl := [⟨_, _, _, _, _, _⟩, ⟨_, _, _, _, _, _⟩, ⟨_, _, _, _, _, _⟩]) rfl ?_) | (refine WDQ.see rfl ?_) | (refine WDE.see rfl ?_) | (refine WDE.alloc rfl rfl (fun w h => h) (fun x => ?_)) | (refine WDE.stE rfl ?_) | (refine WDE.x rfl rfl ?_ ?_ (fun x => ?_); rotate_left 1; (intro x w h; first | exact h | exact Ent.drop1.sl h | exact SL.unI h | exact SL.to h); rotate_left 1; first | exact sdT | skip))
  rename_i T B
  refine QQ.end_ rfl T rfl fun w h => ?_
  have e : List.replicate (Int.toNat 8) (toK .i32 0) = i32s (List.replicate 8 0) := rfl
  rw [e] at h
  have hg : TblG [] (List.replicate 8 0) := ⟨good_empty (by decide), ⟨0, rfl, .inl rfl⟩, by simp, by simp, by simp⟩
  have h2 : SL w0 I (Bk T 137 [.slice SV.nil.a SV.nil.n SV.nil.cap, .slice x.a x.n x.cap, .func (.func 96) #[] #[], .func (.func 97) #[] #[.pointer (some ⟨B, 0, none⟩)]] :: OwnS 21 x (i32s (List.replicate 8 0)) :: Bk B 114 [.pointer (some ⟨T, 0, none⟩)] :: L) w := h
  exact (TblH.fold (vt := SV.nil) (sa := x) (B := B) hg).sl h2.to
set_option maxHeartbeats 4000000 in
theorem grow_tr {B T p : Nat} {vt sa : SV} {texts : List ByteArray} {sl : List Int} {L : List HP} {w0 : World} {I : Foot}
    (hp : sl.length = 2 ^ p) (hp2 : p ≤ 39) (hnd : texts.Nodup) (hfew : texts.length < 2 * sl.length) (hn : texts.length ≤ 1000000000) (hsm : ∀ s ∈ texts, s.size ≤ 140737488355328) :
    Tr Tryz.prog 83 #[.pointer (some ⟨T, 1, none⟩), .int .i64 texts.length] (SL w0 I (Bk T 137 [.slice vt.a vt.n vt.cap, .slice sa.a sa.n sa.cap, .func (.func 96) #[] #[], .func (.func 97) #[] #[.pointer (some ⟨B, 0, none⟩)]] :: OwnS 9 vt texts :: OwnS 21 sa (i32s sl) :: Bk B 114 [.pointer (some ⟨T, 0, none⟩)] :: L)) (fun _ : SV × List Int => .tuple #[])
      (fun x w => (x.2.length = 2 * sl.length ∧ Good texts x.2) ∧ SL w0 I (Bk T 137 [.slice vt.a vt.n vt.cap, .slice x.1.a x.1.n x.1.cap, .func (.func 96) #[] #[], .func (.func 97) #[] #[.pointer (some ⟨B, 0, none⟩)]] :: OwnS 9 vt texts :: OwnS 21 x.1 (i32s x.2) :: Bk B 114 [.pointer (some ⟨T, 0, none⟩)] :: L) w) := by
  have hm0 : 0 < sl.length := by rw [hp]; exact Nat.pow_pos (by omega)
  have hm1 : sl.length ≤ 549755813888 := by
    have : 2 ^ p ≤ 2 ^ 39 := Nat.pow_le_pow_right (by omega) hp2
    omega
  have hlen := i32s_len sl
  refine Tr.intro Tryz.func83 rfl Tryz.ntmps83 rfl ?_
  repeat' (first | ((first | refine WLA.m rfl rfl ?_ ?_ | refine WLA.st rfl ?_ ?_ | refine WLA.x rfl rfl ?_ (fun x => ?_) | refine WLA.x0 rfl ?_ (fun x => ?_)); first | exact sdT | skip) | (refine Stp.go ?_) | (refine WPA.ifT ?_) | (refine WPA.ifF ?_) | ((first | refine WPA.dec ?_); first | refine orL ?_ | refine orR ?_) | ((first | refine WPA.ifBt ?_ ?_ | refine WPA.ifBnf ?_ ?_); assumption) | ((first | refine WPA.ifBnt ?_ ?_ | refine WPA.ifBf ?_ ?_); assumption) | ((first | refine WPA.ifs ?_ ?_ | refine WPA.ifB ?_ ?_) <;> intro hc))
  have hz : List.replicate (2 * ((i32s sl).length : Int)).toNat (toK .i32 0) = i32s (List.replicate (2 * sl.length) 0) := by
    rw [hlen, show (2 * (sl.length : Int)).toNat = 2 * sl.length by omega]; rfl
  rw [hz]
  have g0 : Good (texts.take 0) (List.replicate (2 * sl.length) 0) := by rw [List.take_zero]; exact good_empty (by omega)
  refine WPA.loopS (σ := Nat × List Int) (fun y => [(0, .pointer (some ⟨T, 1, none⟩)), (15, .int .i64 texts.length), (16, .int .i64 y.1)]) (fun y => y.1 ≤ texts.length ∧ y.2.length = 2 * sl.length ∧ Good (texts.take y.1) y.2)
    (fun y => SL w0 I (Bk T 137 [.slice vt.a vt.n vt.cap, .slice x.a x.n x.cap, .func (.func 96) #[] #[], .func (.func 97) #[] #[.pointer (some ⟨B, 0, none⟩)]] :: OwnS 9 vt texts :: OwnS 21 x (i32s y.2) :: Bk B 114 [.pointer (some ⟨T, 0, none⟩)] :: L)) (fun y => texts.length - y.1) (0, List.replicate (2 * sl.length) 0) ⟨rfl, rfl, rfl, trivial⟩ ⟨by omega, by simp, g0⟩ (fun w h => h.to) ?_
  rintro ⟨i, s2⟩ ρ ⟨hi, hl, g⟩
  dsimp only at hi hl g ⊢
  by_cases hlt : i < texts.length
  · have hlt' : (i : Int) < texts.length := by omega
    have hat := at_nat texts i hlt
    have hs : texts[i] ∉ texts.take i := by
      intro hm
      obtain ⟨j, hj, e⟩ := List.getElem_of_mem hm
      rw [List.length_take] at hj
      rw [List.getElem_take] at e
      exact absurd e (List.pairwise_iff_getElem.1 hnd j i (by omega) hlt (by omega))
    have hsz := hsm _ (List.getElem_mem hlt)
    rw [← hat] at hs hsz
    have hltk : (texts.take i).length = i := by rw [List.length_take]; omega
    obtain ⟨f, d, hp1, hp2', hp3⟩ := g.free (by rw [hltk]; omega) hs
    have g' := g.insert hs hp2' hp3
    rw [hltk] at g'
    rw [show texts.take i ++ [at_ texts (i : Int)] = texts.take (i + 1) by rw [hat]; exact (List.take_succ_eq_append_getElem hlt).symm] at g'
    have hrng : ∀ q, q < s2.length → 0 ≤ s2.getD q 0 ∧ s2.getD q 0 ≤ i := fun q hq => by have := g.range q hq; rw [hltk] at this; exact this
    rw [placeL_take (k := i) hrng hi g.some_ f _ (start_lt g.some_ _)] at hp1
    have hr := pos_lt g.some_ (start s2 (at_ texts (i : Int))) d
    generalize pos s2.length (start s2 (at_ texts (i : Int))) d = r at hp1 hp2' g' hr
    have hrng2 : ∀ q, q < s2.length → 0 ≤ s2.getD q 0 ∧ s2.getD q 0 ≤ texts.length := fun q hq => ⟨(hrng q hq).1, by have := (hrng q hq).2; omega⟩
    have hpw : s2.length = 2 ^ (p + 1) := by rw [hl, hp, Nat.pow_succ]; omega
    have hp3' : p + 1 ≤ 40 := by omega
    have hn' : texts.length ≤ 2147483647 := by omega
    have hzi : 0 ≤ (i : Int) ∧ (i : Int) < texts.length := by omega
    have hl2 := i32s_len s2
    have hw : IntKind.i32.wrap ((i : Int) + 1) = (i : Int) + 1 := wrap_i32 (by omega)
    clear hrng g hp2' hp3
    repeat' (first | ((first | refine WLA.m rfl rfl ?_ ?_ | refine WDQ.m rfl rfl ?_ ?_ | refine WLA.st rfl ?_ ?_ | refine WLA.x rfl rfl ?_ (fun x => ?_) | refine WLA.x0 rfl ?_ (fun x => ?_)); first | exact sdT | skip) | (refine Stp.go ?_) | (guard_target =~ WLA _ _ _ _ _ (⟨_, .call ⟨.value (.tmp _), _, _⟩, _, _, _, _⟩ :: _) _ _; refine WLA.cqV rfl rfl (key_tr hzi) ?_) | (guard_target =~ WLA _ _ _ _ _ (⟨_, .call ⟨.value (.func 82), _, _⟩, _, _, _, _⟩ :: _) _ _; refine WLA.cq rfl rfl (place_tr hpw hp3' hrng2 hn' hsz hp1) ?_) | (refine WPA.ifT ?_) | (refine WPA.ifF ?_) | ((first | refine WPA.dec ?_); first | refine orL ?_ | refine orR ?_) | ((first | refine WPA.ifBt ?_ ?_ | refine WPA.ifBnf ?_ ?_); assumption) | ((first | refine WPA.ifBnt ?_ ?_ | refine WPA.ifBf ?_ ?_); assumption) | ((first | refine WPA.ifs ?_ ?_ | refine WPA.ifB ?_ ?_) <;> intro hc) | (guard_target =~ WPA _ _ _ (.region 4 _ true) _ _ _; refine WPA.drawT 15 (.q 0 (.q 1 (.q 2 (.q 3 (.q 4 (.q 5 (.q 6 (.q 7 (.q 8 (.q 9 (.q 10 (.q 11 (.q 12 (.q 13 (.q 14 .fin))))))))))))))) mixed ?_ ?_; kernel_rfl) | (refine WDA.finish (tl := [⟨_, _, _, _, _, _⟩, ⟨_, _, _, _, _, _⟩]) rfl ?_) | (refine WDQ.see rfl ?_) | (guard_target =~ WDQ _ _ _ _ _ _ _ ⟨_, .call ⟨.value (.tmp _), _, _⟩, _, _, _, _⟩ _ _ _; refine WDQ.cqV rfl rfl (key_tr hzi) ?_) | (guard_target =~ WDQ _ _ _ _ _ _ _ ⟨_, .call ⟨.value (.func 82), _, _⟩, _, _, _, _⟩ _ _ _; refine WDQ.cq rfl rfl (place_tr hpw hp3' hrng2 hn' hsz hp1) ?_))
    refine QQ.loopS (i + 1, s2.set r ((i : Int) + 1)) ⟨rfl, rfl, rfl, trivial⟩ ⟨hlt, by rw [List.length_set]; exact hl, g'⟩ (by dsimp only; omega) (fun w h => ?_)
    have e : (i32s s2).set (r : Int).toNat (toK .i32 (IntKind.i32.wrap ((i : Int) + 1))) = i32s (s2.set r ((i : Int) + 1)) := by rw [hw]; rfl
    rw [e] at h
    exact h.to
  · have hlt' : ¬ (i : Int) < texts.length := by omega
    repeat' (first | ((first | refine WLA.m rfl rfl ?_ ?_ | refine WDQ.m rfl rfl ?_ ?_ | refine WDP.m rfl rfl ?_ ?_ | refine WLA.st rfl ?_ ?_ | refine WLA.x rfl rfl ?_ (fun x => ?_) | refine WLA.x0 rfl ?_ (fun x => ?_) | refine WDW.x rfl rfl ?_ (fun x => ?_) | refine WDW.st rfl ?_ ?_); first | exact sdT | skip) | (refine Stp.go ?_) | (refine WPA.ifT ?_) | (refine WPA.ifF ?_) | ((first | refine WPA.dec ?_); first | refine orL ?_ | refine orR ?_) | ((first | refine WPA.ifBt ?_ ?_ | refine WPA.ifBnf ?_ ?_); assumption) | ((first | refine WPA.ifBnt ?_ ?_ | refine WPA.ifBf ?_ ?_); assumption) | ((first | refine WPA.ifs ?_ ?_ | refine WPA.ifB ?_ ?_) <;> intro hc) | (guard_target =~ WPA _ _ _ (.region 4 _ true) _ _ _; refine WPA.drawT 15 (.p 0 (.p 1 (.p 2 (.p 3 (.p 4 (.p 5 (.p 6 (.p 7 (.q 8 (.p 9 (.p 12 (.p 13 (.p 14 (.w 10 (.w 11 .fin))))))))))))))) mixed ?_ ?_; kernel_rfl) | (refine WDA.finish (tl := [⟨_, _, _, _, _, _⟩, ⟨_, _, _, _, _, _⟩]) rfl ?_) | (refine WDQ.see rfl ?_) | (refine WDP.see rfl ?_) | (refine WDW.see rfl ?_))
    have e : i = texts.length := by omega
    subst e
    rw [List.take_length] at g
    exact QQ.endn rfl (x, s2) rfl fun w h => ⟨⟨hl, g⟩, h⟩
end Go.Proofs.YthkhneimfjaohaaGreatDoor
