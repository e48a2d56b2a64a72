/- The place of an n-gram in a list with numbers. Conditions: none. -/
import Derived.Test.YtlodbajaoadhdaaGr3
namespace Go.Proofs.Ytlodbajaoadhdaa
open Go Go.Fw Go.RowKit
set_option linter.unusedVariables false
set_option linter.unusedSimpArgs false
set_option maxRecDepth 100000
set_option maxHeartbeats 16000000
set_option synthInstance.maxHeartbeats 200000
set_option synthInstance.maxSize 100000
attribute [local irreducible] WPA WLA WDA WDQ WDE QQ seqQ blockQ loopQ fnQ OpP OpT Tr TrP SL SLd OwnS LitS Bk BkE Ob
attribute [local irreducible] RowH
abbrev Cn := SV × Int
theorem idxOf_firstC {α : Type} [BEq α] [LawfulBEq α] {xs : List α} {v : α} {i : Nat} (hi : i < xs.length) (hv : xs[i] = v) (hn : v ∉ xs.take i) : xs.idxOf v = i := by
  have hm : v ∈ xs := by rw [← hv]; exact List.getElem_mem _
  have h1 : ¬ xs.idxOf v < i := fun h => hn (by
    have h3 := List.getElem_idxOf (List.idxOf_lt_length_iff.2 hm)
    rw [← h3]
    exact List.mem_take_iff_getElem.2 ⟨xs.idxOf v, by have := List.idxOf_lt_length_iff.2 hm; omega, rfl⟩)
  have h2 : ¬ i < xs.idxOf v := fun h => by
    have := List.not_of_lt_findIdx (p := fun x => x == v) (xs := xs) h
    simp [hv] at this
  omega
section
variable {kg : SV → List Int} {L : List HP} {w0 : World} {I : Foot}
theorem find1C_tr {x : Cn} {g : SV} {gs : List Int} {xs : List Int} [hx : SlI I x.1 Int inferInstance xs] [hg : RdS I L g Int inferInstance gs] (h1 : xs.length ≤ 1000000000) (h2 : gs.length ≤ 1000000000) :
    Tr Try.prog 103 #[.agg #[.slice x.1.a x.1.n x.1.cap, .int .i64 x.2], .slice g.a g.n g.cap] (SL w0 I L) (fun _ : Unit => .int .i64 (cmpL xs gs)) (fun _ => SL w0 I L) := by
  refine Tr.intro Try.func103 rfl Try.ntmps103 rfl ?_
  repeat' (first | ((first | refine WLA.m rfl rfl ?_ ?_ | refine WLA.st rfl ?_ ?_ | refine WLA.x rfl rfl ?_ (fun x => ?_) | refine WLA.x0 rfl ?_ (fun x => ?_)); first | exact trivial | exact rfl | assumption | omega | (refine ⟨?_, ?_⟩ <;> omega) | (simp only [Room, List.length_set, List.length_append, List.length_cons, List.length_nil, List.length_replicate]; omega) | decide | skip) | (refine Stp.go ?_) | (guard_target =~ WLA _ _ _ _ _ (⟨_, .call ⟨.value (.func 30), _, _⟩, _, _, _, _⟩ :: _) _ _; refine WLA.cq rfl rfl (gCompare_tr h1 h2) ?_) | (refine WPA.ifT ?_) | (refine WPA.ifF ?_) | ((first | refine WPA.dec ?_); first | refine .inl ⟨by first | assumption | omega | with_reducible rfl | (refine fun h => h ?_; first | assumption | with_reducible rfl) | (simp only [List.length_append, List.length_cons, List.length_nil, List.length_set] <;> omega) | decide, ?_⟩ | refine .inr ⟨by first | assumption | omega | with_reducible rfl | (refine fun h => h ?_; first | assumption | with_reducible rfl) | (simp only [List.length_append, List.length_cons, List.length_nil, List.length_set] <;> omega) | decide, ?_⟩) | ((first | refine WPA.ifBt ?_ ?_ | refine WPA.ifBnf ?_ ?_); assumption) | ((first | refine WPA.ifBnt ?_ ?_ | refine WPA.ifBf ?_ ?_); assumption) | ((first | refine WPA.ifs ?_ ?_ | refine WPA.ifB ?_ ?_) <;> intro hc))
  exact QQ.end_ rfl () rfl fun w h => h.to
/-- Where an n-gram is among others; -1: nowhere. -/
def plcN (ks : List (List Int)) (g : List Int) : Int := if g ∈ ks then ks.idxOf g else -1
def RisC (kg : SV → List Int) (es : List Cn) : Prop := (es.map fun p => kg p.1).Pairwise ltL
theorem bsC_tr {s g : SV} {es : List Cn} {gs : List Int} [hr : RdS I L s Cn inferInstance es] [hg : RdS I L g Int inferInstance gs] (hG : GrG I kg es) (hR : RisC kg es) (hn : es.length ≤ 1000000000) (hl : ∀ p ∈ es, (kg p.1).length ≤ 1000000000) (h2 : gs.length ≤ 1000000000) :
    Tr Try.prog 102 #[.slice s.a s.n s.cap, .slice g.a g.n g.cap, .func (.func 103) #[] #[]] (SL w0 I L) (fun k : { k : Nat // gs ∈ es.map (fun p => kg p.1) → k < es.length ∧ kg (at_ es (k : Int)).1 = gs } => .tuple #[.int .i64 (k.1 : Nat), .bool (decide (gs ∈ es.map fun p => kg p.1))]) (fun _ => SL w0 I L) := by
  refine Tr.intro Try.func102 rfl Try.ntmps102 rfl ?_
  repeat' (first | ((first | refine WLA.m rfl rfl ?_ ?_ | refine WLA.st rfl ?_ ?_ | refine WLA.x rfl rfl ?_ (fun x => ?_) | refine WLA.x0 rfl ?_ (fun x => ?_)); first | exact trivial | exact rfl | assumption | omega | (refine ⟨?_, ?_⟩ <;> omega) | (simp only [Room, List.length_set, List.length_append, List.length_cons, List.length_nil, List.length_replicate]; omega) | decide | skip) | (refine Stp.go ?_) | (refine WPA.ifT ?_) | (refine WPA.ifF ?_) | ((first | refine WPA.dec ?_); first | refine .inl ⟨by first | assumption | omega | with_reducible rfl | (refine fun h => h ?_; first | assumption | with_reducible rfl) | (simp only [List.length_append, List.length_cons, List.length_nil, List.length_set] <;> omega) | decide, ?_⟩ | refine .inr ⟨by first | assumption | omega | with_reducible rfl | (refine fun h => h ?_; first | assumption | with_reducible rfl) | (simp only [List.length_append, List.length_cons, List.length_nil, List.length_set] <;> omega) | decide, ?_⟩) | ((first | refine WPA.ifBt ?_ ?_ | refine WPA.ifBnf ?_ ?_); assumption) | ((first | refine WPA.ifBnt ?_ ?_ | refine WPA.ifBf ?_ ?_); assumption) | ((first | refine WPA.ifs ?_ ?_ | refine WPA.ifB ?_ ?_) <;> intro hc))
  refine WPA.loopS (σ := Nat × Nat) (fun y => [(0, .slice s.a s.n s.cap), (1, .slice g.a g.n g.cap), (2, .func (.func 103) #[] #[]), (8, .int .i64 es.length), (9, .int .i64 y.1), (10, .int .i64 y.2)])
    (fun y => (y.1 ≤ y.2 ∧ y.2 ≤ es.length) ∧ (∀ j : Nat, j < y.1 → cmpL (kg (at_ es (j : Int)).1) gs < 0) ∧ (∀ j : Nat, y.2 ≤ j → j < es.length → ¬ cmpL (kg (at_ es (j : Int)).1) gs < 0))
    (fun _ => SL w0 I L) (fun y => y.2 - y.1) (0, es.length) ⟨rfl, rfl, rfl, rfl, rfl, rfl, trivial⟩ ⟨⟨Nat.zero_le _, Nat.le_refl _⟩, fun j hj => by dsimp only at hj; omega, fun j h1 h2 => by dsimp only at h1; omega⟩ (fun w h => h) ?_
  rintro ⟨lo, hi⟩ ρ ⟨⟨hlh, hhn⟩, hlo, hhi⟩
  dsimp only at hlh hhn hlo hhi ⊢
  by_cases hlt : lo < hi
  · have hlt' : (lo : Int) < hi := by omega
    have hm1 : lo ≤ (lo + hi) / 2 := by omega
    have hm2 : (lo + hi) / 2 < hi := by omega
    have hmid : IntKind.i64.wrap ((IntKind.u64.wrap ((lo : Int) + hi)).fdiv (2 ^ Int.toNat 1)) = (((lo + hi) / 2 : Nat) : Int) := by
      rw [wrap_u64 (by omega), show ((lo : Int) + hi).fdiv (2 ^ Int.toNat 1) = (((lo + hi) / 2 : Nat) : Int) by rw [Int.fdiv_eq_ediv_of_nonneg _ (by decide)]; show ((lo : Int) + hi) / 2 = _; omega]
      exact wrap_i64 (by omega)
    repeat' ((fail_if_success (guard_target =~ WPA _ _ _ (.region 5 _ _) _ _ _)); first | (guard_target =~ WLA _ _ _ _ _ (⟨_, .convert _ _ _, _, _, _, _⟩ :: _) _ _; refine WLA.m (h := convW) rfl rfl trivial ?_) | (guard_target =~ WDQ _ _ _ _ _ _ _ ⟨_, .convert _ _ _, _, _, _, _⟩ _ _ _; refine WDQ.m (h := convW) rfl rfl trivial ?_) | (guard_target =~ WDP _ _ _ _ _ _ _ ⟨_, .convert _ _ _, _, _, _, _⟩ _ _ _; refine WDP.m (h := convW) rfl rfl trivial ?_) | ((first | refine WLA.m rfl rfl ?_ ?_ | refine WLA.st rfl ?_ ?_ | refine WLA.x rfl rfl ?_ (fun x => ?_) | refine WLA.x0 rfl ?_ (fun x => ?_)); first | exact trivial | exact rfl | assumption | omega | (refine ⟨?_, ?_⟩ <;> omega) | (simp only [Room, List.length_set, List.length_append, List.length_cons, List.length_nil, List.length_replicate]; omega) | decide | skip) | (refine Stp.go ?_) | (refine WPA.ifT ?_) | (refine WPA.ifF ?_) | ((first | refine WPA.dec ?_); first | refine .inl ⟨by first | assumption | omega | with_reducible rfl | (refine fun h => h ?_; first | assumption | with_reducible rfl) | (simp only [List.length_append, List.length_cons, List.length_nil, List.length_set] <;> omega) | decide, ?_⟩ | refine .inr ⟨by first | assumption | omega | with_reducible rfl | (refine fun h => h ?_; first | assumption | with_reducible rfl) | (simp only [List.length_append, List.length_cons, List.length_nil, List.length_set] <;> omega) | decide, ?_⟩) | ((first | refine WPA.ifBt ?_ ?_ | refine WPA.ifBnf ?_ ?_); assumption) | ((first | refine WPA.ifBnt ?_ ?_ | refine WPA.ifBf ?_ ?_); assumption) | ((first | refine WPA.ifs ?_ ?_ | refine WPA.ifB ?_ ?_) <;> intro hc))
    rw [hmid]
    generalize (lo + hi) / 2 = m at hm1 hm2 hmid
    have hmn : m < es.length := by omega
    have hmn' : (m : Int) < es.length := by omega
    have hxl : (kg (at_ es (m : Int)).1).length ≤ 1000000000 := hl _ (by rw [at_nat es m hmn]; exact List.getElem_mem _)
    have hxg := hG.at hmn
    have hmono : ∀ j k : Nat, j < k → k < es.length → ltL (kg (at_ es (j : Int)).1) (kg (at_ es (k : Int)).1) := by
      intro j k hjk hk
      have hp := List.pairwise_iff_getElem.1 hR j k (by rw [List.length_map]; omega) (by rw [List.length_map]; exact hk) hjk
      rwa [List.getElem_map, List.getElem_map, ← at_nat es j (by omega), ← at_nat es k hk] at hp
    by_cases hc : cmpL (kg (at_ es (m : Int)).1) gs < 0
    · skip
      repeat' (first | ((first | refine WLA.m rfl rfl ?_ ?_ | refine WLA.st rfl ?_ ?_ | refine WLA.x rfl rfl ?_ (fun x => ?_) | refine WLA.x0 rfl ?_ (fun x => ?_)); first | exact trivial | exact rfl | assumption | omega | (refine ⟨?_, ?_⟩ <;> omega) | (simp only [Room, List.length_set, List.length_append, List.length_cons, List.length_nil, List.length_replicate]; omega) | decide | skip) | (refine Stp.go ?_) | (guard_target =~ WLA _ _ _ _ _ (⟨_, .call ⟨.value (.tmp _), _, _⟩, _, _, _, _⟩ :: _) _ _; refine WLA.callV rfl rfl (find1C_tr (x := at_ es (m : Int)) hxl h2) ?_; rintro ⟨⟩) | (refine WPA.ifT ?_) | (refine WPA.ifF ?_) | ((first | refine WPA.dec ?_); first | refine .inl ⟨by first | assumption | omega | with_reducible rfl | (refine fun h => h ?_; first | assumption | with_reducible rfl) | (simp only [List.length_append, List.length_cons, List.length_nil, List.length_set] <;> omega) | decide, ?_⟩ | refine .inr ⟨by first | assumption | omega | with_reducible rfl | (refine fun h => h ?_; first | assumption | with_reducible rfl) | (simp only [List.length_append, List.length_cons, List.length_nil, List.length_set] <;> omega) | decide, ?_⟩) | ((first | refine WPA.ifBt ?_ ?_ | refine WPA.ifBnf ?_ ?_); assumption) | ((first | refine WPA.ifBnt ?_ ?_ | refine WPA.ifBf ?_ ?_); assumption) | ((first | refine WPA.ifs ?_ ?_ | refine WPA.ifB ?_ ?_) <;> intro hc))
      refine QQ.loopS (m + 1, hi) ⟨rfl, rfl, rfl, rfl, rfl, rfl, trivial⟩ ⟨⟨hm2, hhn⟩, fun j hj => ?_, hhi⟩ (by dsimp only; omega) (fun w h => h)
      dsimp only at hj
      rcases Nat.eq_or_lt_of_le (Nat.lt_succ_iff.1 hj) with rfl | hjm
      · exact hc
      · exact ltL_tt (hmono j m hjm hmn) hc
    · skip
      repeat' (first | ((first | refine WLA.m rfl rfl ?_ ?_ | refine WLA.st rfl ?_ ?_ | refine WLA.x rfl rfl ?_ (fun x => ?_) | refine WLA.x0 rfl ?_ (fun x => ?_)); first | exact trivial | exact rfl | assumption | omega | (refine ⟨?_, ?_⟩ <;> omega) | (simp only [Room, List.length_set, List.length_append, List.length_cons, List.length_nil, List.length_replicate]; omega) | decide | skip) | (refine Stp.go ?_) | (guard_target =~ WLA _ _ _ _ _ (⟨_, .call ⟨.value (.tmp _), _, _⟩, _, _, _, _⟩ :: _) _ _; refine WLA.callV rfl rfl (find1C_tr (x := at_ es (m : Int)) hxl h2) ?_; rintro ⟨⟩) | (refine WPA.ifT ?_) | (refine WPA.ifF ?_) | ((first | refine WPA.dec ?_); first | refine .inl ⟨by first | assumption | omega | with_reducible rfl | (refine fun h => h ?_; first | assumption | with_reducible rfl) | (simp only [List.length_append, List.length_cons, List.length_nil, List.length_set] <;> omega) | decide, ?_⟩ | refine .inr ⟨by first | assumption | omega | with_reducible rfl | (refine fun h => h ?_; first | assumption | with_reducible rfl) | (simp only [List.length_append, List.length_cons, List.length_nil, List.length_set] <;> omega) | decide, ?_⟩) | ((first | refine WPA.ifBt ?_ ?_ | refine WPA.ifBnf ?_ ?_); assumption) | ((first | refine WPA.ifBnt ?_ ?_ | refine WPA.ifBf ?_ ?_); assumption) | ((first | refine WPA.ifs ?_ ?_ | refine WPA.ifB ?_ ?_) <;> intro hc))
      refine QQ.loopS (lo, m) ⟨rfl, rfl, rfl, rfl, rfl, rfl, trivial⟩ ⟨⟨hm1, by dsimp only; omega⟩, hlo, fun j hj hjn => ?_⟩ (by dsimp only; omega) (fun w h => h)
      dsimp only at hj
      rcases Nat.eq_or_lt_of_le hj with rfl | hjm
      · exact hc
      · exact fun hk => hc (ltL_tt (hmono m j hjm hjn) hk)
  · have hlt' : ¬ (lo : Int) < hi := by omega
    have e : lo = hi := by omega
    subst e
    by_cases hle : lo < es.length
    · have hle' : (lo : Int) < es.length := by omega
      have hxl : (kg (at_ es (lo : Int)).1).length ≤ 1000000000 := hl _ (by rw [at_nat es lo hle]; exact List.getElem_mem _)
      have hxg := hG.at hle
      have hmem : gs ∈ es.map (fun p => kg p.1) ↔ cmpL (kg (at_ es (lo : Int)).1) gs = 0 := by
        rw [cmp_zero]
        constructor
        · intro hm
          obtain ⟨j, hj, hje⟩ := List.getElem_of_mem hm
          rw [List.length_map] at hj
          rw [List.getElem_map, ← at_nat es j hj] at hje
          have h0 : ¬ j < lo := fun h => by have := hlo j h; rw [hje, cmpL_refl] at this; omega
          rcases Nat.eq_or_lt_of_le (Nat.le_of_not_lt h0) with rfl | hlj
          · exact hje
          · exfalso
            have hp := List.pairwise_iff_getElem.1 hR lo j (by rw [List.length_map]; exact hle) (by rw [List.length_map]; exact hj) hlj
            rw [List.getElem_map, List.getElem_map, ← at_nat es lo hle, ← at_nat es j hj, hje] at hp
            exact hhi lo (Nat.le_refl _) hle hp
        · intro he
          rw [← he]
          rw [at_nat es lo hle]
          exact List.mem_map_of_mem (f := fun p : Cn => kg p.1) (List.getElem_mem hle)
      repeat' ((fail_if_success (guard_target =~ WPA _ _ _ (.region 8 _ _) _ _ _)); first | ((first | refine WLA.m rfl rfl ?_ ?_ | refine WLA.st rfl ?_ ?_ | refine WLA.x rfl rfl ?_ (fun x => ?_) | refine WLA.x0 rfl ?_ (fun x => ?_)); first | exact trivial | exact rfl | assumption | omega | (refine ⟨?_, ?_⟩ <;> omega) | (simp only [Room, List.length_set, List.length_append, List.length_cons, List.length_nil, List.length_replicate]; omega) | decide | skip) | (refine Stp.go ?_) | (refine WPA.ifT ?_) | (refine WPA.ifF ?_) | ((first | refine WPA.dec ?_); first | refine .inl ⟨by first | assumption | omega | with_reducible rfl | (refine fun h => h ?_; first | assumption | with_reducible rfl) | (simp only [List.length_append, List.length_cons, List.length_nil, List.length_set] <;> omega) | decide, ?_⟩ | refine .inr ⟨by first | assumption | omega | with_reducible rfl | (refine fun h => h ?_; first | assumption | with_reducible rfl) | (simp only [List.length_append, List.length_cons, List.length_nil, List.length_set] <;> omega) | decide, ?_⟩) | ((first | refine WPA.ifBt ?_ ?_ | refine WPA.ifBnf ?_ ?_); assumption) | ((first | refine WPA.ifBnt ?_ ?_ | refine WPA.ifBf ?_ ?_); assumption) | ((first | refine WPA.ifs ?_ ?_ | refine WPA.ifB ?_ ?_) <;> intro hc))
      repeat' (first | ((first | refine WLA.m rfl rfl ?_ ?_ | refine WLA.st rfl ?_ ?_ | refine WLA.x rfl rfl ?_ (fun x => ?_) | refine WLA.x0 rfl ?_ (fun x => ?_)); first | exact trivial | exact rfl | assumption | omega | (refine ⟨?_, ?_⟩ <;> omega) | (simp only [Room, List.length_set, List.length_append, List.length_cons, List.length_nil, List.length_replicate]; omega) | decide | skip) | (refine Stp.go ?_) | (guard_target =~ WLA _ _ _ _ _ (⟨_, .call ⟨.value (.tmp _), _, _⟩, _, _, _, _⟩ :: _) _ _; refine WLA.callV rfl rfl (find1C_tr (x := at_ es (lo : Int)) hxl h2) ?_; rintro ⟨⟩) | (refine WPA.ifT ?_) | (refine WPA.ifF ?_) | (refine WLA.no rfl rfl ?_) | ((first | refine WPA.dec ?_ | ((fail_if_success (guard_target =~ WLA _ _ _ _ _ _ (put1 _ _ (.bool true)) _)); (fail_if_success (guard_target =~ WLA _ _ _ _ _ _ (put1 _ _ (.bool false)) _)); refine WLA.dec rfl rfl ?_) | refine WLA.pk ?_); first | refine .inl ⟨by first | assumption | omega | with_reducible rfl | (refine fun h => h ?_; first | assumption | with_reducible rfl) | (simp only [List.length_append, List.length_cons, List.length_nil, List.length_set] <;> omega) | decide, ?_⟩ | refine .inr ⟨by first | assumption | omega | with_reducible rfl | (refine fun h => h ?_; first | assumption | with_reducible rfl) | (simp only [List.length_append, List.length_cons, List.length_nil, List.length_set] <;> omega) | decide, ?_⟩) | ((first | refine WPA.ifBt ?_ ?_ | refine WPA.ifBnf ?_ ?_); assumption) | ((first | refine WPA.ifBnt ?_ ?_ | refine WPA.ifBf ?_ ?_); assumption) | ((first | refine WPA.ifs ?_ ?_ | refine WPA.ifB ?_ ?_) <;> intro hc) | ((fail_if_success (guard_target =~ WLA _ _ _ _ _ _ (put1 _ _ (.bool true)) _)); (fail_if_success (guard_target =~ WLA _ _ _ _ _ _ (put1 _ _ (.bool false)) _)); (first | refine WLA.both rfl rfl ?_ ?_ | refine WLA.bothB rfl rfl ?_ ?_) <;> intro hg))
      exact QQ.end_ rfl ⟨lo, fun hm => ⟨hle, cmp_zero.1 (hmem.1 hm)⟩⟩ (by rw [decide_eq_decide.2 hmem]) fun w h => h
    · have hle' : ¬ (lo : Int) < es.length := by omega
      have hno : gs ∉ es.map (fun p => kg p.1) := by
        intro hm
        obtain ⟨j, hj, hje⟩ := List.getElem_of_mem hm
        rw [List.length_map] at hj
        rw [List.getElem_map, ← at_nat es j hj] at hje
        have := hlo j (by omega)
        rw [hje, cmpL_refl] at this
        omega
      repeat' ((fail_if_success (guard_target =~ WPA _ _ _ (.region 8 _ _) _ _ _)); first | ((first | refine WLA.m rfl rfl ?_ ?_ | refine WLA.st rfl ?_ ?_ | refine WLA.x rfl rfl ?_ (fun x => ?_) | refine WLA.x0 rfl ?_ (fun x => ?_)); first | exact trivial | exact rfl | assumption | omega | (refine ⟨?_, ?_⟩ <;> omega) | (simp only [Room, List.length_set, List.length_append, List.length_cons, List.length_nil, List.length_replicate]; omega) | decide | skip) | (refine Stp.go ?_) | (refine WPA.ifT ?_) | (refine WPA.ifF ?_) | ((first | refine WPA.dec ?_); first | refine .inl ⟨by first | assumption | omega | with_reducible rfl | (refine fun h => h ?_; first | assumption | with_reducible rfl) | (simp only [List.length_append, List.length_cons, List.length_nil, List.length_set] <;> omega) | decide, ?_⟩ | refine .inr ⟨by first | assumption | omega | with_reducible rfl | (refine fun h => h ?_; first | assumption | with_reducible rfl) | (simp only [List.length_append, List.length_cons, List.length_nil, List.length_set] <;> omega) | decide, ?_⟩) | ((first | refine WPA.ifBt ?_ ?_ | refine WPA.ifBnf ?_ ?_); assumption) | ((first | refine WPA.ifBnt ?_ ?_ | refine WPA.ifBf ?_ ?_); assumption) | ((first | refine WPA.ifs ?_ ?_ | refine WPA.ifB ?_ ?_) <;> intro hc))
      repeat' (first | ((first | refine WLA.m rfl rfl ?_ ?_ | refine WLA.st rfl ?_ ?_ | refine WLA.x rfl rfl ?_ (fun x => ?_) | refine WLA.x0 rfl ?_ (fun x => ?_)); first | exact trivial | exact rfl | assumption | omega | (refine ⟨?_, ?_⟩ <;> omega) | (simp only [Room, List.length_set, List.length_append, List.length_cons, List.length_nil, List.length_replicate]; omega) | decide | skip) | (refine Stp.go ?_) | (refine WPA.ifT ?_) | (refine WPA.ifF ?_) | (refine WLA.no rfl rfl ?_) | ((first | refine WPA.dec ?_ | ((fail_if_success (guard_target =~ WLA _ _ _ _ _ _ (put1 _ _ (.bool true)) _)); (fail_if_success (guard_target =~ WLA _ _ _ _ _ _ (put1 _ _ (.bool false)) _)); refine WLA.dec rfl rfl ?_) | refine WLA.pk ?_); first | refine .inl ⟨by first | assumption | omega | with_reducible rfl | (refine fun h => h ?_; first | assumption | with_reducible rfl) | (simp only [List.length_append, List.length_cons, List.length_nil, List.length_set] <;> omega) | decide, ?_⟩ | refine .inr ⟨by first | assumption | omega | with_reducible rfl | (refine fun h => h ?_; first | assumption | with_reducible rfl) | (simp only [List.length_append, List.length_cons, List.length_nil, List.length_set] <;> omega) | decide, ?_⟩) | ((first | refine WPA.ifBt ?_ ?_ | refine WPA.ifBnf ?_ ?_); assumption) | ((first | refine WPA.ifBnt ?_ ?_ | refine WPA.ifBf ?_ ?_); assumption) | ((first | refine WPA.ifs ?_ ?_ | refine WPA.ifB ?_ ?_) <;> intro hc) | ((fail_if_success (guard_target =~ WLA _ _ _ _ _ _ (put1 _ _ (.bool true)) _)); (fail_if_success (guard_target =~ WLA _ _ _ _ _ _ (put1 _ _ (.bool false)) _)); (first | refine WLA.both rfl rfl ?_ ?_ | refine WLA.bothB rfl rfl ?_ ?_) <;> intro hg))
      exact QQ.end_ rfl ⟨lo, fun hm => absurd hm hno⟩ (by rw [decide_eq_false hno]) fun w h => h
theorem plc_uni {ks : List (List Int)} {g : List Int} (hR : ks.Pairwise ltL) {k : Nat} (hk : k < ks.length) (he : ks[k] = g) : plcN ks g = k := by
  have hm : g ∈ ks := by rw [← he]; exact List.getElem_mem _
  unfold plcN
  rw [if_pos hm]
  refine congrArg Nat.cast (idxOf_firstC hk he fun hx => ?_)
  obtain ⟨j, hj, hje⟩ := List.mem_take_iff_getElem.1 hx
  have hp := List.pairwise_iff_getElem.1 hR j k (by omega) hk (by omega)
  rw [hje, he] at hp
  exact ltL_irr _ hp
theorem gFind_tr {s g : SV} {es : List Cn} {gs : List Int} [hr : RdS I L s Cn inferInstance es] [hg : RdS I L g Int inferInstance gs] (hG : GrG I kg es) (hR : RisC kg es) (hn : es.length ≤ 1000000000) (hl : ∀ p ∈ es, (kg p.1).length ≤ 1000000000) (h2 : gs.length ≤ 1000000000) :
    Tr Try.prog 50 #[.slice s.a s.n s.cap, .slice g.a g.n g.cap] (SL w0 I L) (fun _ : Unit => .int .i64 (plcN (es.map fun p => kg p.1) gs)) (fun _ => SL w0 I L) := by
  refine Tr.intro Try.func50 rfl Try.ntmps50 rfl ?_
  by_cases hm : gs ∈ es.map fun p => kg p.1
  · skip
    repeat' (first | ((first | refine WLA.m rfl rfl ?_ ?_ | refine WLA.st rfl ?_ ?_ | refine WLA.x rfl rfl ?_ (fun x => ?_) | refine WLA.x0 rfl ?_ (fun x => ?_)); first | exact trivial | exact rfl | assumption | omega | (refine ⟨?_, ?_⟩ <;> omega) | (simp only [Room, List.length_set, List.length_append, List.length_cons, List.length_nil, List.length_replicate]; omega) | decide | skip) | (refine Stp.go ?_) | (guard_target =~ WLA _ _ _ _ _ (⟨_, .call ⟨.value (.func 102), _, _⟩, _, _, _, _⟩ :: _) _ _; first | (refine WLA.call rfl rfl (bsC_tr hG hR hn hl h2) ?_; rintro ⟨k, hk⟩; dsimp only) | (refine WLA.call0 rfl (bsC_tr hG hR hn hl h2) ?_; rintro ⟨k, hk⟩; dsimp only)) | (refine WPA.ifT ?_) | (refine WPA.ifF ?_) | ((first | refine WPA.dec ?_); first | refine .inl ⟨by first | assumption | omega | with_reducible rfl | (refine fun h => h ?_; first | assumption | with_reducible rfl) | (simp only [List.length_append, List.length_cons, List.length_nil, List.length_set] <;> omega) | decide, ?_⟩ | refine .inr ⟨by first | assumption | omega | with_reducible rfl | (refine fun h => h ?_; first | assumption | with_reducible rfl) | (simp only [List.length_append, List.length_cons, List.length_nil, List.length_set] <;> omega) | decide, ?_⟩) | ((first | refine WPA.ifBt ?_ ?_ | refine WPA.ifBnf ?_ ?_); assumption) | ((first | refine WPA.ifBnt ?_ ?_ | refine WPA.ifBf ?_ ?_); assumption) | ((first | refine WPA.ifs ?_ ?_ | refine WPA.ifB ?_ ?_) <;> intro hc))
    have hk' := hk hm
    have he := plc_uni hR (k := k) (g := gs) (by rw [List.length_map]; exact hk'.1) (by rw [List.getElem_map, ← at_nat es k hk'.1]; exact hk'.2)
    rw [he]
    exact QQ.end_ rfl () rfl fun w h => h
  · have he : plcN (es.map fun p => kg p.1) gs = -1 := by unfold plcN; rw [if_neg hm]
    rw [he]
    repeat' (first | ((first | refine WLA.m rfl rfl ?_ ?_ | refine WLA.st rfl ?_ ?_ | refine WLA.x rfl rfl ?_ (fun x => ?_) | refine WLA.x0 rfl ?_ (fun x => ?_)); first | exact trivial | exact rfl | assumption | omega | (refine ⟨?_, ?_⟩ <;> omega) | (simp only [Room, List.length_set, List.length_append, List.length_cons, List.length_nil, List.length_replicate]; omega) | decide | skip) | (refine Stp.go ?_) | (guard_target =~ WLA _ _ _ _ _ (⟨_, .call ⟨.value (.func 102), _, _⟩, _, _, _, _⟩ :: _) _ _; first | (refine WLA.call rfl rfl (bsC_tr hG hR hn hl h2) ?_; rintro ⟨k, hk⟩; dsimp only) | (refine WLA.call0 rfl (bsC_tr hG hR hn hl h2) ?_; rintro ⟨k, hk⟩; dsimp only)) | (refine WPA.ifT ?_) | (refine WPA.ifF ?_) | ((first | refine WPA.dec ?_); first | refine .inl ⟨by first | assumption | omega | with_reducible rfl | (refine fun h => h ?_; first | assumption | with_reducible rfl) | (simp only [List.length_append, List.length_cons, List.length_nil, List.length_set] <;> omega) | decide, ?_⟩ | refine .inr ⟨by first | assumption | omega | with_reducible rfl | (refine fun h => h ?_; first | assumption | with_reducible rfl) | (simp only [List.length_append, List.length_cons, List.length_nil, List.length_set] <;> omega) | decide, ?_⟩) | ((first | refine WPA.ifBt ?_ ?_ | refine WPA.ifBnf ?_ ?_); assumption) | ((first | refine WPA.ifBnt ?_ ?_ | refine WPA.ifBf ?_ ?_); assumption) | ((first | refine WPA.ifs ?_ ?_ | refine WPA.ifB ?_ ?_) <;> intro hc))
    exact QQ.end_ rfl () rfl fun w h => h
theorem rFindC_tr {s g : SV} {es : List Cn} {gs : List Int} [hr : RdS I L s Cn inferInstance es] [hg : RdS I L g Int inferInstance gs] (hG : GrG I kg es) (hn : es.length ≤ 1000000000) (hl : ∀ p ∈ es, (kg p.1).length ≤ 1000000000) (h2 : gs.length ≤ 1000000000) :
    TrP Try.prog 51 #[.slice s.a s.n s.cap, .slice g.a g.n g.cap] (SL w0 I L) (.int .i64 (plcN (es.map fun p => kg p.1) gs)) := by
  refine TrP.ofD fun u => Tr.intro Try.func51 rfl Try.ntmps51 rfl ?_
  repeat' (first | ((first | refine WLA.m rfl rfl ?_ ?_ | refine WLA.st rfl ?_ ?_ | refine WLA.x rfl rfl ?_ (fun x => ?_) | refine WLA.x0 rfl ?_ (fun x => ?_)); first | exact trivial | exact rfl | assumption | omega | (refine ⟨?_, ?_⟩ <;> omega) | (simp only [Room, List.length_set, List.length_append, List.length_cons, List.length_nil, List.length_replicate]; omega) | decide | skip) | (refine Stp.go ?_) | (refine WPA.ifT ?_) | (refine WPA.ifF ?_) | ((first | refine WPA.dec ?_); first | refine .inl ⟨by first | assumption | omega | with_reducible rfl | (refine fun h => h ?_; first | assumption | with_reducible rfl) | (simp only [List.length_append, List.length_cons, List.length_nil, List.length_set] <;> omega) | decide, ?_⟩ | refine .inr ⟨by first | assumption | omega | with_reducible rfl | (refine fun h => h ?_; first | assumption | with_reducible rfl) | (simp only [List.length_append, List.length_cons, List.length_nil, List.length_set] <;> omega) | decide, ?_⟩) | ((first | refine WPA.ifBt ?_ ?_ | refine WPA.ifBnf ?_ ?_); assumption) | ((first | refine WPA.ifBnt ?_ ?_ | refine WPA.ifBf ?_ ?_); assumption) | ((first | refine WPA.ifs ?_ ?_ | refine WPA.ifB ?_ ?_) <;> intro hc))
  refine WPA.loopS (σ := Nat) (fun i => [(0, .slice s.a s.n s.cap), (1, .slice g.a g.n g.cap), (5, .int .i64 i)]) (fun i => i ≤ es.length ∧ gs ∉ (es.take i).map (fun p => kg p.1))
    (fun i => SLd w0 I L u) (fun i => es.length - i) 0 ⟨rfl, rfl, rfl, trivial⟩ ⟨Nat.zero_le _, by simp⟩ (fun w h => h) ?_
  rintro i ρ ⟨hi, he⟩
  by_cases hlt : i < es.length
  · have hlt' : (i : Int) < es.length := by omega
    have hxl : (kg (at_ es (i : Int)).1).length ≤ 1000000000 := hl _ (by rw [at_nat es i hlt]; exact List.getElem_mem _)
    have hxg := hG.at hlt
    have hil : i < (es.map fun p => kg p.1).length := by rw [List.length_map]; exact hlt
    have hia : (es.map fun p => kg p.1)[i] = kg (at_ es (i : Int)).1 := by rw [List.getElem_map, ← at_nat es i hlt]
    rw [List.map_take] at he
    by_cases hc : kg (at_ es (i : Int)).1 = gs
    · have hm : gs ∈ es.map (fun p => kg p.1) := by rw [← hc, ← hia]; exact List.getElem_mem _
      have hix := idxOf_firstC hil (hia.trans hc) he
      repeat' (first | ((first | refine WLA.m rfl rfl ?_ ?_ | refine WLA.st rfl ?_ ?_ | refine WLA.x rfl rfl ?_ (fun x => ?_) | refine WLA.x0 rfl ?_ (fun x => ?_)); first | exact trivial | exact rfl | assumption | omega | (refine ⟨?_, ?_⟩ <;> omega) | (simp only [Room, List.length_set, List.length_append, List.length_cons, List.length_nil, List.length_replicate]; omega) | decide | skip) | (refine Stp.go ?_) | (guard_target =~ WLA _ _ _ _ _ (⟨_, .call ⟨.value (.func 18), _, _⟩, _, _, _, _⟩ :: _) _ _; refine WLA.cq rfl rfl (Ints_tr hxl) ?_) | (refine WPA.ifT ?_) | (refine WPA.ifF ?_) | ((first | refine WPA.dec ?_); first | refine .inl ⟨by first | assumption | omega | with_reducible rfl | (refine fun h => h ?_; first | assumption | with_reducible rfl) | (simp only [List.length_append, List.length_cons, List.length_nil, List.length_set] <;> omega) | decide, ?_⟩ | refine .inr ⟨by first | assumption | omega | with_reducible rfl | (refine fun h => h ?_; first | assumption | with_reducible rfl) | (simp only [List.length_append, List.length_cons, List.length_nil, List.length_set] <;> omega) | decide, ?_⟩) | ((first | refine WPA.ifBt ?_ ?_ | refine WPA.ifBnf ?_ ?_); assumption) | ((first | refine WPA.ifBnt ?_ ?_ | refine WPA.ifBf ?_ ?_); assumption) | ((first | refine WPA.ifs ?_ ?_ | refine WPA.ifB ?_ ?_) <;> intro hc))
      exact QQ.end_ rfl () (by unfold plcN; rw [if_pos hm, hix]) fun w h => h
    · skip
      repeat' (first | ((first | refine WLA.m rfl rfl ?_ ?_ | refine WLA.st rfl ?_ ?_ | refine WLA.x rfl rfl ?_ (fun x => ?_) | refine WLA.x0 rfl ?_ (fun x => ?_)); first | exact trivial | exact rfl | assumption | omega | (refine ⟨?_, ?_⟩ <;> omega) | (simp only [Room, List.length_set, List.length_append, List.length_cons, List.length_nil, List.length_replicate]; omega) | decide | skip) | (refine Stp.go ?_) | (guard_target =~ WLA _ _ _ _ _ (⟨_, .call ⟨.value (.func 18), _, _⟩, _, _, _, _⟩ :: _) _ _; refine WLA.cq rfl rfl (Ints_tr hxl) ?_) | (refine WPA.ifT ?_) | (refine WPA.ifF ?_) | ((first | refine WPA.dec ?_); first | refine .inl ⟨by first | assumption | omega | with_reducible rfl | (refine fun h => h ?_; first | assumption | with_reducible rfl) | (simp only [List.length_append, List.length_cons, List.length_nil, List.length_set] <;> omega) | decide, ?_⟩ | refine .inr ⟨by first | assumption | omega | with_reducible rfl | (refine fun h => h ?_; first | assumption | with_reducible rfl) | (simp only [List.length_append, List.length_cons, List.length_nil, List.length_set] <;> omega) | decide, ?_⟩) | ((first | refine WPA.ifBt ?_ ?_ | refine WPA.ifBnf ?_ ?_); assumption) | ((first | refine WPA.ifBnt ?_ ?_ | refine WPA.ifBf ?_ ?_); assumption) | ((first | refine WPA.ifs ?_ ?_ | refine WPA.ifB ?_ ?_) <;> intro hc))
      refine QQ.loopS (i + 1) ⟨rfl, rfl, rfl, trivial⟩ ⟨hlt, ?_⟩ (by omega) (fun w h => h)
      rw [List.map_take, List.take_add_one, List.getElem?_eq_getElem hil, hia]
      intro hm
      rcases List.mem_append.1 hm with hm | hm
      · exact he hm
      · simp only [Option.toList_some, List.mem_singleton] at hm; exact hc hm.symm
  · have hlt' : ¬ (i : Int) < es.length := by omega
    rw [List.take_of_length_le (by omega)] at he
    repeat' (first | ((first | refine WLA.m rfl rfl ?_ ?_ | refine WLA.st rfl ?_ ?_ | refine WLA.x rfl rfl ?_ (fun x => ?_) | refine WLA.x0 rfl ?_ (fun x => ?_)); first | exact trivial | exact rfl | assumption | omega | (refine ⟨?_, ?_⟩ <;> omega) | (simp only [Room, List.length_set, List.length_append, List.length_cons, List.length_nil, List.length_replicate]; omega) | decide | skip) | (refine Stp.go ?_) | (refine WPA.ifT ?_) | (refine WPA.ifF ?_) | ((first | refine WPA.dec ?_); first | refine .inl ⟨by first | assumption | omega | with_reducible rfl | (refine fun h => h ?_; first | assumption | with_reducible rfl) | (simp only [List.length_append, List.length_cons, List.length_nil, List.length_set] <;> omega) | decide, ?_⟩ | refine .inr ⟨by first | assumption | omega | with_reducible rfl | (refine fun h => h ?_; first | assumption | with_reducible rfl) | (simp only [List.length_append, List.length_cons, List.length_nil, List.length_set] <;> omega) | decide, ?_⟩) | ((first | refine WPA.ifBt ?_ ?_ | refine WPA.ifBnf ?_ ?_); assumption) | ((first | refine WPA.ifBnt ?_ ?_ | refine WPA.ifBf ?_ ?_); assumption) | ((first | refine WPA.ifs ?_ ?_ | refine WPA.ifB ?_ ?_) <;> intro hc))
    exact QQ.end_ rfl () (by unfold plcN; rw [if_neg he]) fun w h => h
end
end Go.Proofs.Ytlodbajaoadhdaa
