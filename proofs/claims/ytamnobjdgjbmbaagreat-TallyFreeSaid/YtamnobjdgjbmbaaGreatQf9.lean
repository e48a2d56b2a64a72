/- Texts that TallyFree_law leans on, part 9. Conditions: none. -/
import Derived.Lib.AppendStr
import Derived.Test.YtamnobjdgjbmbaaGreatQf8
namespace Go.Proofs.YtamnobjdgjbmbaaGreat
open Go Go.Fw Go.RowKit
set_option linter.unusedVariables false
set_option linter.unusedSimpArgs false
set_option maxRecDepth 100000
set_option maxHeartbeats 16000000
set_option synthInstance.maxHeartbeats 200000
set_option synthInstance.maxSize 100000
attribute [local irreducible] WPA WLA WDA WDQ WDE QQ seqQ blockQ loopQ fnQ OpP OpT Tr TrP SL SLd OwnS LitS Bk BkE Ob
attribute [local irreducible] RowH
def GrG (I : Foot) (kg : SV → List Int) (ps : List (SV × Int)) : Prop := ∀ p ∈ ps, SlI I p.1 Int inferInstance (kg p.1)
theorem GrG.at {I : Foot} {kg : SV → List Int} {ps : List (SV × Int)} (h : GrG I kg ps) {i : Nat} (hi : i < ps.length) : SlI I (at_ ps (i : Int)).1 Int inferInstance (kg (at_ ps (i : Int)).1) := h _ (by rw [at_nat ps i hi]; exact List.getElem_mem _)
section
variable {kg : SV → List Int} {L : List HP} {w0 : World} {I : Foot}
structure RP where
  i : Nat
  r : SV
  o : List (SV × Int)
  laid : Bool
theorem rPut_tr {s : SV} {ps : List (SV × Int)} {xg : SV} {xn : Int} [hr : RdS I L s (SV × Int) inferInstance ps] (hg : GrG I kg ps) (hl : ∀ p ∈ ps, (kg p.1).length ≤ 1000000) (hx : SlI I xg Int inferInstance (kg xg)) (hxl : (kg xg).length ≤ 1000000) (hn : ps.length ≤ 100000) :
    Tr Tryz.prog 63 #[.slice s.a s.n s.cap, .agg #[.slice xg.a xg.n xg.cap, .int .i64 xn]] (SL w0 I L) (fun r : SV => .slice r.a r.n r.cap) (fun r => SL w0 I (OwnS 84 r ((putG kg (xg, xn) false ps).1 ++ (if (putG kg (xg, xn) false ps).2 = true then [] else [(xg, xn)])) :: L)) := by
  refine Tr.intro Tryz.func63 rfl Tryz.ntmps63 rfl ?_
  generalize hall : putG kg (xg, xn) false ps = all
  repeat' (first | ((first | refine WLA.m rfl rfl ?_ ?_ | refine WLA.st rfl ?_ ?_ | refine WLA.x rfl rfl ?_ (fun x => ?_) | refine WLA.x0 rfl ?_ (fun x => ?_)); first | exact trivial | exact rfl | assumption | omega | (refine ⟨?_, ?_⟩ <;> omega) | (simp only [Room, lenS]; omega) | decide | skip) | (refine Stp.go ?_) | (refine WPA.ifT ?_) | (refine WPA.ifF ?_) | ((first | refine WPA.dec ?_); first | refine .inl ⟨by first | assumption | omega | with_reducible rfl | (refine fun h => h ?_; first | assumption | with_reducible rfl) | (simp only [lenS] <;> omega) | decide, ?_⟩ | refine .inr ⟨by first | assumption | omega | with_reducible rfl | (refine fun h => h ?_; first | assumption | with_reducible rfl) | (simp only [lenS] <;> omega) | decide, ?_⟩) | ((first | refine WPA.ifBt ?_ ?_ | refine WPA.ifBnf ?_ ?_); assumption) | ((first | refine WPA.ifBnt ?_ ?_ | refine WPA.ifBf ?_ ?_); assumption) | ((first | refine WPA.ifs ?_ ?_ | refine WPA.ifB ?_ ?_) <;> intro hc))
  revert x; intro t3
  refine WPA.loopS (σ := RP) (fun y => [(0, .slice s.a s.n s.cap), (3, .pointer (some ⟨t3, 0, none⟩)), (5, .slice y.r.a y.r.n y.r.cap), (6, .bool y.laid), (7, .int .i64 y.i)])
    (fun y => (y.i ≤ ps.length ∧ y.o.length ≤ 2 * y.i) ∧ y.o ++ (putG kg (xg, xn) y.laid (ps.drop y.i)).1 = all.1 ∧ (putG kg (xg, xn) y.laid (ps.drop y.i)).2 = all.2)
    (fun y => SL w0 I (OwnS 84 y.r y.o :: Bk t3 84 [.slice xg.a xg.n xg.cap, .int .i64 xn] :: L)) (fun y => ps.length - y.i) ⟨0, SV.nil, [], false⟩ ⟨rfl, rfl, rfl, rfl, rfl, trivial⟩ ⟨⟨Nat.zero_le _, Nat.zero_le _⟩, by rw [List.drop_zero, hall]; rfl, by rw [List.drop_zero, hall]⟩ (fun w h => h.to) ?_
  rintro ⟨i, r, o, laid⟩ ρ ⟨⟨hi, ho⟩, h1, h2⟩
  dsimp only at hi ho h1 h2 ⊢
  by_cases hlt : i < ps.length
  · have hlt' : (i : Int) < ps.length := by omega
    have hyg := hg.at hlt
    have hyl : (kg (at_ ps (i : Int)).1).length ≤ 1000000000 := by have := hl (at_ ps (i : Int)) (by rw [at_nat ps i hlt]; exact List.getElem_mem _); omega
    have hxl' : (kg xg).length ≤ 1000000000 := by omega
    rw [List.drop_eq_getElem_cons hlt, ← at_nat ps i hlt] at h1 h2
    simp only [putG] at h1 h2
    by_cases hp : 0 < cmpL (kg (at_ ps (i : Int)).1) (kg xg)
    · have hz : ¬ cmpL (kg (at_ ps (i : Int)).1) (kg xg) = 0 := by omega
      have hd : decide (0 ≤ cmpL (kg (at_ ps (i : Int)).1) (kg xg)) = true := decide_eq_true (by omega)
      rw [hd, Bool.or_true] at h1 h2
      rw [if_neg hz] at h1
      cases laid
      · rw [if_pos ⟨hp, rfl⟩] at h1
        repeat' (first | ((first | refine WLA.m rfl rfl ?_ ?_ | refine WDQ.m rfl rfl ?_ ?_ | refine WLA.st rfl ?_ ?_ | refine WLA.x rfl rfl ?_ (fun x => ?_) | refine WLA.x0 rfl ?_ (fun x => ?_)); first | exact trivial | exact rfl | assumption | omega | (refine ⟨?_, ?_⟩ <;> omega) | (simp only [Room, lenS]; omega) | decide | skip) | (refine Stp.go ?_) | (guard_target =~ WLA _ _ _ _ _ (⟨_, .call ⟨.value (.func 39), _, _⟩, _, _, _, _⟩ :: _) _ _; refine WLA.cq rfl rfl (Compare_tr (by assumption) (by assumption)) ?_) | (refine WPA.ifT ?_) | (refine WPA.ifF ?_) | (refine WLA.no rfl rfl ?_) | ((first | refine WPA.dec ?_ | ((fail_if_success (guard_target =~ WLA _ _ _ _ _ _ (put1 _ _ (.bool true)) _)); (fail_if_success (guard_target =~ WLA _ _ _ _ _ _ (put1 _ _ (.bool false)) _)); refine WLA.dec rfl rfl ?_) | refine WLA.pk ?_); first | refine .inl ⟨by first | assumption | omega | with_reducible rfl | (refine fun h => h ?_; first | assumption | with_reducible rfl) | (simp only [lenS] <;> omega) | decide, ?_⟩ | refine .inr ⟨by first | assumption | omega | with_reducible rfl | (refine fun h => h ?_; first | assumption | with_reducible rfl) | (simp only [lenS] <;> omega) | decide, ?_⟩) | ((first | refine WPA.ifBt ?_ ?_ | refine WPA.ifBnf ?_ ?_); assumption) | ((first | refine WPA.ifBnt ?_ ?_ | refine WPA.ifBf ?_ ?_); assumption) | ((first | refine WPA.ifs ?_ ?_ | refine WPA.ifB ?_ ?_) <;> intro hc) | ((fail_if_success (guard_target =~ WLA _ _ _ _ _ _ (put1 _ _ (.bool true)) _)); (fail_if_success (guard_target =~ WLA _ _ _ _ _ _ (put1 _ _ (.bool false)) _)); (first | refine WLA.both rfl rfl ?_ ?_ | refine WLA.bothB rfl rfl ?_ ?_) <;> intro hg) | (guard_target =~ WPA _ _ _ (.region 6 _ true) _ _ _; refine WPA.drawT 7 (.q 0 (.q 1 (.q 2 (.q 3 (.q 4 (.q 5 (.q 6 .fin))))))) mixed ?_ ?_; kernel_rfl) | (refine WDA.finish (tl := [⟨_, _, _, _, _, _⟩, ⟨_, _, _, _, _, _⟩]) rfl ?_) | (refine WDQ.see rfl ?_) | (guard_target =~ WDQ _ _ _ _ _ _ _ ⟨_, .call ⟨.value (.func 39), _, _⟩, _, _, _, _⟩ _ _ _; refine WDQ.cq rfl rfl (Compare_tr (by assumption) (by assumption)) ?_))
        refine QQ.loopS ⟨i + 1, x, o ++ [(xg, xn)] ++ [((at_ ps (i : Int)).1, (at_ ps (i : Int)).2)], true⟩ ⟨rfl, rfl, rfl, rfl, rfl, trivial⟩ ⟨⟨hlt, ?_⟩, ?_, h2⟩ (by dsimp only; omega) (fun w h => h.to)
        · simp; omega
        · rw [← h1]; simp
      · rw [if_neg (fun h => by cases h.2)] at h1
        repeat' (first | ((first | refine WLA.m rfl rfl ?_ ?_ | refine WDQ.m rfl rfl ?_ ?_ | refine WLA.st rfl ?_ ?_ | refine WLA.x rfl rfl ?_ (fun x => ?_) | refine WLA.x0 rfl ?_ (fun x => ?_)); first | exact trivial | exact rfl | assumption | omega | (refine ⟨?_, ?_⟩ <;> omega) | (simp only [Room, lenS]; omega) | decide | skip) | (refine Stp.go ?_) | (guard_target =~ WLA _ _ _ _ _ (⟨_, .call ⟨.value (.func 39), _, _⟩, _, _, _, _⟩ :: _) _ _; refine WLA.cq rfl rfl (Compare_tr (by assumption) (by assumption)) ?_) | (refine WPA.ifT ?_) | (refine WPA.ifF ?_) | (refine WLA.no rfl rfl ?_) | ((first | refine WPA.dec ?_ | ((fail_if_success (guard_target =~ WLA _ _ _ _ _ _ (put1 _ _ (.bool true)) _)); (fail_if_success (guard_target =~ WLA _ _ _ _ _ _ (put1 _ _ (.bool false)) _)); refine WLA.dec rfl rfl ?_) | refine WLA.pk ?_); first | refine .inl ⟨by first | assumption | omega | with_reducible rfl | (refine fun h => h ?_; first | assumption | with_reducible rfl) | (simp only [lenS] <;> omega) | decide, ?_⟩ | refine .inr ⟨by first | assumption | omega | with_reducible rfl | (refine fun h => h ?_; first | assumption | with_reducible rfl) | (simp only [lenS] <;> omega) | decide, ?_⟩) | ((first | refine WPA.ifBt ?_ ?_ | refine WPA.ifBnf ?_ ?_); assumption) | ((first | refine WPA.ifBnt ?_ ?_ | refine WPA.ifBf ?_ ?_); assumption) | ((first | refine WPA.ifs ?_ ?_ | refine WPA.ifB ?_ ?_) <;> intro hc) | ((fail_if_success (guard_target =~ WLA _ _ _ _ _ _ (put1 _ _ (.bool true)) _)); (fail_if_success (guard_target =~ WLA _ _ _ _ _ _ (put1 _ _ (.bool false)) _)); (first | refine WLA.both rfl rfl ?_ ?_ | refine WLA.bothB rfl rfl ?_ ?_) <;> intro hg) | (guard_target =~ WPA _ _ _ (.region 6 _ true) _ _ _; refine WPA.drawT 7 (.q 0 (.q 1 (.q 2 (.q 3 (.q 4 (.q 5 (.q 6 .fin))))))) mixed ?_ ?_; kernel_rfl) | (refine WDA.finish (tl := [⟨_, _, _, _, _, _⟩, ⟨_, _, _, _, _, _⟩]) rfl ?_) | (refine WDQ.see rfl ?_) | (guard_target =~ WDQ _ _ _ _ _ _ _ ⟨_, .call ⟨.value (.func 39), _, _⟩, _, _, _, _⟩ _ _ _; refine WDQ.cq rfl rfl (Compare_tr (by assumption) (by assumption)) ?_))
        refine QQ.loopS ⟨i + 1, x, o ++ [((at_ ps (i : Int)).1, (at_ ps (i : Int)).2)], true⟩ ⟨rfl, rfl, rfl, rfl, rfl, trivial⟩ ⟨⟨hlt, ?_⟩, ?_, h2⟩ (by dsimp only; omega) (fun w h => h.to)
        · simp; omega
        · rw [← h1]; simp
    · rw [if_neg (fun h => hp h.1), List.nil_append] at h1
      by_cases hz : cmpL (kg (at_ ps (i : Int)).1) (kg xg) = 0
      · have hd : decide (0 ≤ cmpL (kg (at_ ps (i : Int)).1) (kg xg)) = true := decide_eq_true (by omega)
        rw [hd, Bool.or_true] at h1 h2
        rw [if_pos hz] at h1
        repeat' ((fail_if_success (guard_target =~ WPA _ _ _ (.region 12 _ _) _ _ _)); first | ((first | refine WLA.m rfl rfl ?_ ?_ | refine WDQ.m rfl rfl ?_ ?_ | refine WLA.st rfl ?_ ?_ | refine WLA.x rfl rfl ?_ (fun x => ?_) | refine WLA.x0 rfl ?_ (fun x => ?_)); first | exact trivial | exact rfl | assumption | omega | (refine ⟨?_, ?_⟩ <;> omega) | (simp only [Room, lenS]; omega) | decide | skip) | (refine Stp.go ?_) | (guard_target =~ WLA _ _ _ _ _ (⟨_, .call ⟨.value (.func 39), _, _⟩, _, _, _, _⟩ :: _) _ _; refine WLA.cq rfl rfl (Compare_tr (by assumption) (by assumption)) ?_) | (refine WPA.ifT ?_) | (refine WPA.ifF ?_) | (refine WLA.no rfl rfl ?_) | ((first | refine WPA.dec ?_ | ((fail_if_success (guard_target =~ WLA _ _ _ _ _ _ (put1 _ _ (.bool true)) _)); (fail_if_success (guard_target =~ WLA _ _ _ _ _ _ (put1 _ _ (.bool false)) _)); refine WLA.dec rfl rfl ?_) | refine WLA.pk ?_); first | refine .inl ⟨by first | assumption | omega | with_reducible rfl | (refine fun h => h ?_; first | assumption | with_reducible rfl) | (simp only [lenS] <;> omega) | decide, ?_⟩ | refine .inr ⟨by first | assumption | omega | with_reducible rfl | (refine fun h => h ?_; first | assumption | with_reducible rfl) | (simp only [lenS] <;> omega) | decide, ?_⟩) | ((first | refine WPA.ifBt ?_ ?_ | refine WPA.ifBnf ?_ ?_); assumption) | ((first | refine WPA.ifBnt ?_ ?_ | refine WPA.ifBf ?_ ?_); assumption) | ((first | refine WPA.ifs ?_ ?_ | refine WPA.ifB ?_ ?_) <;> intro hc) | ((fail_if_success (guard_target =~ WLA _ _ _ _ _ _ (put1 _ _ (.bool true)) _)); (fail_if_success (guard_target =~ WLA _ _ _ _ _ _ (put1 _ _ (.bool false)) _)); (first | refine WLA.both rfl rfl ?_ ?_ | refine WLA.bothB rfl rfl ?_ ?_) <;> intro hg) | (guard_target =~ WPA _ _ _ (.region 6 _ true) _ _ _; refine WPA.drawT 7 (.q 0 (.q 1 (.q 2 (.q 3 (.q 4 (.q 5 (.q 6 .fin))))))) mixed ?_ ?_; kernel_rfl) | (refine WDA.finish (tl := [⟨_, _, _, _, _, _⟩, ⟨_, _, _, _, _, _⟩]) rfl ?_) | (refine WDQ.see rfl ?_) | (guard_target =~ WDQ _ _ _ _ _ _ _ ⟨_, .call ⟨.value (.func 39), _, _⟩, _, _, _, _⟩ _ _ _; refine WDQ.cq rfl rfl (Compare_tr (by assumption) (by assumption)) ?_))
        repeat' ((fail_if_success (guard_target =~ WPA _ _ _ (.region 13 _ _) _ _ _)); first | (guard_target =~ WLA _ _ _ _ _ (⟨_, .binOp .add _ _ _ _, _, _, _, _⟩ :: _) _ _; refine WLA.m (h := addW) rfl rfl trivial ?_) | (guard_target =~ WDQ _ _ _ _ _ _ _ ⟨_, .binOp .add _ _ _ _, _, _, _, _⟩ _ _ _; refine WDQ.m (h := addW) rfl rfl trivial ?_) | (guard_target =~ WDP _ _ _ _ _ _ _ ⟨_, .binOp .add _ _ _ _, _, _, _, _⟩ _ _ _; refine WDP.m (h := addW) rfl rfl trivial ?_) | ((first | refine WLA.m rfl rfl ?_ ?_ | refine WLA.st rfl ?_ ?_ | refine WLA.x rfl rfl ?_ (fun x => ?_) | refine WLA.x0 rfl ?_ (fun x => ?_)); first | exact trivial | exact rfl | assumption | omega | (refine ⟨?_, ?_⟩ <;> omega) | (simp only [Room, lenS]; omega) | decide | skip) | (refine Stp.go ?_) | (refine WPA.ifT ?_) | (refine WPA.ifF ?_) | ((first | refine WPA.dec ?_); first | refine .inl ⟨by first | assumption | omega | with_reducible rfl | (refine fun h => h ?_; first | assumption | with_reducible rfl) | (simp only [lenS] <;> omega) | decide, ?_⟩ | refine .inr ⟨by first | assumption | omega | with_reducible rfl | (refine fun h => h ?_; first | assumption | with_reducible rfl) | (simp only [lenS] <;> omega) | decide, ?_⟩) | ((first | refine WPA.ifBt ?_ ?_ | refine WPA.ifBnf ?_ ?_); assumption) | ((first | refine WPA.ifBnt ?_ ?_ | refine WPA.ifBf ?_ ?_); assumption) | ((first | refine WPA.ifs ?_ ?_ | refine WPA.ifB ?_ ?_) <;> intro hc))
        repeat' (first | ((first | refine WLA.m rfl rfl ?_ ?_ | refine WLA.st rfl ?_ ?_ | refine WLA.x rfl rfl ?_ (fun x => ?_) | refine WLA.x0 rfl ?_ (fun x => ?_)); first | exact trivial | exact rfl | assumption | omega | (refine ⟨?_, ?_⟩ <;> omega) | (simp only [Room, lenS]; omega) | decide | skip) | (refine Stp.go ?_) | (refine WPA.ifT ?_) | (refine WPA.ifF ?_) | ((first | refine WPA.dec ?_); first | refine .inl ⟨by first | assumption | omega | with_reducible rfl | (refine fun h => h ?_; first | assumption | with_reducible rfl) | (simp only [lenS] <;> omega) | decide, ?_⟩ | refine .inr ⟨by first | assumption | omega | with_reducible rfl | (refine fun h => h ?_; first | assumption | with_reducible rfl) | (simp only [lenS] <;> omega) | decide, ?_⟩) | ((first | refine WPA.ifBt ?_ ?_ | refine WPA.ifBnf ?_ ?_); assumption) | ((first | refine WPA.ifBnt ?_ ?_ | refine WPA.ifBf ?_ ?_); assumption) | ((first | refine WPA.ifs ?_ ?_ | refine WPA.ifB ?_ ?_) <;> intro hc))
        refine QQ.loopS ⟨i + 1, x, o ++ [((at_ ps (i : Int)).1, IntKind.i64.wrap ((at_ ps (i : Int)).2 + xn))], true⟩ ⟨rfl, rfl, rfl, rfl, rfl, trivial⟩ ⟨⟨hlt, ?_⟩, ?_, h2⟩ (by dsimp only; omega) (fun w h => h.to)
        · simp; omega
        · rw [← h1]; simp
      · have hd : decide (0 ≤ cmpL (kg (at_ ps (i : Int)).1) (kg xg)) = false := decide_eq_false (by omega)
        rw [hd, Bool.or_false] at h1 h2
        rw [if_neg hz] at h1
        repeat' (first | ((first | refine WLA.m rfl rfl ?_ ?_ | refine WDQ.m rfl rfl ?_ ?_ | refine WLA.st rfl ?_ ?_ | refine WLA.x rfl rfl ?_ (fun x => ?_) | refine WLA.x0 rfl ?_ (fun x => ?_)); first | exact trivial | exact rfl | assumption | omega | (refine ⟨?_, ?_⟩ <;> omega) | (simp only [Room, lenS]; omega) | decide | skip) | (refine Stp.go ?_) | (guard_target =~ WLA _ _ _ _ _ (⟨_, .call ⟨.value (.func 39), _, _⟩, _, _, _, _⟩ :: _) _ _; refine WLA.cq rfl rfl (Compare_tr (by assumption) (by assumption)) ?_) | (refine WPA.ifT ?_) | (refine WPA.ifF ?_) | (refine WLA.no rfl rfl ?_) | ((first | refine WPA.dec ?_ | ((fail_if_success (guard_target =~ WLA _ _ _ _ _ _ (put1 _ _ (.bool true)) _)); (fail_if_success (guard_target =~ WLA _ _ _ _ _ _ (put1 _ _ (.bool false)) _)); refine WLA.dec rfl rfl ?_) | refine WLA.pk ?_); first | refine .inl ⟨by first | assumption | omega | with_reducible rfl | (refine fun h => h ?_; first | assumption | with_reducible rfl) | (simp only [lenS] <;> omega) | decide, ?_⟩ | refine .inr ⟨by first | assumption | omega | with_reducible rfl | (refine fun h => h ?_; first | assumption | with_reducible rfl) | (simp only [lenS] <;> omega) | decide, ?_⟩) | ((first | refine WPA.ifBt ?_ ?_ | refine WPA.ifBnf ?_ ?_); assumption) | ((first | refine WPA.ifBnt ?_ ?_ | refine WPA.ifBf ?_ ?_); assumption) | ((first | refine WPA.ifs ?_ ?_ | refine WPA.ifB ?_ ?_) <;> intro hc) | ((fail_if_success (guard_target =~ WLA _ _ _ _ _ _ (put1 _ _ (.bool true)) _)); (fail_if_success (guard_target =~ WLA _ _ _ _ _ _ (put1 _ _ (.bool false)) _)); (first | refine WLA.both rfl rfl ?_ ?_ | refine WLA.bothB rfl rfl ?_ ?_) <;> intro hg) | (guard_target =~ WPA _ _ _ (.region 6 _ true) _ _ _; refine WPA.drawT 7 (.q 0 (.q 1 (.q 2 (.q 3 (.q 4 (.q 5 (.q 6 .fin))))))) mixed ?_ ?_; kernel_rfl) | (refine WDA.finish (tl := [⟨_, _, _, _, _, _⟩, ⟨_, _, _, _, _, _⟩]) rfl ?_) | (refine WDQ.see rfl ?_) | (guard_target =~ WDQ _ _ _ _ _ _ _ ⟨_, .call ⟨.value (.func 39), _, _⟩, _, _, _, _⟩ _ _ _; refine WDQ.cq rfl rfl (Compare_tr (by assumption) (by assumption)) ?_))
        refine QQ.loopS ⟨i + 1, x, o ++ [((at_ ps (i : Int)).1, (at_ ps (i : Int)).2)], laid⟩ ⟨rfl, rfl, rfl, rfl, rfl, trivial⟩ ⟨⟨hlt, ?_⟩, ?_, h2⟩ (by dsimp only; omega) (fun w h => h.to)
        · simp; omega
        · rw [← h1]; simp
  · have hlt' : ¬ (i : Int) < ps.length := by omega
    rw [List.drop_of_length_le (by omega)] at h1 h2
    simp only [putG, List.append_nil] at h1 h2
    subst h1
    cases laid
    · rw [← h2, if_neg (by decide)]
      repeat' (first | ((first | refine WLA.m rfl rfl ?_ ?_ | refine WDQ.m rfl rfl ?_ ?_ | refine WLA.st rfl ?_ ?_ | refine WLA.x rfl rfl ?_ (fun x => ?_) | refine WLA.x0 rfl ?_ (fun x => ?_)); first | exact trivial | exact rfl | assumption | omega | (refine ⟨?_, ?_⟩ <;> omega) | (simp only [Room, lenS]; omega) | decide | skip) | (refine Stp.go ?_) | (refine WPA.ifT ?_) | (refine WPA.ifF ?_) | (refine WLA.no rfl rfl ?_) | ((first | refine WPA.dec ?_ | ((fail_if_success (guard_target =~ WLA _ _ _ _ _ _ (put1 _ _ (.bool true)) _)); (fail_if_success (guard_target =~ WLA _ _ _ _ _ _ (put1 _ _ (.bool false)) _)); refine WLA.dec rfl rfl ?_) | refine WLA.pk ?_); first | refine .inl ⟨by first | assumption | omega | with_reducible rfl | (refine fun h => h ?_; first | assumption | with_reducible rfl) | (simp only [lenS] <;> omega) | decide, ?_⟩ | refine .inr ⟨by first | assumption | omega | with_reducible rfl | (refine fun h => h ?_; first | assumption | with_reducible rfl) | (simp only [lenS] <;> omega) | decide, ?_⟩) | ((first | refine WPA.ifBt ?_ ?_ | refine WPA.ifBnf ?_ ?_); assumption) | ((first | refine WPA.ifBnt ?_ ?_ | refine WPA.ifBf ?_ ?_); assumption) | ((first | refine WPA.ifs ?_ ?_ | refine WPA.ifB ?_ ?_) <;> intro hc) | ((fail_if_success (guard_target =~ WLA _ _ _ _ _ _ (put1 _ _ (.bool true)) _)); (fail_if_success (guard_target =~ WLA _ _ _ _ _ _ (put1 _ _ (.bool false)) _)); (first | refine WLA.both rfl rfl ?_ ?_ | refine WLA.bothB rfl rfl ?_ ?_) <;> intro hg) | (guard_target =~ WPA _ _ _ (.region 6 _ true) _ _ _; refine WPA.drawT 7 (.q 0 (.q 1 (.q 2 (.q 3 (.q 4 (.q 5 (.q 6 .fin))))))) mixed ?_ ?_; kernel_rfl) | (refine WDA.finish (tl := [⟨_, _, _, _, _, _⟩, ⟨_, _, _, _, _, _⟩]) rfl ?_) | (refine WDQ.see rfl ?_))
      exact QQ.end_ rfl _ rfl fun w h => h.to
    · rw [← h2, if_pos rfl, List.append_nil]
      repeat' (first | ((first | refine WLA.m rfl rfl ?_ ?_ | refine WDQ.m rfl rfl ?_ ?_ | refine WLA.st rfl ?_ ?_ | refine WLA.x rfl rfl ?_ (fun x => ?_) | refine WLA.x0 rfl ?_ (fun x => ?_)); first | exact trivial | exact rfl | assumption | omega | (refine ⟨?_, ?_⟩ <;> omega) | (simp only [Room, lenS]; omega) | decide | skip) | (refine Stp.go ?_) | (refine WPA.ifT ?_) | (refine WPA.ifF ?_) | (refine WLA.no rfl rfl ?_) | ((first | refine WPA.dec ?_ | ((fail_if_success (guard_target =~ WLA _ _ _ _ _ _ (put1 _ _ (.bool true)) _)); (fail_if_success (guard_target =~ WLA _ _ _ _ _ _ (put1 _ _ (.bool false)) _)); refine WLA.dec rfl rfl ?_) | refine WLA.pk ?_); first | refine .inl ⟨by first | assumption | omega | with_reducible rfl | (refine fun h => h ?_; first | assumption | with_reducible rfl) | (simp only [lenS] <;> omega) | decide, ?_⟩ | refine .inr ⟨by first | assumption | omega | with_reducible rfl | (refine fun h => h ?_; first | assumption | with_reducible rfl) | (simp only [lenS] <;> omega) | decide, ?_⟩) | ((first | refine WPA.ifBt ?_ ?_ | refine WPA.ifBnf ?_ ?_); assumption) | ((first | refine WPA.ifBnt ?_ ?_ | refine WPA.ifBf ?_ ?_); assumption) | ((first | refine WPA.ifs ?_ ?_ | refine WPA.ifB ?_ ?_) <;> intro hc) | ((fail_if_success (guard_target =~ WLA _ _ _ _ _ _ (put1 _ _ (.bool true)) _)); (fail_if_success (guard_target =~ WLA _ _ _ _ _ _ (put1 _ _ (.bool false)) _)); (first | refine WLA.both rfl rfl ?_ ?_ | refine WLA.bothB rfl rfl ?_ ?_) <;> intro hg) | (guard_target =~ WPA _ _ _ (.region 6 _ true) _ _ _; refine WPA.drawT 7 (.q 0 (.q 1 (.q 2 (.q 3 (.q 4 (.q 5 (.q 6 .fin))))))) mixed ?_ ?_; kernel_rfl) | (refine WDA.finish (tl := [⟨_, _, _, _, _, _⟩, ⟨_, _, _, _, _, _⟩]) rfl ?_) | (refine WDQ.see rfl ?_))
      exact QQ.end_ rfl _ rfl fun w h => h.to
theorem putL_grg {ps : List (SV × Int)} {x : SV × Int} {G : SV → Prop} (h : ∀ p ∈ ps, G p.1) (hx : G x.1) : ∀ p ∈ putL kg ps x, G p.1 := by
  intro p hp
  rcases putL_fst p hp with e | ⟨y, hy, e⟩
  · rw [e]; exact hx
  · rw [e]; exact h y hy
end
end Go.Proofs.YtamnobjdgjbmbaaGreat
namespace Go.Proofs.YtamnobjdgjbmbaaGreat
open Go Go.Fw Go.RowKit
set_option linter.unusedVariables false
set_option linter.unusedSimpArgs false
set_option maxRecDepth 100000
set_option maxHeartbeats 16000000
set_option synthInstance.maxHeartbeats 200000
set_option synthInstance.maxSize 100000
attribute [local irreducible] WPA WLA WDA WDQ WDE QQ seqQ blockQ loopQ fnQ OpP OpT Tr TrP SL SLd OwnS LitS Bk BkE Ob
attribute [local irreducible] RowH
section
variable {kg : SV → List Int} {L : List HP} {w0 : World} {I : Foot}
theorem Same_tr {a b : SV} {cs ds : List (SV × Int)} {ms ns : List Ct} [ha : RdS I L a (SV × Int) inferInstance cs] [hb : RdS I L b (SV × Int) inferInstance ds] (h1 : cs.map Prod.snd = ms.map Prod.snd) (h2 : ds.map Prod.snd = ns.map Prod.snd)
    (g1 : ∀ i : Nat, i < cs.length → RdS I L (at_ cs (i : Int)).1 Int inferInstance (ms.getD i ([], 0)).1) (g2 : ∀ i : Nat, i < ds.length → RdS I L (at_ ds (i : Int)).1 Int inferInstance (ns.getD i ([], 0)).1) (l1 : ∀ m ∈ ms, m.1.length ≤ 1000000000) (hn : ms.length ≤ 1000000) :
    TrP Tryz.prog 19 #[.slice a.a a.n a.cap, .slice b.a b.n b.cap] (SL w0 I L) (.bool (decide (ms = ns))) := by
  refine TrP.ofD fun u => Tr.intro Tryz.func19 rfl Tryz.ntmps19 rfl ?_
  have e1 : cs.length = ms.length := by have := congrArg List.length h1; simpa using this
  have e2 : ds.length = ns.length := by have := congrArg List.length h2; simpa using this
  by_cases hl : cs.length = ds.length
  · have hl' : ¬ (cs.length : Int) ≠ ds.length := by omega
    repeat' (first | ((first | refine WLA.m rfl rfl ?_ ?_ | refine WLA.st rfl ?_ ?_ | refine WLA.x rfl rfl ?_ (fun x => ?_) | refine WLA.x0 rfl ?_ (fun x => ?_)); first | exact trivial | exact rfl | assumption | omega | (refine ⟨?_, ?_⟩ <;> omega) | (simp only [Room, lenS]; omega) | decide | skip) | (refine Stp.go ?_) | (refine WPA.ifT ?_) | (refine WPA.ifF ?_) | ((first | refine WPA.dec ?_); first | refine .inl ⟨by first | assumption | omega | with_reducible rfl | (refine fun h => h ?_; first | assumption | with_reducible rfl) | (simp only [lenS] <;> omega) | decide, ?_⟩ | refine .inr ⟨by first | assumption | omega | with_reducible rfl | (refine fun h => h ?_; first | assumption | with_reducible rfl) | (simp only [lenS] <;> omega) | decide, ?_⟩) | ((first | refine WPA.ifBt ?_ ?_ | refine WPA.ifBnf ?_ ?_); assumption) | ((first | refine WPA.ifBnt ?_ ?_ | refine WPA.ifBf ?_ ?_); assumption) | ((first | refine WPA.ifs ?_ ?_ | refine WPA.ifB ?_ ?_) <;> intro hc))
    refine WPA.loopS (σ := Nat) (fun i => [(0, .slice a.a a.n a.cap), (1, .slice b.a b.n b.cap), (5, .int .i64 i)]) (fun i => i ≤ cs.length ∧ ms.take i = ns.take i)
      (fun i => SLd w0 I L u) (fun i => cs.length - i) 0 ⟨rfl, rfl, rfl, trivial⟩ ⟨Nat.zero_le _, by simp⟩ (fun w h => h) ?_
    rintro i ρ ⟨hi, he⟩
    by_cases hlt : i < cs.length
    · have hlt' : (i : Int) < cs.length := by omega
      have hlt2 : (i : Int) < ds.length := by omega
      have hm : i < ms.length := by omega
      have hm2 : i < ns.length := by omega
      have k1 := g1 i hlt
      have k2 := g2 i (by omega)
      rw [List.getD_eq_getElem?_getD, List.getElem?_eq_getElem hm, Option.getD_some] at k1
      rw [List.getD_eq_getElem?_getD, List.getElem?_eq_getElem hm2, Option.getD_some] at k2
      have s1 : (at_ cs (i : Int)).2 = ms[i].2 := by
        have := congrArg (fun l => l[i]?) h1
        simp only [List.getElem?_map, List.getElem?_eq_getElem hm, List.getElem?_eq_getElem hlt, Option.map_some] at this
        rw [at_nat cs i hlt]; injection this
      have s2 : (at_ ds (i : Int)).2 = ns[i].2 := by
        have := congrArg (fun l => l[i]?) h2
        simp only [List.getElem?_map, List.getElem?_eq_getElem hm2, List.getElem?_eq_getElem (show i < ds.length by omega), Option.map_some] at this
        rw [at_nat ds i (by omega)]; injection this
      have hml := l1 _ (List.getElem_mem hm)
      by_cases hn' : (at_ cs (i : Int)).2 = (at_ ds (i : Int)).2
      · have hn2 : ¬ (at_ cs (i : Int)).2 ≠ (at_ ds (i : Int)).2 := fun h => h hn'
        by_cases hx : ms[i].1 = ns[i].1
        · have hx2 : ¬ ¬ ms[i].1 = ns[i].1 := fun h => h hx
          repeat' (first | ((first | refine WLA.m rfl rfl ?_ ?_ | refine WDQ.m rfl rfl ?_ ?_ | refine WLA.st rfl ?_ ?_ | refine WLA.x rfl rfl ?_ (fun x => ?_) | refine WLA.x0 rfl ?_ (fun x => ?_)); first | exact trivial | exact rfl | assumption | omega | (refine ⟨?_, ?_⟩ <;> omega) | (simp only [Room, lenS]; omega) | decide | skip) | (refine Stp.go ?_) | (guard_target =~ WLA _ _ _ _ _ (⟨_, .call ⟨.value (.func 21), _, _⟩, _, _, _, _⟩ :: _) _ _; refine WLA.cq rfl rfl (Ints_tr hml) ?_) | (refine WPA.ifT ?_) | (refine WPA.ifF ?_) | (refine WLA.no rfl rfl ?_) | (refine WDQ.no rfl rfl ?_) | ((first | refine WPA.dec ?_ | ((fail_if_success (guard_target =~ WLA _ _ _ _ _ _ (put1 _ _ (.bool true)) _)); (fail_if_success (guard_target =~ WLA _ _ _ _ _ _ (put1 _ _ (.bool false)) _)); refine WLA.dec rfl rfl ?_) | refine WLA.pk ?_ | refine WDQ.dec rfl rfl ?_); first | refine .inl ⟨by first | assumption | omega | with_reducible rfl | (refine fun h => h ?_; first | assumption | with_reducible rfl) | (simp only [lenS] <;> omega) | decide, ?_⟩ | refine .inr ⟨by first | assumption | omega | with_reducible rfl | (refine fun h => h ?_; first | assumption | with_reducible rfl) | (simp only [lenS] <;> omega) | decide, ?_⟩) | ((first | refine WPA.ifBt ?_ ?_ | refine WPA.ifBnf ?_ ?_); assumption) | ((first | refine WPA.ifBnt ?_ ?_ | refine WPA.ifBf ?_ ?_); assumption) | ((first | refine WPA.ifs ?_ ?_ | refine WPA.ifB ?_ ?_) <;> intro hc) | ((fail_if_success (guard_target =~ WLA _ _ _ _ _ _ (put1 _ _ (.bool true)) _)); (fail_if_success (guard_target =~ WLA _ _ _ _ _ _ (put1 _ _ (.bool false)) _)); (first | refine WLA.both rfl rfl ?_ ?_ | refine WLA.bothB rfl rfl ?_ ?_) <;> intro hg) | (guard_target =~ WPA _ _ _ (.region 6 _ true) _ _ _; refine WPA.drawT 22 (.q 0 (.q 1 (.q 2 (.q 3 (.q 4 (.q 5 (.q 6 (.q 7 (.q 8 (.q 9 (.q 10 (.q 11 (.q 12 (.q 13 (.q 14 (.q 15 (.q 16 (.q 17 (.q 18 (.q 19 (.q 20 (.q 21 .fin)))))))))))))))))))))) mixed ?_ ?_; kernel_rfl) | (refine WDA.finish (tl := [⟨_, _, _, _, _, _⟩, ⟨_, _, _, _, _, _⟩, ⟨_, _, _, _, _, _⟩]) rfl ?_) | (refine WDQ.see rfl ?_) | (guard_target =~ WDQ _ _ _ _ _ _ _ ⟨_, .call ⟨.value (.func 21), _, _⟩, _, _, _, _⟩ _ _ _; refine WDQ.cq rfl rfl (Ints_tr hml) ?_) | ((first | refine WDQ.both rfl rfl ?_ ?_) <;> intro hg))
          refine QQ.loopS (i + 1) ⟨rfl, rfl, rfl, trivial⟩ ⟨hlt, ?_⟩ (by omega) (fun w h => h)
          rw [List.take_add_one, List.take_add_one, he, List.getElem?_eq_getElem hm, List.getElem?_eq_getElem hm2, Prod.ext hx (by rw [← s1, ← s2, hn'])]
        · have hx2 : ¬ ms[i].1 = ns[i].1 := hx
          repeat' (first | ((first | refine WLA.m rfl rfl ?_ ?_ | refine WDQ.m rfl rfl ?_ ?_ | refine WLA.st rfl ?_ ?_ | refine WLA.x rfl rfl ?_ (fun x => ?_) | refine WLA.x0 rfl ?_ (fun x => ?_)); first | exact trivial | exact rfl | assumption | omega | (refine ⟨?_, ?_⟩ <;> omega) | (simp only [Room, lenS]; omega) | decide | skip) | (refine Stp.go ?_) | (guard_target =~ WLA _ _ _ _ _ (⟨_, .call ⟨.value (.func 21), _, _⟩, _, _, _, _⟩ :: _) _ _; refine WLA.cq rfl rfl (Ints_tr hml) ?_) | (refine WPA.ifT ?_) | (refine WPA.ifF ?_) | (refine WLA.no rfl rfl ?_) | (refine WDQ.no rfl rfl ?_) | ((first | refine WPA.dec ?_ | ((fail_if_success (guard_target =~ WLA _ _ _ _ _ _ (put1 _ _ (.bool true)) _)); (fail_if_success (guard_target =~ WLA _ _ _ _ _ _ (put1 _ _ (.bool false)) _)); refine WLA.dec rfl rfl ?_) | refine WLA.pk ?_ | refine WDQ.dec rfl rfl ?_); first | refine .inl ⟨by first | assumption | omega | with_reducible rfl | (refine fun h => h ?_; first | assumption | with_reducible rfl) | (simp only [lenS] <;> omega) | decide, ?_⟩ | refine .inr ⟨by first | assumption | omega | with_reducible rfl | (refine fun h => h ?_; first | assumption | with_reducible rfl) | (simp only [lenS] <;> omega) | decide, ?_⟩) | ((first | refine WPA.ifBt ?_ ?_ | refine WPA.ifBnf ?_ ?_); assumption) | ((first | refine WPA.ifBnt ?_ ?_ | refine WPA.ifBf ?_ ?_); assumption) | ((first | refine WPA.ifs ?_ ?_ | refine WPA.ifB ?_ ?_) <;> intro hc) | ((fail_if_success (guard_target =~ WLA _ _ _ _ _ _ (put1 _ _ (.bool true)) _)); (fail_if_success (guard_target =~ WLA _ _ _ _ _ _ (put1 _ _ (.bool false)) _)); (first | refine WLA.both rfl rfl ?_ ?_ | refine WLA.bothB rfl rfl ?_ ?_) <;> intro hg) | (guard_target =~ WPA _ _ _ (.region 6 _ true) _ _ _; refine WPA.drawT 22 (.q 0 (.q 1 (.q 2 (.q 3 (.q 4 (.q 5 (.q 6 (.q 7 (.q 8 (.q 9 (.q 10 (.q 11 (.q 12 (.q 13 (.q 14 (.q 15 (.q 16 (.q 17 (.q 18 (.q 19 (.q 20 (.q 21 .fin)))))))))))))))))))))) mixed ?_ ?_; kernel_rfl) | (refine WDA.finish (tl := [⟨_, _, _, _, _, _⟩, ⟨_, _, _, _, _, _⟩, ⟨_, _, _, _, _, _⟩]) rfl ?_) | (refine WDQ.see rfl ?_) | (guard_target =~ WDQ _ _ _ _ _ _ _ ⟨_, .call ⟨.value (.func 21), _, _⟩, _, _, _, _⟩ _ _ _; refine WDQ.cq rfl rfl (Ints_tr hml) ?_) | ((first | refine WDQ.both rfl rfl ?_ ?_) <;> intro hg))
          refine QQ.end_ rfl () (congrArg Value.bool (decide_eq_false fun e => hx ?_).symm) fun w h => h
          subst e; rfl
      · have hn2 : (at_ cs (i : Int)).2 ≠ (at_ ds (i : Int)).2 := hn'
        repeat' (first | ((first | refine WLA.m rfl rfl ?_ ?_ | refine WDQ.m rfl rfl ?_ ?_ | refine WLA.st rfl ?_ ?_ | refine WLA.x rfl rfl ?_ (fun x => ?_) | refine WLA.x0 rfl ?_ (fun x => ?_)); first | exact trivial | exact rfl | assumption | omega | (refine ⟨?_, ?_⟩ <;> omega) | (simp only [Room, lenS]; omega) | decide | skip) | (refine Stp.go ?_) | (guard_target =~ WLA _ _ _ _ _ (⟨_, .call ⟨.value (.func 21), _, _⟩, _, _, _, _⟩ :: _) _ _; refine WLA.cq rfl rfl (Ints_tr hml) ?_) | (refine WPA.ifT ?_) | (refine WPA.ifF ?_) | (refine WLA.no rfl rfl ?_) | (refine WDQ.no rfl rfl ?_) | ((first | refine WPA.dec ?_ | ((fail_if_success (guard_target =~ WLA _ _ _ _ _ _ (put1 _ _ (.bool true)) _)); (fail_if_success (guard_target =~ WLA _ _ _ _ _ _ (put1 _ _ (.bool false)) _)); refine WLA.dec rfl rfl ?_) | refine WLA.pk ?_ | refine WDQ.dec rfl rfl ?_); first | refine .inl ⟨by first | assumption | omega | with_reducible rfl | (refine fun h => h ?_; first | assumption | with_reducible rfl) | (simp only [lenS] <;> omega) | decide, ?_⟩ | refine .inr ⟨by first | assumption | omega | with_reducible rfl | (refine fun h => h ?_; first | assumption | with_reducible rfl) | (simp only [lenS] <;> omega) | decide, ?_⟩) | ((first | refine WPA.ifBt ?_ ?_ | refine WPA.ifBnf ?_ ?_); assumption) | ((first | refine WPA.ifBnt ?_ ?_ | refine WPA.ifBf ?_ ?_); assumption) | ((first | refine WPA.ifs ?_ ?_ | refine WPA.ifB ?_ ?_) <;> intro hc) | ((fail_if_success (guard_target =~ WLA _ _ _ _ _ _ (put1 _ _ (.bool true)) _)); (fail_if_success (guard_target =~ WLA _ _ _ _ _ _ (put1 _ _ (.bool false)) _)); (first | refine WLA.both rfl rfl ?_ ?_ | refine WLA.bothB rfl rfl ?_ ?_) <;> intro hg) | (guard_target =~ WPA _ _ _ (.region 6 _ true) _ _ _; refine WPA.drawT 22 (.q 0 (.q 1 (.q 2 (.q 3 (.q 4 (.q 5 (.q 6 (.q 7 (.q 8 (.q 9 (.q 10 (.q 11 (.q 12 (.q 13 (.q 14 (.q 15 (.q 16 (.q 17 (.q 18 (.q 19 (.q 20 (.q 21 .fin)))))))))))))))))))))) mixed ?_ ?_; kernel_rfl) | (refine WDA.finish (tl := [⟨_, _, _, _, _, _⟩, ⟨_, _, _, _, _, _⟩, ⟨_, _, _, _, _, _⟩]) rfl ?_) | (refine WDQ.see rfl ?_) | (guard_target =~ WDQ _ _ _ _ _ _ _ ⟨_, .call ⟨.value (.func 21), _, _⟩, _, _, _, _⟩ _ _ _; refine WDQ.cq rfl rfl (Ints_tr hml) ?_) | ((first | refine WDQ.both rfl rfl ?_ ?_) <;> intro hg))
        refine QQ.end_ rfl () (congrArg Value.bool (decide_eq_false fun e => hn' ?_).symm) fun w h => h
        rw [s1, s2]; subst e; rfl
    · have hlt' : ¬ (i : Int) < cs.length := by omega
      repeat' (first | ((first | refine WLA.m rfl rfl ?_ ?_ | refine WDQ.m rfl rfl ?_ ?_ | refine WLA.st rfl ?_ ?_ | refine WLA.x rfl rfl ?_ (fun x => ?_) | refine WLA.x0 rfl ?_ (fun x => ?_)); first | exact trivial | exact rfl | assumption | omega | (refine ⟨?_, ?_⟩ <;> omega) | (simp only [Room, lenS]; omega) | decide | skip) | (refine Stp.go ?_) | (guard_target =~ WLA _ _ _ _ _ (⟨_, .call ⟨.value (.func 21), _, _⟩, _, _, _, _⟩ :: _) _ _; refine WLA.cq rfl rfl (Ints_tr (by assumption)) ?_) | (refine WPA.ifT ?_) | (refine WPA.ifF ?_) | (refine WLA.no rfl rfl ?_) | (refine WDQ.no rfl rfl ?_) | ((first | refine WPA.dec ?_ | ((fail_if_success (guard_target =~ WLA _ _ _ _ _ _ (put1 _ _ (.bool true)) _)); (fail_if_success (guard_target =~ WLA _ _ _ _ _ _ (put1 _ _ (.bool false)) _)); refine WLA.dec rfl rfl ?_) | refine WLA.pk ?_ | refine WDQ.dec rfl rfl ?_); first | refine .inl ⟨by first | assumption | omega | with_reducible rfl | (refine fun h => h ?_; first | assumption | with_reducible rfl) | (simp only [lenS] <;> omega) | decide, ?_⟩ | refine .inr ⟨by first | assumption | omega | with_reducible rfl | (refine fun h => h ?_; first | assumption | with_reducible rfl) | (simp only [lenS] <;> omega) | decide, ?_⟩) | ((first | refine WPA.ifBt ?_ ?_ | refine WPA.ifBnf ?_ ?_); assumption) | ((first | refine WPA.ifBnt ?_ ?_ | refine WPA.ifBf ?_ ?_); assumption) | ((first | refine WPA.ifs ?_ ?_ | refine WPA.ifB ?_ ?_) <;> intro hc) | ((fail_if_success (guard_target =~ WLA _ _ _ _ _ _ (put1 _ _ (.bool true)) _)); (fail_if_success (guard_target =~ WLA _ _ _ _ _ _ (put1 _ _ (.bool false)) _)); (first | refine WLA.both rfl rfl ?_ ?_ | refine WLA.bothB rfl rfl ?_ ?_) <;> intro hg) | (guard_target =~ WPA _ _ _ (.region 6 _ true) _ _ _; refine WPA.drawT 22 (.q 0 (.q 1 (.q 2 (.q 3 (.q 4 (.q 5 (.q 6 (.q 7 (.q 8 (.q 9 (.q 10 (.q 11 (.q 12 (.q 13 (.q 14 (.q 15 (.q 16 (.q 17 (.q 18 (.q 19 (.q 20 (.q 21 .fin)))))))))))))))))))))) mixed ?_ ?_; kernel_rfl) | (refine WDA.finish (tl := [⟨_, _, _, _, _, _⟩, ⟨_, _, _, _, _, _⟩, ⟨_, _, _, _, _, _⟩]) rfl ?_) | (refine WDQ.see rfl ?_) | (guard_target =~ WDQ _ _ _ _ _ _ _ ⟨_, .call ⟨.value (.func 21), _, _⟩, _, _, _, _⟩ _ _ _; refine WDQ.cq rfl rfl (Ints_tr (by assumption)) ?_) | ((first | refine WDQ.both rfl rfl ?_ ?_) <;> intro hg))
      refine QQ.end_ rfl () (congrArg Value.bool (decide_eq_true ?_).symm) fun w h => h
      rw [List.take_of_length_le (by omega), List.take_of_length_le (by omega)] at he
      exact he
  · have hl' : (cs.length : Int) ≠ ds.length := by omega
    repeat' (first | ((first | refine WLA.m rfl rfl ?_ ?_ | refine WLA.st rfl ?_ ?_ | refine WLA.x rfl rfl ?_ (fun x => ?_) | refine WLA.x0 rfl ?_ (fun x => ?_)); first | exact trivial | exact rfl | assumption | omega | (refine ⟨?_, ?_⟩ <;> omega) | (simp only [Room, lenS]; omega) | decide | skip) | (refine Stp.go ?_) | (refine WPA.ifT ?_) | (refine WPA.ifF ?_) | ((first | refine WPA.dec ?_); first | refine .inl ⟨by first | assumption | omega | with_reducible rfl | (refine fun h => h ?_; first | assumption | with_reducible rfl) | (simp only [lenS] <;> omega) | decide, ?_⟩ | refine .inr ⟨by first | assumption | omega | with_reducible rfl | (refine fun h => h ?_; first | assumption | with_reducible rfl) | (simp only [lenS] <;> omega) | decide, ?_⟩) | ((first | refine WPA.ifBt ?_ ?_ | refine WPA.ifBnf ?_ ?_); assumption) | ((first | refine WPA.ifBnt ?_ ?_ | refine WPA.ifBf ?_ ?_); assumption) | ((first | refine WPA.ifs ?_ ?_ | refine WPA.ifB ?_ ?_) <;> intro hc))
    exact QQ.end_ rfl () (congrArg Value.bool (decide_eq_false fun e => hl (by rw [e1, e2, e])).symm) fun w h => h
instance (a b : List Int) : Decidable (ltL a b) := inferInstanceAs (Decidable (_ < _))
instance (kg : SV → List Int) (ps : List (SV × Int)) : Decidable (Ris kg ps) := inferInstanceAs (Decidable (List.Pairwise _ _))
end
end Go.Proofs.YtamnobjdgjbmbaaGreat
namespace Go.Proofs.YtamnobjdgjbmbaaGreat
open Go Go.Fw Go.RowKit
set_option linter.unusedVariables false
set_option linter.unusedSimpArgs false
set_option maxRecDepth 100000
set_option maxHeartbeats 16000000
set_option synthInstance.maxHeartbeats 200000
set_option synthInstance.maxSize 100000
attribute [local irreducible] WPA WLA WDA WDQ WDE QQ seqQ blockQ loopQ fnQ OpP OpT Tr TrP SL SLd OwnS LitS Bk BkE Ob
attribute [local irreducible] RowH
def SmallP (kg : SV → List Int) (tp : SV → List (SV × Int)) (h : SV) : Prop := ((tp h).length ≤ 20 ∧ ∀ p ∈ tp h, (kg p.1).length ≤ 8) ∧ Ris kg (tp h)
instance {kg : SV → List Int} {tp : SV → List (SV × Int)} {h : SV} : Decidable (SmallP kg tp h) := inferInstanceAs (Decidable (_ ∧ _))
class CtsRd (I : Foot) (L : List HP) (ds : List (SV × Int)) (ns : outParam (List Ct)) : Prop where
  out : ds.map Prod.snd = ns.map Prod.snd ∧ ∀ i : Nat, i < ds.length → RdS I L (at_ ds (i : Int)).1 Int inferInstance (ns.getD i ([], 0)).1
instance {I : Foot} {L : List HP} : CtsRd I L [] [] := ⟨rfl, fun i hi => by simp at hi⟩
instance {I : Foot} {L : List HP} {g : SV} {n : Int} {xs : List Int} {ds : List (SV × Int)} {ns : List Ct} [h1 : RdS I L g Int inferInstance xs] [h2 : CtsRd I L ds ns] : CtsRd I L ((g, n) :: ds) ((xs, n) :: ns) := ⟨by simp [h2.out.1], fun i hi => by
  cases i with
  | zero => exact h1
  | succ i => exact h2.out.2 i (by simpa using hi)⟩
instance SubI.here {R I : Foot} : SubI (R ++ I) R := ⟨fun _ h => List.mem_append_left _ h⟩
theorem fold_cell {kg : SV → List Int} : ∀ (ps : List (SV × Int)) (a : List (SV × Int)), (ps.foldl (putL kg) a).map (moP kg) = (ps.map (moP kg)).foldl putM (a.map (moP kg))
  | [], a => rfl
  | p :: ps, a => by rw [List.foldl_cons, fold_cell ps, List.map_cons, List.foldl_cons]; congr 1; exact map_put a
end Go.Proofs.YtamnobjdgjbmbaaGreat
namespace Go.Fw
open Go Go.RowKit
set_option linter.unusedVariables false
set_option linter.unusedSimpArgs false
section
variable {P : Program} {ρ : Env} {A : World → Prop} {ty : TypeId}
theorem P_shl {x y : Operand} {t u : TypeId} {k k' : IntKind} {a : Int} {s : Nat} (h1 : evalE ρ x = .int k a) (h2 : evalE ρ y = .int k' (s : Int)) (hs : s ≤ k.bits) : OpP P ρ (.binOp .shl t x y u) ty A (.int k (k.wrap (a * 2 ^ s))) := by
  intro d pos af g w _
  have e : min s k.bits = s := by omega
  simp [execOp, eqGuard, binOp, h1, h2, Op.shift, e, go_sem]
  rw [if_neg (by omega)]
  cases k <;> simp_all [IntKind.bits]
class Pow2 (s : Int) (m : outParam Int) : Prop where
  out : (2 : Int) ^ s.toNat = m ∧ 0 ≤ s ∧ s ≤ 62
instance : Pow2 16 65536 := ⟨by decide⟩
instance : Pow2 8 256 := ⟨by decide⟩
instance {x y : Operand} {t u : TypeId} {k' : IntKind} {a s m : Int} [h1 : Ev ρ x (.int .i64 a)] [h2 : Ev ρ y (.int k' s)] [hp : Pow2 s m] : OpM P ρ A (.binOp .shl t x y u) ty (.int .i64 (a * m)) (-9223372036854775808 ≤ a * m ∧ a * m ≤ 9223372036854775807) := ⟨fun h => by
  have h3 := P_shl (P := P) (A := A) (ty := ty) (t := t) (u := u) (s := s.toNat) h1.out (by rw [h2.out]; congr 1; have := hp.out.2.1; omega) (by have := hp.out.2.2; simp [IntKind.bits]; omega)
  rw [hp.out.1, wrap_i64 h] at h3
  exact h3⟩
theorem P_lssS {x y : Operand} {t u : TypeId} {a b : ByteArray} (h1 : evalE ρ x = .string a) (h2 : evalE ρ y = .string b) : OpP P ρ (.binOp .lss t x y u) ty A (.bool (decide (Op.bytesLess a.data.toList b.data.toList = true))) := by
  intro d pos af g w _; rw [← ByteArray.toList_eq, ← ByteArray.toList_eq]; simp [execOp, eqGuard, binOp, h1, h2, Op.stringOp, go_sem]
instance {x y : Operand} {t u : TypeId} {a b : ByteArray} [h1 : Ev ρ x (.string a)] [h2 : Ev ρ y (.string b)] : OpM P ρ A (.binOp .lss t x y u) ty (.bool (decide (Op.bytesLess a.data.toList b.data.toList = true))) True := ⟨fun _ => P_lssS h1.out h2.out⟩
end
theorem or_i64 {a b : Int} (k : Nat) (ha : 0 ≤ a ∧ a < 4611686018427387904) (hb : 0 ≤ b ∧ b < 2 ^ k) (hd : a % 2 ^ k = 0) (hk : k ≤ 62) : Go.bits .or .i64 a b = a + b := by
  obtain ⟨m, rfl⟩ := Int.eq_ofNat_of_zero_le ha.1
  obtain ⟨n, rfl⟩ := Int.eq_ofNat_of_zero_le hb.1
  have hn : n < 2 ^ k := by exact_mod_cast hb.2
  have hm : m % 2 ^ k = 0 := by exact_mod_cast hd
  have hp : (2 : Nat) ^ k ≤ 2 ^ 62 := Nat.pow_le_pow_right (by decide) hk
  have h62 : (2 : Nat) ^ 62 = 4611686018427387904 := by decide
  have hmm : m < 4611686018427387904 := by have := ha.2; omega
  have hor : m ||| n = m + n := by
    have e : m = 2 ^ k * (m / 2 ^ k) := by have := Nat.div_add_mod m (2 ^ k); omega
    rw [e]; exact (Nat.two_pow_add_eq_or_of_lt hn _).symm
  have h1 : (BitVec.ofInt 64 (m : Int)).toNat = m := by
    rw [BitVec.ofInt_natCast, BitVec.toNat_ofNat]; exact Nat.mod_eq_of_lt (by omega)
  have h2 : (BitVec.ofInt 64 (n : Int)).toNat = n := by
    rw [BitVec.ofInt_natCast, BitVec.toNat_ofNat]; exact Nat.mod_eq_of_lt (by omega)
  show IntKind.i64.wrap ((BitVec.ofInt 64 (m : Int) ||| BitVec.ofInt 64 (n : Int)).toNat : Int) = _
  rw [BitVec.toNat_or, h1, h2, hor]
  have := wrap_i64 (a := ((m + n : Nat) : Int)) (by omega)
  rw [this]; omega
end Go.Fw
namespace Go.Proofs.YtamnobjdgjbmbaaGreat
open Go Go.Fw Go.RowKit
set_option linter.unusedVariables false
set_option linter.unusedSimpArgs false
set_option maxRecDepth 100000
set_option maxHeartbeats 16000000
set_option synthInstance.maxHeartbeats 200000
set_option synthInstance.maxSize 100000
attribute [local irreducible] WPA WLA WDA WDQ WDE QQ seqQ blockQ loopQ fnQ OpP OpT Tr TrP SL SLd OwnS LitS Bk BkE Ob
section
abbrev In24 (v : Int) : Prop := 0 ≤ v ∧ v ≤ 16777215
end
section
def b3 (v : Int) : List UInt8 := [UInt8.ofNat (v / 65536).toNat, UInt8.ofNat (v / 256 % 256).toNat, UInt8.ofNat (v % 256).toNat]
end
section
def keyS (xs : List Int) : ByteArray := ⟨(xs.flatMap b3).toArray⟩
end
section
def keyK (xs : List Int) : List (KInt .u8) := xs.flatMap fun v => [toK .u8 (v / 65536), toK .u8 (v / 256 % 256), toK .u8 (v % 256)]
end
section
theorem keyK_bytes : ∀ {xs : List Int}, (∀ v ∈ xs, In24 v) → keyK xs = bytesK (keyS xs)
  | [], _ => rfl
  | v :: xs, h => by
    have ih := keyK_bytes (xs := xs) fun u hu => h u (List.mem_cons_of_mem _ hu)
    have hv := h v (List.mem_cons_self ..)
    have k : ∀ z : Int, 0 ≤ z → z < 256 → kb (UInt8.ofNat z.toNat) = toK .u8 z := fun z h1 h2 => by
      unfold kb toK
      rw [UInt8.toNat_ofNat']
      show ((z.toNat % 256 : Nat) : Int) = z
      omega
    have e : bytesK (keyS (v :: xs)) = (b3 v).map kb ++ bytesK (keyS xs) := by simp [bytesK, keyS]
    rw [e, ← ih]
    unfold b3
    simp only [List.map_cons, List.map_nil]
    rw [k _ (by omega) (by omega), k _ (by omega) (by omega), k _ (by omega) (by omega)]
    rfl
end
section
theorem keyS_snoc (xs : List Int) (v : Int) : keyS (xs ++ [v]) = keyS xs ++ keyS [v] := by
  apply ByteArray.ext
  rw [ByteArray.data_append]
  simp [keyS]
end
section
theorem keyS_size (xs : List Int) : (keyS xs).size = 3 * xs.length := by
  show (xs.flatMap b3).toArray.size = _
  rw [List.size_toArray]
  induction xs with
  | nil => rfl
  | cons v xs ih => rw [List.flatMap_cons, List.length_append, ih]; simp [b3]; omega
end
section
theorem keyK_len (xs : List Int) : (keyK xs).length = 3 * xs.length := by
  induction xs with
  | nil => rfl
  | cons v xs ih =>
    have : keyK (v :: xs) = [toK .u8 (v / 65536), toK .u8 (v / 256 % 256), toK .u8 (v % 256)] ++ keyK xs := rfl
    rw [this, List.length_append, ih]; simp; omega
end
section
theorem keyK_snoc (xs : List Int) (v : Int) : keyK (xs ++ [v]) = keyK xs ++ [toK .u8 (v / 65536), toK .u8 (v / 256 % 256), toK .u8 (v % 256)] := by simp [keyK]
end
section
def okKey (xs : List Int) : Prop := ∀ v ∈ xs, In24 v
end
section
instance (xs : List Int) : Decidable (okKey xs) := inferInstanceAs (Decidable (∀ v ∈ xs, _))
end
section
variable {L : List HP} {w0 : World} {I : Foot}
theorem gKey_tr {a : SV} {xs : List Int} {k : ByteArray} {e : Int} [ha : RdS I L a Int inferInstance xs] (hn : xs.length ≤ 1000000) (h : (okKey xs ∧ k = keyS xs ∧ e = 0) ∨ (¬ okKey xs ∧ k = ⟨#[]⟩ ∧ e = 8)) :
    Tr Tryz.prog 84 #[.slice a.a a.n a.cap] (SL w0 I L) (fun _ : Unit => .tuple #[.string k, .int .i64 e]) (fun _ => SL w0 I L) := by
  refine Tr.intro Tryz.func84 rfl Tryz.ntmps84 rfl ?_
  repeat' (first | ((first | refine WLA.m rfl rfl ?_ ?_ | refine WLA.st rfl ?_ ?_ | refine WLA.x rfl rfl ?_ (fun x => ?_) | refine WLA.x0 rfl ?_ (fun x => ?_)); first | exact trivial | exact rfl | assumption | omega | (refine ⟨?_, ?_⟩ <;> omega) | (simp only [Room, lenS]; omega) | decide | skip) | (refine Stp.go ?_) | (refine WPA.ifT ?_) | (refine WPA.ifF ?_) | ((first | refine WPA.dec ?_); first | refine .inl ⟨by first | assumption | omega | with_reducible rfl | (refine fun h => h ?_; first | assumption | with_reducible rfl) | (simp only [lenS] <;> omega) | decide, ?_⟩ | refine .inr ⟨by first | assumption | omega | with_reducible rfl | (refine fun h => h ?_; first | assumption | with_reducible rfl) | (simp only [lenS] <;> omega) | decide, ?_⟩) | ((first | refine WPA.ifBt ?_ ?_ | refine WPA.ifBnf ?_ ?_); assumption) | ((first | refine WPA.ifBnt ?_ ?_ | refine WPA.ifBf ?_ ?_); assumption) | ((first | refine WPA.ifs ?_ ?_ | refine WPA.ifB ?_ ?_) <;> intro hc))
  revert x; intro x
  refine WPA.loopS (σ := Nat × SV) (fun y => [(4, .slice y.2.a y.2.n y.2.cap), (11, .slice a.a a.n a.cap), (12, .int .i64 xs.length), (13, .int .i64 y.1)]) (fun y => y.1 ≤ xs.length ∧ okKey (xs.take y.1))
    (fun y => SL w0 I (OwnS 5 y.2 (keyK (xs.take y.1)) :: L)) (fun y => xs.length - y.1) (0, x) ⟨rfl, rfl, rfl, rfl, trivial⟩ ⟨Nat.zero_le _, by intro v hv; simp at hv⟩ (fun w h => h) ?_
  rintro ⟨i, r⟩ ρ ⟨hi, hk⟩
  dsimp only at hi hk ⊢
  by_cases hlt : i < xs.length
  · have hlt' : (i : Int) < xs.length := by omega
    have ei := at_nat xs i hlt
    have hm : at_ xs (i : Int) ∈ xs := by rw [ei]; exact List.getElem_mem _
    have et : xs.take (i + 1) = xs.take i ++ [at_ xs (i : Int)] := by rw [List.take_add_one, List.getElem?_eq_getElem hlt, ei]; rfl
    have hkl : (keyK (xs.take i)).length ≤ 3000000 := by rw [keyK_len, List.length_take]; omega
    by_cases h0 : at_ xs (i : Int) < 0
    · rcases h with ⟨h1, -, -⟩ | ⟨-, rfl, rfl⟩
      · exact absurd (h1 _ hm) (by omega)
      · skip
        repeat' (first | ((first | refine WLA.m rfl rfl ?_ ?_ | refine WLA.st rfl ?_ ?_ | refine WLA.x rfl rfl ?_ (fun x => ?_) | refine WLA.x0 rfl ?_ (fun x => ?_)); first | exact trivial | exact rfl | assumption | omega | (refine ⟨?_, ?_⟩ <;> omega) | (simp only [Room, lenS]; omega) | decide | skip) | (refine Stp.go ?_) | (refine WPA.ifT ?_) | (refine WPA.ifF ?_) | (refine WLA.no rfl rfl ?_) | ((first | refine WPA.dec ?_ | ((fail_if_success (guard_target =~ WLA _ _ _ _ _ _ (put1 _ _ (.bool true)) _)); (fail_if_success (guard_target =~ WLA _ _ _ _ _ _ (put1 _ _ (.bool false)) _)); refine WLA.dec rfl rfl ?_) | refine WLA.pk ?_); first | refine .inl ⟨by first | assumption | omega | with_reducible rfl | (refine fun h => h ?_; first | assumption | with_reducible rfl) | (simp only [lenS] <;> omega) | decide, ?_⟩ | refine .inr ⟨by first | assumption | omega | with_reducible rfl | (refine fun h => h ?_; first | assumption | with_reducible rfl) | (simp only [lenS] <;> omega) | decide, ?_⟩) | ((first | refine WPA.ifBt ?_ ?_ | refine WPA.ifBnf ?_ ?_); assumption) | ((first | refine WPA.ifBnt ?_ ?_ | refine WPA.ifBf ?_ ?_); assumption) | ((first | refine WPA.ifs ?_ ?_ | refine WPA.ifB ?_ ?_) <;> intro hc) | ((fail_if_success (guard_target =~ WLA _ _ _ _ _ _ (put1 _ _ (.bool true)) _)); (fail_if_success (guard_target =~ WLA _ _ _ _ _ _ (put1 _ _ (.bool false)) _)); (first | refine WLA.both rfl rfl ?_ ?_ | refine WLA.bothB rfl rfl ?_ ?_) <;> intro hg))
        exact QQ.end_ rfl () rfl fun w h => h.to
    by_cases h1 : 16777216 ≤ at_ xs (i : Int)
    · rcases h with ⟨h2, -, -⟩ | ⟨-, rfl, rfl⟩
      · exact absurd (h2 _ hm) (by omega)
      · skip
        repeat' (first | ((first | refine WLA.m rfl rfl ?_ ?_ | refine WLA.st rfl ?_ ?_ | refine WLA.x rfl rfl ?_ (fun x => ?_) | refine WLA.x0 rfl ?_ (fun x => ?_)); first | exact trivial | exact rfl | assumption | omega | (refine ⟨?_, ?_⟩ <;> omega) | (simp only [Room, lenS]; omega) | decide | skip) | (refine Stp.go ?_) | (refine WPA.ifT ?_) | (refine WPA.ifF ?_) | (refine WLA.no rfl rfl ?_) | ((first | refine WPA.dec ?_ | ((fail_if_success (guard_target =~ WLA _ _ _ _ _ _ (put1 _ _ (.bool true)) _)); (fail_if_success (guard_target =~ WLA _ _ _ _ _ _ (put1 _ _ (.bool false)) _)); refine WLA.dec rfl rfl ?_) | refine WLA.pk ?_); first | refine .inl ⟨by first | assumption | omega | with_reducible rfl | (refine fun h => h ?_; first | assumption | with_reducible rfl) | (simp only [lenS] <;> omega) | decide, ?_⟩ | refine .inr ⟨by first | assumption | omega | with_reducible rfl | (refine fun h => h ?_; first | assumption | with_reducible rfl) | (simp only [lenS] <;> omega) | decide, ?_⟩) | ((first | refine WPA.ifBt ?_ ?_ | refine WPA.ifBnf ?_ ?_); assumption) | ((first | refine WPA.ifBnt ?_ ?_ | refine WPA.ifBf ?_ ?_); assumption) | ((first | refine WPA.ifs ?_ ?_ | refine WPA.ifB ?_ ?_) <;> intro hc) | ((fail_if_success (guard_target =~ WLA _ _ _ _ _ _ (put1 _ _ (.bool true)) _)); (fail_if_success (guard_target =~ WLA _ _ _ _ _ _ (put1 _ _ (.bool false)) _)); (first | refine WLA.both rfl rfl ?_ ?_ | refine WLA.bothB rfl rfl ?_ ?_) <;> intro hg))
        exact QQ.end_ rfl () rfl fun w h => h.to
    · have e3 : keyK (xs.take (i + 1)) = keyK (xs.take i) ++ [toK .u8 (IntKind.u8.wrap ((at_ xs (i : Int)).fdiv (2 ^ (16 : Int).toNat))), toK .u8 (IntKind.u8.wrap ((at_ xs (i : Int)).fdiv (2 ^ (8 : Int).toNat))), toK .u8 (IntKind.u8.wrap (at_ xs (i : Int)))] := by
        rw [et, keyK_snoc]
        congr 1
        generalize at_ xs (i : Int) = v at h0 h1
        have p1 : v.fdiv (2 ^ (16 : Int).toNat) = v / 65536 := by rw [Int.fdiv_eq_ediv_of_nonneg _ (by decide)]; rfl
        have p2 : v.fdiv (2 ^ (8 : Int).toNat) = v / 256 := by rw [Int.fdiv_eq_ediv_of_nonneg _ (by decide)]; rfl
        rw [p1, p2, IntKind.wrap_u8, IntKind.wrap_u8, IntKind.wrap_u8, show v / 65536 % 256 = v / 65536 by omega]
      have hok : okKey (xs.take (i + 1)) := by
        rw [et]; intro v hv
        rcases List.mem_append.1 hv with hv | hv
        · exact hk v hv
        · rw [List.mem_singleton.1 hv]; exact ⟨by omega, by omega⟩
      repeat' (first | (guard_target =~ WLA _ _ _ _ _ (⟨_, .convert _ _ _, _, _, _, _⟩ :: _) _ _; refine WLA.m (h := convW) rfl rfl trivial ?_) | (guard_target =~ WDQ _ _ _ _ _ _ _ ⟨_, .convert _ _ _, _, _, _, _⟩ _ _ _; refine WDQ.m (h := convW) rfl rfl trivial ?_) | (guard_target =~ WDP _ _ _ _ _ _ _ ⟨_, .convert _ _ _, _, _, _, _⟩ _ _ _; refine WDP.m (h := convW) rfl rfl trivial ?_) | ((first | refine WLA.m rfl rfl ?_ ?_ | refine WLA.st rfl ?_ ?_ | refine WLA.x rfl rfl ?_ (fun x => ?_) | refine WLA.x0 rfl ?_ (fun x => ?_)); first | exact trivial | exact rfl | assumption | omega | (refine ⟨?_, ?_⟩ <;> omega) | (simp only [Room, lenS]; omega) | decide | skip) | (refine Stp.go ?_) | (refine WPA.ifT ?_) | (refine WPA.ifF ?_) | (refine WLA.no rfl rfl ?_) | ((first | refine WPA.dec ?_ | ((fail_if_success (guard_target =~ WLA _ _ _ _ _ _ (put1 _ _ (.bool true)) _)); (fail_if_success (guard_target =~ WLA _ _ _ _ _ _ (put1 _ _ (.bool false)) _)); refine WLA.dec rfl rfl ?_) | refine WLA.pk ?_); first | refine .inl ⟨by first | assumption | omega | with_reducible rfl | (refine fun h => h ?_; first | assumption | with_reducible rfl) | (simp only [lenS] <;> omega) | decide, ?_⟩ | refine .inr ⟨by first | assumption | omega | with_reducible rfl | (refine fun h => h ?_; first | assumption | with_reducible rfl) | (simp only [lenS] <;> omega) | decide, ?_⟩) | ((first | refine WPA.ifBt ?_ ?_ | refine WPA.ifBnf ?_ ?_); assumption) | ((first | refine WPA.ifBnt ?_ ?_ | refine WPA.ifBf ?_ ?_); assumption) | ((first | refine WPA.ifs ?_ ?_ | refine WPA.ifB ?_ ?_) <;> intro hc) | ((fail_if_success (guard_target =~ WLA _ _ _ _ _ _ (put1 _ _ (.bool true)) _)); (fail_if_success (guard_target =~ WLA _ _ _ _ _ _ (put1 _ _ (.bool false)) _)); (first | refine WLA.both rfl rfl ?_ ?_ | refine WLA.bothB rfl rfl ?_ ?_) <;> intro hg))
      refine QQ.loopS (i + 1, x) ⟨rfl, rfl, rfl, rfl, trivial⟩ ⟨hlt, hok⟩ (by dsimp only; omega) (fun w h => ?_)
      dsimp only
      rw [e3]
      exact h.to
  · have hlt' : ¬ (i : Int) < xs.length := by omega
    rw [List.take_of_length_le (by omega)] at hk ⊢
    rcases h with ⟨h1, rfl, rfl⟩ | ⟨h1, -, -⟩
    · haveI : IsBytes (keyK xs) (keyS xs) := ⟨keyK_bytes hk⟩
      repeat' (first | ((first | refine WLA.m rfl rfl ?_ ?_ | refine WLA.st rfl ?_ ?_ | refine WLA.x rfl rfl ?_ (fun x => ?_) | refine WLA.x0 rfl ?_ (fun x => ?_)); first | exact trivial | exact rfl | assumption | omega | (refine ⟨?_, ?_⟩ <;> omega) | (simp only [Room, lenS]; omega) | decide | skip) | (refine Stp.go ?_) | (refine WPA.ifT ?_) | (refine WPA.ifF ?_) | ((first | refine WPA.dec ?_); first | refine .inl ⟨by first | assumption | omega | with_reducible rfl | (refine fun h => h ?_; first | assumption | with_reducible rfl) | (simp only [lenS] <;> omega) | decide, ?_⟩ | refine .inr ⟨by first | assumption | omega | with_reducible rfl | (refine fun h => h ?_; first | assumption | with_reducible rfl) | (simp only [lenS] <;> omega) | decide, ?_⟩) | ((first | refine WPA.ifBt ?_ ?_ | refine WPA.ifBnf ?_ ?_); assumption) | ((first | refine WPA.ifBnt ?_ ?_ | refine WPA.ifBf ?_ ?_); assumption) | ((first | refine WPA.ifs ?_ ?_ | refine WPA.ifB ?_ ?_) <;> intro hc))
      exact QQ.end_ rfl () rfl fun w h => h.to
    · exact absurd hk h1
end
section
variable {L : List HP} {w0 : World} {I : Foot}
theorem rKey_tr {a : SV} {xs : List Int} {k : ByteArray} {e : Bool} [ha : RdS I L a Int inferInstance xs] (hn : xs.length ≤ 1000000) (h : (okKey xs ∧ k = keyS xs ∧ e = true) ∨ (¬ okKey xs ∧ k = ⟨#[]⟩ ∧ e = false)) :
    Tr Tryz.prog 38 #[.slice a.a a.n a.cap] (SL w0 I L) (fun _ : Unit => .tuple #[.string k, .bool e]) (fun _ => SL w0 I L) := by
  refine Tr.intro Tryz.func38 rfl Tryz.ntmps38 rfl ?_
  repeat' (first | ((first | refine WLA.m rfl rfl ?_ ?_ | refine WLA.st rfl ?_ ?_ | refine WLA.x rfl rfl ?_ (fun x => ?_) | refine WLA.x0 rfl ?_ (fun x => ?_)); first | exact trivial | exact rfl | assumption | omega | (refine ⟨?_, ?_⟩ <;> omega) | (simp only [Room, lenS]; omega) | decide | skip) | (refine Stp.go ?_) | (refine WPA.ifT ?_) | (refine WPA.ifF ?_) | ((first | refine WPA.dec ?_); first | refine .inl ⟨by first | assumption | omega | with_reducible rfl | (refine fun h => h ?_; first | assumption | with_reducible rfl) | (simp only [lenS] <;> omega) | decide, ?_⟩ | refine .inr ⟨by first | assumption | omega | with_reducible rfl | (refine fun h => h ?_; first | assumption | with_reducible rfl) | (simp only [lenS] <;> omega) | decide, ?_⟩) | ((first | refine WPA.ifBt ?_ ?_ | refine WPA.ifBnf ?_ ?_); assumption) | ((first | refine WPA.ifBnt ?_ ?_ | refine WPA.ifBf ?_ ?_); assumption) | ((first | refine WPA.ifs ?_ ?_ | refine WPA.ifB ?_ ?_) <;> intro hc))
  refine WPA.loopS (σ := Nat) (fun i => [(0, .slice a.a a.n a.cap), (4, .string (keyS (xs.take i))), (5, .int .i64 i)]) (fun i => i ≤ xs.length ∧ okKey (xs.take i))
    (fun i => SL w0 I L) (fun i => xs.length - i) 0 ⟨rfl, rfl, rfl, trivial⟩ ⟨Nat.zero_le _, by intro v hv; simp at hv⟩ (fun w h => h.to) ?_
  rintro i ρ ⟨hi, hk⟩
  by_cases hlt : i < xs.length
  · have hlt' : (i : Int) < xs.length := by omega
    have ei := at_nat xs i hlt
    have hm : at_ xs (i : Int) ∈ xs := by rw [ei]; exact List.getElem_mem _
    have et : xs.take (i + 1) = xs.take i ++ [at_ xs (i : Int)] := by rw [List.take_add_one, List.getElem?_eq_getElem hlt, ei]; rfl
    have hsz : (keyS (xs.take i)).size + (keyS [at_ xs (i : Int)]).size ≤ 9223372036854775807 := by rw [keyS_size, keyS_size, List.length_take]; simp; omega
    by_cases h0 : at_ xs (i : Int) < 0
    · rcases h with ⟨h1, -, -⟩ | ⟨-, rfl, rfl⟩
      · exact absurd (h1 _ hm) (by omega)
      · skip
        repeat' (first | ((first | refine WLA.m rfl rfl ?_ ?_ | refine WLA.st rfl ?_ ?_ | refine WLA.x rfl rfl ?_ (fun x => ?_) | refine WLA.x0 rfl ?_ (fun x => ?_)); first | exact trivial | exact rfl | assumption | omega | (refine ⟨?_, ?_⟩ <;> omega) | (simp only [Room, lenS]; omega) | decide | skip) | (refine Stp.go ?_) | (refine WPA.ifT ?_) | (refine WPA.ifF ?_) | (refine WLA.no rfl rfl ?_) | ((first | refine WPA.dec ?_ | ((fail_if_success (guard_target =~ WLA _ _ _ _ _ _ (put1 _ _ (.bool true)) _)); (fail_if_success (guard_target =~ WLA _ _ _ _ _ _ (put1 _ _ (.bool false)) _)); refine WLA.dec rfl rfl ?_) | refine WLA.pk ?_); first | refine .inl ⟨by first | assumption | omega | with_reducible rfl | (refine fun h => h ?_; first | assumption | with_reducible rfl) | (simp only [lenS] <;> omega) | decide, ?_⟩ | refine .inr ⟨by first | assumption | omega | with_reducible rfl | (refine fun h => h ?_; first | assumption | with_reducible rfl) | (simp only [lenS] <;> omega) | decide, ?_⟩) | ((first | refine WPA.ifBt ?_ ?_ | refine WPA.ifBnf ?_ ?_); assumption) | ((first | refine WPA.ifBnt ?_ ?_ | refine WPA.ifBf ?_ ?_); assumption) | ((first | refine WPA.ifs ?_ ?_ | refine WPA.ifB ?_ ?_) <;> intro hc) | ((fail_if_success (guard_target =~ WLA _ _ _ _ _ _ (put1 _ _ (.bool true)) _)); (fail_if_success (guard_target =~ WLA _ _ _ _ _ _ (put1 _ _ (.bool false)) _)); (first | refine WLA.both rfl rfl ?_ ?_ | refine WLA.bothB rfl rfl ?_ ?_) <;> intro hg))
        exact QQ.end_ rfl () rfl fun w h => h.to
    by_cases h1 : 16777215 < at_ xs (i : Int)
    · rcases h with ⟨h2, -, -⟩ | ⟨-, rfl, rfl⟩
      · exact absurd (h2 _ hm) (by omega)
      · skip
        repeat' (first | ((first | refine WLA.m rfl rfl ?_ ?_ | refine WLA.st rfl ?_ ?_ | refine WLA.x rfl rfl ?_ (fun x => ?_) | refine WLA.x0 rfl ?_ (fun x => ?_)); first | exact trivial | exact rfl | assumption | omega | (refine ⟨?_, ?_⟩ <;> omega) | (simp only [Room, lenS]; omega) | decide | skip) | (refine Stp.go ?_) | (refine WPA.ifT ?_) | (refine WPA.ifF ?_) | (refine WLA.no rfl rfl ?_) | ((first | refine WPA.dec ?_ | ((fail_if_success (guard_target =~ WLA _ _ _ _ _ _ (put1 _ _ (.bool true)) _)); (fail_if_success (guard_target =~ WLA _ _ _ _ _ _ (put1 _ _ (.bool false)) _)); refine WLA.dec rfl rfl ?_) | refine WLA.pk ?_); first | refine .inl ⟨by first | assumption | omega | with_reducible rfl | (refine fun h => h ?_; first | assumption | with_reducible rfl) | (simp only [lenS] <;> omega) | decide, ?_⟩ | refine .inr ⟨by first | assumption | omega | with_reducible rfl | (refine fun h => h ?_; first | assumption | with_reducible rfl) | (simp only [lenS] <;> omega) | decide, ?_⟩) | ((first | refine WPA.ifBt ?_ ?_ | refine WPA.ifBnf ?_ ?_); assumption) | ((first | refine WPA.ifBnt ?_ ?_ | refine WPA.ifBf ?_ ?_); assumption) | ((first | refine WPA.ifs ?_ ?_ | refine WPA.ifB ?_ ?_) <;> intro hc) | ((fail_if_success (guard_target =~ WLA _ _ _ _ _ _ (put1 _ _ (.bool true)) _)); (fail_if_success (guard_target =~ WLA _ _ _ _ _ _ (put1 _ _ (.bool false)) _)); (first | refine WLA.both rfl rfl ?_ ?_ | refine WLA.bothB rfl rfl ?_ ?_) <;> intro hg))
        exact QQ.end_ rfl () rfl fun w h => h.to
    · have hv0 : 0 ≤ at_ xs (i : Int) := by omega
      have hb : ∀ u ∈ [at_ xs (i : Int)], In24 u := fun u hu => by rw [List.mem_singleton.1 hu]; exact ⟨by omega, by omega⟩
      have hok : okKey (xs.take (i + 1)) := by
        rw [et]; intro v hv
        rcases List.mem_append.1 hv with hv | hv
        · exact hk v hv
        · exact hb v hv
      haveI : IsBytes [toK .u8 (at_ xs (i : Int) / 65536), toK .u8 (at_ xs (i : Int) / 256 % 256), toK .u8 (at_ xs (i : Int) % 256)] (keyS [at_ xs (i : Int)]) := ⟨keyK_bytes hb⟩
      repeat' (first | ((first | refine WLA.m rfl rfl ?_ ?_ | refine WDQ.m rfl rfl ?_ ?_ | refine WLA.st rfl ?_ ?_ | refine WLA.x rfl rfl ?_ (fun x => ?_) | refine WLA.x0 rfl ?_ (fun x => ?_)); first | exact trivial | exact rfl | assumption | omega | (refine ⟨?_, ?_⟩ <;> omega) | (simp only [Room, lenS]; omega) | decide | skip) | (refine Stp.go ?_) | (refine WPA.ifT ?_) | (refine WPA.ifF ?_) | (refine WLA.no rfl rfl ?_) | ((first | refine WPA.dec ?_ | ((fail_if_success (guard_target =~ WLA _ _ _ _ _ _ (put1 _ _ (.bool true)) _)); (fail_if_success (guard_target =~ WLA _ _ _ _ _ _ (put1 _ _ (.bool false)) _)); refine WLA.dec rfl rfl ?_) | refine WLA.pk ?_); first | refine .inl ⟨by first | assumption | omega | with_reducible rfl | (refine fun h => h ?_; first | assumption | with_reducible rfl) | (simp only [lenS] <;> omega) | decide, ?_⟩ | refine .inr ⟨by first | assumption | omega | with_reducible rfl | (refine fun h => h ?_; first | assumption | with_reducible rfl) | (simp only [lenS] <;> omega) | decide, ?_⟩) | ((first | refine WPA.ifBt ?_ ?_ | refine WPA.ifBnf ?_ ?_); assumption) | ((first | refine WPA.ifBnt ?_ ?_ | refine WPA.ifBf ?_ ?_); assumption) | ((first | refine WPA.ifs ?_ ?_ | refine WPA.ifB ?_ ?_) <;> intro hc) | ((fail_if_success (guard_target =~ WLA _ _ _ _ _ _ (put1 _ _ (.bool true)) _)); (fail_if_success (guard_target =~ WLA _ _ _ _ _ _ (put1 _ _ (.bool false)) _)); (first | refine WLA.both rfl rfl ?_ ?_ | refine WLA.bothB rfl rfl ?_ ?_) <;> intro hg) | (guard_target =~ WPA _ _ _ (.region 7 _ true) _ _ _; refine WPA.drawT 22 (.q 0 (.q 1 (.q 2 (.q 3 (.q 4 (.q 5 (.q 6 (.q 7 (.q 8 (.q 9 (.q 10 (.q 11 (.q 12 (.q 13 (.q 14 (.q 15 (.q 16 (.q 17 (.q 18 (.q 19 (.e 20 (.q 21 .fin)))))))))))))))))))))) mixed ?_ ?_; kernel_rfl) | (refine WDA.finish (tl := [⟨_, _, _, _, _, _⟩, ⟨_, _, _, _, _, _⟩]) rfl ?_) | (refine WDQ.see rfl ?_) | (refine WDE.see rfl ?_) | (refine WDE.alloc rfl rfl (fun w h => h) (fun x => ?_)) | (refine WDE.stE rfl ?_) | (refine WDE.x rfl rfl ?_ ?_ (fun x => ?_); rotate_left 1; (intro x w h; first | exact h | exact Ent.drop1.sl h | exact SL.unI h | exact SL.to h); rotate_left 1; first | exact trivial | exact rfl | assumption | omega | (refine ⟨?_, ?_⟩ <;> omega) | (simp only [Room, lenS]; omega) | decide | skip))
      refine QQ.loopS (i + 1) ⟨rfl, ?_, rfl, trivial⟩ ⟨hlt, hok⟩ (by omega) (fun w h => h.to)
      show Value.string _ = Value.string _
      rw [et, keyS_snoc]
  · have hlt' : ¬ (i : Int) < xs.length := by omega
    rw [List.take_of_length_le (by omega)] at hk ⊢
    rcases h with ⟨h1, rfl, rfl⟩ | ⟨h1, -, -⟩
    · skip
      repeat' (first | ((first | refine WLA.m rfl rfl ?_ ?_ | refine WLA.st rfl ?_ ?_ | refine WLA.x rfl rfl ?_ (fun x => ?_) | refine WLA.x0 rfl ?_ (fun x => ?_)); first | exact trivial | exact rfl | assumption | omega | (refine ⟨?_, ?_⟩ <;> omega) | (simp only [Room, lenS]; omega) | decide | skip) | (refine Stp.go ?_) | (refine WPA.ifT ?_) | (refine WPA.ifF ?_) | ((first | refine WPA.dec ?_); first | refine .inl ⟨by first | assumption | omega | with_reducible rfl | (refine fun h => h ?_; first | assumption | with_reducible rfl) | (simp only [lenS] <;> omega) | decide, ?_⟩ | refine .inr ⟨by first | assumption | omega | with_reducible rfl | (refine fun h => h ?_; first | assumption | with_reducible rfl) | (simp only [lenS] <;> omega) | decide, ?_⟩) | ((first | refine WPA.ifBt ?_ ?_ | refine WPA.ifBnf ?_ ?_); assumption) | ((first | refine WPA.ifBnt ?_ ?_ | refine WPA.ifBf ?_ ?_); assumption) | ((first | refine WPA.ifs ?_ ?_ | refine WPA.ifB ?_ ?_) <;> intro hc))
      exact QQ.end_ rfl () rfl fun w h => h.to
    · exact absurd hk h1
end
section
variable {L : List HP} {w0 : World} {I : Foot}
def par3 (t : ByteArray) (j : Nat) : Int := bt t ((3 * j : Nat) : Int) * 65536 + bt t (((3 * j : Nat) : Int) + 1) * 256 + bt t (((3 * j : Nat) : Int) + 2)
end
section
variable {L : List HP} {w0 : World} {I : Foot}
def parL (t : ByteArray) : List Int := (List.range (t.size / 3)).map (par3 t)
end
section
variable {L : List HP} {w0 : World} {I : Foot}
theorem gParse_ok {t : ByteArray} (h : t.size % 3 = 0) (hn : t.size ≤ 1000000) :
    Tr Tryz.prog 81 #[.string t] (SL w0 I L) (fun r : SV => .tuple #[.slice r.a r.n r.cap, .int .i64 0]) (fun r => SL w0 I (OwnS 3 r (parL t) :: L)) := by
  refine Tr.intro Tryz.func81 rfl Tryz.ntmps81 rfl ?_
  have h0 : ¬ (t.size : Int) % 3 ≠ 0 := by omega
  repeat' (first | ((first | refine WLA.m rfl rfl ?_ ?_ | refine WLA.st rfl ?_ ?_ | refine WLA.x rfl rfl ?_ (fun x => ?_) | refine WLA.x0 rfl ?_ (fun x => ?_)); first | exact trivial | exact rfl | assumption | omega | (refine ⟨?_, ?_⟩ <;> omega) | (simp only [Room, lenS]; omega) | decide | skip) | (refine Stp.go ?_) | (refine WPA.ifT ?_) | (refine WPA.ifF ?_) | ((first | refine WPA.dec ?_); first | refine .inl ⟨by first | assumption | omega | with_reducible rfl | (refine fun h => h ?_; first | assumption | with_reducible rfl) | (simp only [lenS] <;> omega) | decide, ?_⟩ | refine .inr ⟨by first | assumption | omega | with_reducible rfl | (refine fun h => h ?_; first | assumption | with_reducible rfl) | (simp only [lenS] <;> omega) | decide, ?_⟩) | ((first | refine WPA.ifBt ?_ ?_ | refine WPA.ifBnf ?_ ?_); assumption) | ((first | refine WPA.ifBnt ?_ ?_ | refine WPA.ifBf ?_ ?_); assumption) | ((first | refine WPA.ifs ?_ ?_ | refine WPA.ifB ?_ ?_) <;> intro hc))
  revert x; intro x
  refine WPA.loopS (σ := Nat × SV) (fun y => [(0, .string t), (4, .slice y.2.a y.2.n y.2.cap), (5, .int .i64 ((3 * y.1 : Nat) : Int))]) (fun y => 3 * y.1 ≤ t.size)
    (fun y => SL w0 I (OwnS 3 y.2 ((List.range y.1).map (par3 t)) :: L)) (fun y => t.size - y.1) (0, x) ⟨rfl, rfl, rfl, trivial⟩ (Nat.zero_le _) (fun w h => h) ?_
  rintro ⟨j, r⟩ ρ hj
  dsimp only at hj ⊢
  by_cases hlt : 3 * j < t.size
  · have hlt' : ((3 * j : Nat) : Int) < (t.size : Int) := by omega
    have q0 := bt_range t ((3 * j : Nat) : Int)
    have q1 := bt_range t (((3 * j : Nat) : Int) + 1)
    have q2 := bt_range t (((3 * j : Nat) : Int) + 2)
    have e3 : Go.bits .or .i64 (Go.bits .or .i64 (bt t ((3 * j : Nat) : Int) * 65536) (bt t (((3 * j : Nat) : Int) + 1) * 256)) (bt t (((3 * j : Nat) : Int) + 2)) = par3 t j := by
      have i1 := or_i64 (a := bt t ((3 * j : Nat) : Int) * 65536) (b := bt t (((3 * j : Nat) : Int) + 1) * 256) 16 (by omega) (by omega) (by omega) (by decide)
      rw [i1, or_i64 8 (by omega) (by omega) (by omega) (by decide)]
      rfl
    have hll : ((List.range j).map (par3 t)).length ≤ 1000000 := by rw [List.length_map, List.length_range]; omega
    repeat' (first | ((first | refine WLA.m rfl rfl ?_ ?_ | refine WDQ.m rfl rfl ?_ ?_ | refine WLA.st rfl ?_ ?_ | refine WLA.x rfl rfl ?_ (fun x => ?_) | refine WLA.x0 rfl ?_ (fun x => ?_)); first | exact trivial | exact rfl | assumption | omega | (refine ⟨?_, ?_⟩ <;> omega) | (simp only [Room, lenS]; omega) | decide | skip) | (refine Stp.go ?_) | (refine WPA.ifT ?_) | (refine WPA.ifF ?_) | ((first | refine WPA.dec ?_); first | refine .inl ⟨by first | assumption | omega | with_reducible rfl | (refine fun h => h ?_; first | assumption | with_reducible rfl) | (simp only [lenS] <;> omega) | decide, ?_⟩ | refine .inr ⟨by first | assumption | omega | with_reducible rfl | (refine fun h => h ?_; first | assumption | with_reducible rfl) | (simp only [lenS] <;> omega) | decide, ?_⟩) | ((first | refine WPA.ifBt ?_ ?_ | refine WPA.ifBnf ?_ ?_); assumption) | ((first | refine WPA.ifBnt ?_ ?_ | refine WPA.ifBf ?_ ?_); assumption) | ((first | refine WPA.ifs ?_ ?_ | refine WPA.ifB ?_ ?_) <;> intro hc) | (guard_target =~ WPA _ _ _ (.region 7 _ true) _ _ _; refine WPA.drawT 20 (.q 0 (.q 1 (.q 2 (.q 3 (.q 4 (.q 5 (.q 6 (.q 7 (.q 8 (.q 9 (.q 10 (.q 11 (.q 12 (.q 13 (.q 14 (.q 15 (.q 16 (.q 17 (.q 18 (.e 19 .fin)))))))))))))))))))) mixed ?_ ?_; kernel_rfl) | (refine WDA.finish (tl := [⟨_, _, _, _, _, _⟩, ⟨_, _, _, _, _, _⟩]) rfl ?_) | (refine WDQ.see rfl ?_) | (refine WDE.see rfl ?_) | (refine WDE.alloc rfl rfl (fun w h => h) (fun x => ?_)) | (refine WDE.stE rfl ?_) | (refine WDE.x rfl rfl ?_ ?_ (fun x => ?_); rotate_left 1; (intro x w h; first | exact h | exact Ent.drop1.sl h | exact SL.unI h | exact SL.to h); rotate_left 1; first | exact trivial | exact rfl | assumption | omega | (refine ⟨?_, ?_⟩ <;> omega) | (simp only [Room, lenS]; omega) | decide | skip))
    refine QQ.loopS (j + 1, x) ⟨rfl, rfl, rfl, trivial⟩ (by dsimp only; omega) (by dsimp only; omega) (fun w h => ?_)
    dsimp only
    rw [List.range_succ, List.map_append, List.map_cons, List.map_nil, ← e3]
    exact h.to
  · have hlt' : ¬ ((3 * j : Nat) : Int) < (t.size : Int) := by omega
    have ej : j = t.size / 3 := by omega
    repeat' (first | ((first | refine WLA.m rfl rfl ?_ ?_ | refine WLA.st rfl ?_ ?_ | refine WLA.x rfl rfl ?_ (fun x => ?_) | refine WLA.x0 rfl ?_ (fun x => ?_)); first | exact trivial | exact rfl | assumption | omega | (refine ⟨?_, ?_⟩ <;> omega) | (simp only [Room, lenS]; omega) | decide | skip) | (refine Stp.go ?_) | (refine WPA.ifT ?_) | (refine WPA.ifF ?_) | ((first | refine WPA.dec ?_); first | refine .inl ⟨by first | assumption | omega | with_reducible rfl | (refine fun h => h ?_; first | assumption | with_reducible rfl) | (simp only [lenS] <;> omega) | decide, ?_⟩ | refine .inr ⟨by first | assumption | omega | with_reducible rfl | (refine fun h => h ?_; first | assumption | with_reducible rfl) | (simp only [lenS] <;> omega) | decide, ?_⟩) | ((first | refine WPA.ifBt ?_ ?_ | refine WPA.ifBnf ?_ ?_); assumption) | ((first | refine WPA.ifBnt ?_ ?_ | refine WPA.ifBf ?_ ?_); assumption) | ((first | refine WPA.ifs ?_ ?_ | refine WPA.ifB ?_ ?_) <;> intro hc))
    refine QQ.end_ rfl r rfl fun w h => ?_
    unfold parL
    rw [← ej]
    exact h.to
end
section
theorem u8n {p : Int} (h : 0 ≤ p ∧ p < 256) : (UInt8.ofNat p.toNat).toNat = p.toNat := by rw [UInt8.toNat_ofNat']; exact Nat.mod_eq_of_lt (by omega)
end
section
theorem u8eq {p q : Int} (h : 0 ≤ p ∧ p < 256) (k : 0 ≤ q ∧ q < 256) : (UInt8.ofNat p.toNat = UInt8.ofNat q.toNat) ↔ p = q := by
  rw [← UInt8.toNat_inj, u8n h, u8n k]; omega
end
section
theorem keyS_inj : ∀ {a b : List Int}, okKey a → okKey b → a.flatMap b3 = b.flatMap b3 → a = b
  | [], [], _, _, _ => rfl
  | [], _ :: _, _, _, h => by simp [b3] at h
  | _ :: _, [], _, _, h => by simp [b3] at h
  | x :: a, y :: b, ha, hb, h => by
    have hx := ha x (List.mem_cons_self ..)
    have hy := hb y (List.mem_cons_self ..)
    have e : ∀ (v : Int) (l : List Int), (v :: l).flatMap b3 = UInt8.ofNat (v / 65536).toNat :: UInt8.ofNat (v / 256 % 256).toNat :: UInt8.ofNat (v % 256).toNat :: l.flatMap b3 := fun v l => rfl
    rw [e, e] at h
    simp only [List.cons.injEq] at h
    obtain ⟨h1, h2, h3, h4⟩ := h
    rw [u8eq (by omega) (by omega)] at h1 h2 h3
    rw [keyS_inj (fun v hv => ha v (List.mem_cons_of_mem _ hv)) (fun v hv => hb v (List.mem_cons_of_mem _ hv)) h4, show x = y by omega]
end
section
theorem bt_get {t : ByteArray} {i : Nat} (h : i < t.data.toList.length) : bt t (i : Int) = ((t.data.toList[i]).toNat : Int) := by
  have h2 : (i : Int).toNat < t.size := by rw [Int.toNat_natCast]; simpa using h
  unfold bt
  rw [dif_pos h2]
  simp only [Int.toNat_natCast]
  rfl
end
section
theorem par3_range (t : ByteArray) (j : Nat) : In24 (par3 t j) := by
  have q0 := bt_range t ((3 * j : Nat) : Int)
  have q1 := bt_range t (((3 * j : Nat) : Int) + 1)
  have q2 := bt_range t (((3 * j : Nat) : Int) + 2)
  unfold par3
  exact ⟨by omega, by omega⟩
end
section
theorem parL_ok (t : ByteArray) : okKey (parL t) := by
  intro v hv
  obtain ⟨j, -, rfl⟩ := List.mem_map.1 hv
  exact par3_range t j
end
section
theorem b3_par {t : ByteArray} {j : Nat} (h : 3 * j + 2 < t.data.toList.length) : b3 (par3 t j) = [t.data.toList[3 * j], t.data.toList[3 * j + 1], t.data.toList[3 * j + 2]] := by
  have e0 := bt_get (t := t) (i := 3 * j) (by omega)
  have e1 := bt_get (t := t) (i := 3 * j + 1) (by omega)
  have e2 := bt_get (t := t) (i := 3 * j + 2) h
  have e1' : ((3 * j + 1 : Nat) : Int) = ((3 * j : Nat) : Int) + 1 := by omega
  have e2' : ((3 * j + 2 : Nat) : Int) = ((3 * j : Nat) : Int) + 2 := by omega
  rw [e1'] at e1
  rw [e2'] at e2
  have l0 := (t.data.toList[3 * j]).toNat_lt
  have l1 := (t.data.toList[3 * j + 1]).toNat_lt
  have l2 := (t.data.toList[3 * j + 2]).toNat_lt
  have k : ∀ (u : UInt8) (z : Int), z = (u.toNat : Int) → UInt8.ofNat z.toNat = u := fun u z hz => by
    subst hz; rw [Int.toNat_natCast]; exact UInt8.ofNat_toNat
  unfold b3 par3
  rw [e0, e1, e2]
  congr 1
  · exact k _ _ (by omega)
  congr 1
  · exact k _ _ (by omega)
  congr 1
  exact k _ _ (by omega)
end
section
theorem keyS_par {t : ByteArray} (h : t.size % 3 = 0) : keyS (parL t) = t := by
  have hl : t.data.toList.length = t.size := Array.length_toList
  have key : ∀ n : Nat, 3 * n ≤ t.size → ((List.range n).map (par3 t)).flatMap b3 = t.data.toList.take (3 * n) := by
    intro n
    induction n with
    | zero => intro _; simp
    | succ n ih =>
      intro hn
      rw [List.range_succ, List.map_append, List.flatMap_append, ih (by omega), List.map_cons, List.map_nil, List.flatMap_cons, List.flatMap_nil, List.append_nil, b3_par (by omega)]
      rw [show 3 * (n + 1) = 3 * n + 1 + 1 + 1 by omega, List.take_add_one, List.take_add_one, List.take_add_one, List.getElem?_eq_getElem (by omega), List.getElem?_eq_getElem (by omega), List.getElem?_eq_getElem (by omega)]
      simp
  apply ByteArray.ext
  apply Array.toList_inj.1
  show (parL t).flatMap b3 = _
  unfold parL
  rw [key _ (by omega), List.take_of_length_le (by omega)]
end
section
theorem parL_key {xs : List Int} (h : okKey xs) : parL (keyS xs) = xs := by
  have h1 := keyS_par (t := keyS xs) (by rw [keyS_size]; omega)
  refine keyS_inj (parL_ok _) h ?_
  have := congrArg (fun t : ByteArray => t.data.toList) h1
  simpa [keyS] using this
end
end Go.Proofs.YtamnobjdgjbmbaaGreat
namespace Go.Fw
open Go Go.RowKit Go.Lib
set_option linter.unusedVariables false
set_option linter.unusedSimpArgs false
section
variable {P : Program} {ρ : Env} {ty : TypeId} {w0 : World} {H : HeapP} {L : List (Nat × Obj)}
theorem T_appStr {s x : Operand} {t u e : TypeId} {z : Value} {bytes : Nat} (ht : P.underlying t = some (.slice e)) (hu : P.underlying u = some .string) (hi : (P.info? e).map (fun i => (i.zero, i.size, i.bytes)) = some (some z, 1, bytes)) (hzs : z.cells.size = 1)
    {v : Value} {n : Nat} {xs : List Value} {R : List (Nat × Obj)} (hs : evalE ρ s = v) (hown : OwnR e 1 v n xs R) {b : ByteArray} (hx : evalE ρ x = .string b) (h63 : n + b.size ≤ maxLen) (hbytes : (n + b.size) * bytes ≤ 140737488355328) :
    OpT P ρ (.call { callee := .builtin .append, args := #[s, x], argTypes := #[t, u] }) ty (St w0 H (R ++ L))
      fun v' w => ∃ q : Value × List (Nat × Obj), v' = q.1 ∧ (OwnR e 1 q.1 (n + b.size) (xs ++ strCells b) q.2 ∧ St w0 H (q.2 ++ L) w) := by
  obtain ⟨i, hi', hzz⟩ := Option.map_eq_some_iff.1 hi
  simp only [Prod.mk.injEq] at hzz
  obtain ⟨hz, h1, rfl⟩ := hzz
  have hl := strCells_length b
  have hxl : xs.length = n := by simpa using hown.1
  have hsmall : n + b.size ≤ 9223372036854775807 := by simp only [maxLen] at h63; omega
  have hlen : (xs ++ strCells b).length = (n + b.size) * 1 := by rw [List.length_append, hxl, hl, Nat.mul_one]
  intro d pos af g w hw
  have key : ∃ v' w', (Builtin.append_ #[t, u] ty #[v, .string b]).run P w = .ok v' w' ∧ ∃ R', OwnR e 1 v' (n + b.size) (xs ++ strCells b) R' ∧ St w0 H (R' ++ L) w' := by
    have grown : ∀ (old : Nat), old < n + b.size → St w0 H L w →
        ∃ R', OwnR e 1 (.slice (some ⟨w.heap.size, 0, none⟩) (n + b.size) (grownCap w (n + b.size) old e)) (n + b.size) (xs ++ strCells b) R' ∧
          St w0 H (R' ++ L) (w.drew.alloc (.cells (xs.toArray ++ (strCells b).toArray ++ Builtin.zeroCells z.cells (grownCap w (n + b.size) old e - (n + b.size))) e)) := by
      intro old ho hst
      have hge := grownCap_ge w (n + b.size) old e
      have hcm : grownCap w (n + b.size) old e ≤ maxLen := grownCap_le_maxLen w (n + b.size) old e h63
      refine ⟨[(w.heap.size, .cells (xs.toArray ++ (strCells b).toArray ++ Builtin.zeroCells z.cells (grownCap w (n + b.size) old e - (n + b.size))) e (0, 0))], ⟨hlen, .inr ⟨w.heap.size, _, _, rfl, hge, hcm, ?_, ?_, rfl⟩⟩, ?_⟩
      · simp only [Array.size_append, List.size_toArray, size_zeroCells, hzs, hxl, hl]
        omega
      · simp only [Array.toList_append, List.append_assoc]
        rw [← List.append_assoc, ← hlen]
        exact List.take_left
      · exact (hst.drawn (w.drawn + 1) (Nat.le_succ _)).push _
    rcases hown.2 with ⟨rfl, rfl, rfl⟩ | ⟨gb, cap, cur, rfl, hnc, hcm, hcs, htake, rfl⟩
    · have hx0 : xs = [] := List.eq_nil_of_length_eq_zero hxl
      subst hx0
      by_cases hm : b.size = 0
      · have hn : strCells b = [] := List.eq_nil_of_length_eq_zero (by omega)
        rw [hn, hm]
        refine ⟨.slice none 0 0, w, ?_, [], OwnR.nil _ _, hw⟩
        have hf := run_firstCells_string (P := P) w i.size b
        rw [hm] at hf
        simp [Builtin.append_, run_underlying ht, run_underlying hu, sizeOf, typeInfo, hi', Builtin.lenOf, hm, hf]
      · have hr := run_append_nil_string (P := P) w t u ty e i z ht hu hi' hz b (by omega) (by omega) (by have hb := hbytes; simp only [Nat.zero_add] at hb; omega)
        obtain ⟨R', g1, g2⟩ := grown 0 (by omega) hw
        simp only [Nat.zero_add, List.nil_append, Array.empty_append] at g1 g2 ⊢
        refine ⟨_, _, hr, R', g1, ?_⟩
        have e1 : (b.data.map (fun b => Value.int .u8 b.toNat)) = (strCells b).toArray := by apply Array.ext'; simp [strCells]
        rw [e1]
        exact g2
    · by_cases hroom : n + b.size ≤ cap
      · have hfit : n + b.size ≤ cur.size := by omega
        have hr := run_append_room_string (P := P) w t u ty e i ht hu hi' h1 gb n cap cur (hw.at_ (j := 0) rfl) b hroom hfit
        refine ⟨_, _, hr, [(gb, .cells (cur.toList.take n ++ strCells b ++ cur.toList.drop (n + b.size)).toArray e (0, 0))], ⟨hlen, .inr ⟨gb, cap, _, rfl, hroom, hcm, ?_, ?_, rfl⟩⟩, hw.putRow _⟩
        · simp only [List.size_toArray, List.length_append, List.length_take, List.length_drop, Array.length_toList, hl]
          omega
        · rw [Nat.mul_one] at htake
          rw [htake, ← hlen]
          exact List.take_left
      · have holds : ∀ j u, xs[j]? = some u → w.cell? ((⟨gb, 0, none⟩ : Addr).add j) = some u := by
          intro j u hu
          have ha : (⟨gb, 0, none⟩ : Addr).add j = ⟨gb, j, none⟩ := by unfold Addr.add; split <;> simp_all
          rw [ha]
          refine cell_of_heap (hw.at_ (j := 0) rfl) ?_
          rw [← htake, List.getElem?_take] at hu
          split at hu
          · simpa using hu
          · cases hu
        have hr := run_append_grow_string (P := P) w t u ty e i z ht hu hi' hz ⟨gb, 0, none⟩ n cap xs (by rw [h1, hxl, Nat.mul_one]) holds b (by omega) (by omega) (growslice_fits (by omega) hbytes)
        obtain ⟨R', g1, g2⟩ := grown cap (by omega) (hw.drop (List.sublist_cons_self _ _))
        exact ⟨_, _, hr, R', g1, g2⟩
  obtain ⟨v', w', hr, R', g1, g2⟩ := key
  have e1 : (execOp (evalE ρ) ⟨d, .call { callee := .builtin .append, args := #[s, x], argTypes := #[t, u] }, ty, pos, af, g⟩).run P w = .ok (.value v') w' := by
    unfold execOp
    simp only [resolve, invoke, builtin, Sem.run_bind, Sem.run_pure, Result.andThen_ok, List.map_toArray, List.map_cons, List.map_nil, hs, hx, hr]
  rw [e1]
  exact ⟨(v', R'), rfl, g1, g2⟩
end
section
variable {P : Program} {ρ : Env} {A : World → Prop} {ty : TypeId} {w0 : World} {I : Foot} {L L2 : List HP}
instance {s x : Operand} {sv : SV} {t u e : TypeId} {z : List Value} {bytes : Nat} {b : ByteArray} {xs : List (KInt .u8)} [hs : Ev ρ s (.slice sv.a sv.n sv.cap)] [hx : Ev ρ x (.string b)] [ht : Und P t (.slice e)] [hu : Und P u .string] [hz : Inf P e z 1 bytes] [hA : InSL A w0 I L] [ho : FindOwn L sv e (KInt .u8) inferInstance xs L2] [hzl : FirstL z 1 z []] :
    OpE P ρ A (.call { callee := .builtin .append, args := #[s, x], argTypes := #[t, u] }) ty SV (fun r => .slice r.a r.n r.cap) (fun r => SL w0 I (OwnS e r (xs ++ bytesK b) :: L2)) (Room (xs.length + b.size) bytes) := ⟨fun h => OpT.sl fun w hw d pos af g => by
  obtain ⟨z', hz1, hz2, hz3⟩ := Inf.zero hz
  obtain ⟨H, R, Rs, h1, h2, h3, h4⟩ := (ho.out.sl hw).uncons
  have hn := OwnR.len h2
  have hzs : z'.cells.size = 1 := by rw [hz2]; simpa using hzl.out.2
  have hown : OwnR e 1 (.slice sv.a sv.n sv.cap) sv.n (flat xs) R := h2
  refine (T_appStr (P := P) (ρ := ρ) (ty := ty) (w0 := w0) (H := H) (L := Rs.flatten) ht.out hu.out hz3 hzs hs.out hown hx.out (by rw [hn]; have := h.2; simp only [maxLen]; omega) (by rw [hn]; exact h.1) d pos af g w h4).mono ?_
  rintro v w' ⟨⟨v1, R1⟩, rfl, ho', hst⟩
  obtain ⟨a, cap, hv, hc⟩ := ho'.slice
  dsimp only at ho' hv hst
  subst hv
  refine ⟨⟨a, sv.n + b.size, cap⟩, rfl, SL.cons h1 (R := R1) ?_ h3 hst⟩
  unfold OwnS
  rw [flat_append, flat_bytesK]
  exact ho'⟩
end
end Go.Fw
