/- The reference's lists of n-grams. Conditions: none. -/
import Derived.Test.YtfhelnalegochaaMg11
namespace Go.Proofs.Ytfhelnalegochaa
open Go Go.Fw Go.RowKit
set_option linter.unusedVariables false
set_option linter.unusedSimpArgs false
set_option maxRecDepth 100000
set_option maxHeartbeats 16000000
set_option synthInstance.maxHeartbeats 200000
set_option synthInstance.maxSize 100000
attribute [local irreducible] WPA WLA WDA WDQ WDE QQ seqQ blockQ loopQ fnQ OpP OpT Tr TrP SL SLd OwnS LitS Bk BkE Ob
attribute [local irreducible] RowH

/-- The grams of a list lie there for good. -/
def GrG (I : Foot) (kg : SV → List Int) (ps : List (SV × Int)) : Prop := ∀ p ∈ ps, SlI I p.1 Int inferInstance (kg p.1)
theorem GrG.at {I : Foot} {kg : SV → List Int} {ps : List (SV × Int)} (h : GrG I kg ps) {i : Nat} (hi : i < ps.length) : SlI I (at_ ps (i : Int)).1 Int inferInstance (kg (at_ ps (i : Int)).1) := h _ (by rw [at_nat ps i hi]; exact List.getElem_mem _)
section
variable {kg : SV → List Int} {L : List HP} {w0 : World} {I : Foot}
structure RP where
  i : Nat
  r : SV
  o : List (SV × Int)
  laid : Bool
theorem rPut_tr {s : SV} {ps : List (SV × Int)} {xg : SV} {xn : Int} [hr : RdS I L s (SV × Int) inferInstance ps] (hg : GrG I kg ps) (hl : ∀ p ∈ ps, (kg p.1).length ≤ 1000000) (hx : SlI I xg Int inferInstance (kg xg)) (hxl : (kg xg).length ≤ 1000000) (hn : ps.length ≤ 100000) :
    Tr Try.prog 107 #[.slice s.a s.n s.cap, .agg #[.slice xg.a xg.n xg.cap, .int .i64 xn]] (SL w0 I L) (fun r : SV => .slice r.a r.n r.cap) (fun r => SL w0 I (OwnS 89 r ((putG kg (xg, xn) false ps).1 ++ (if (putG kg (xg, xn) false ps).2 = true then [] else [(xg, xn)])) :: L)) := by
  refine Tr.intro Try.func107 rfl Try.ntmps107 rfl ?_
  generalize hall : putG kg (xg, xn) false ps = all
  repeat' (first
    | (refine WLA.m rfl rfl ?_ ?_; first | exact trivial | exact rfl | assumption | omega | (refine ⟨?_, ?_⟩ <;> omega) | (simp only [Room, List.length_set, List.length_append, List.length_cons, List.length_nil, List.length_replicate]; omega) | skip)
    | (refine WLA.nil ?_)
    | (refine WPA.region ?_)
    | (refine WPA.seq ?_)
    | (refine QQ.seq_normal ?_)
    | (refine WPA.skip ?_)
    | (refine WPA.block ?_)
    | (refine WPA.ret ?_)
    | (refine WPA.exit ?_)
    | (refine QQ.seq_ret ?_)
    | (refine QQ.seq_exit ?_)
    | (refine QQ.block_normal ?_)
    | (refine QQ.block_ret ?_)
    | (refine QQ.block_hit ?_)
    | (refine QQ.block_miss rfl ?_)
    | (refine QQ.loop_ret ?_)
    | (refine QQ.loop_exit ?_)
    | (refine WLA.st rfl ?_ ?_; first | exact trivial | exact rfl | assumption | omega | (refine ⟨?_, ?_⟩ <;> omega) | (simp only [Room, List.length_set, List.length_append, List.length_cons, List.length_nil, List.length_replicate]; omega) | skip)
    | (refine WLA.x rfl rfl ?_ (fun x => ?_); first | exact trivial | exact rfl | assumption | omega | (refine ⟨?_, ?_⟩ <;> omega) | (simp only [Room, List.length_set, List.length_append, List.length_cons, List.length_nil, List.length_replicate]; omega) | skip)
    | (refine WLA.x0 rfl ?_ (fun x => ?_); first | exact trivial | exact rfl | assumption | omega | (refine ⟨?_, ?_⟩ <;> omega) | (simp only [Room, List.length_set, List.length_append, List.length_cons, List.length_nil, List.length_replicate]; omega) | skip)
    | (guard_target =~ WPA _ _ _ (.cond _ _ _) _ _ _; first | (refine WPA.ifT ?_) | (refine WPA.ifF ?_) | (refine WPA.ifYes ?_ ?_; (first | assumption | omega | (refine fun h => h ?_; assumption) | (simp only [List.length_append, List.length_cons, List.length_nil, List.length_set] <;> omega))) | (refine WPA.ifNo ?_ ?_; (first | assumption | omega | (refine fun h => h ?_; assumption) | (simp only [List.length_append, List.length_cons, List.length_nil, List.length_set] <;> omega))) | (refine WPA.ifBt ?_ ?_; assumption) | (refine WPA.ifBf ?_ ?_; assumption) | (refine WPA.ifBnt ?_ ?_; assumption) | (refine WPA.ifBnf ?_ ?_; assumption) | (refine WPA.ifs ?_ ?_ <;> intro hc) | (refine WPA.ifB ?_ ?_ <;> intro hc)))
  revert x; intro t3
  refine WPA.loopS (σ := RP) (fun y => [(0, .slice s.a s.n s.cap), (3, .pointer (some ⟨t3, 0, none⟩)), (5, .slice y.r.a y.r.n y.r.cap), (6, .bool y.laid), (7, .int .i64 y.i)])
    (fun y => (y.i ≤ ps.length ∧ y.o.length ≤ 2 * y.i) ∧ y.o ++ (putG kg (xg, xn) y.laid (ps.drop y.i)).1 = all.1 ∧ (putG kg (xg, xn) y.laid (ps.drop y.i)).2 = all.2)
    (fun y => SL w0 I (OwnS 89 y.r y.o :: Bk t3 89 [.slice xg.a xg.n xg.cap, .int .i64 xn] :: L)) (fun y => ps.length - y.i) ⟨0, SV.nil, [], false⟩ ⟨rfl, rfl, rfl, rfl, rfl, trivial⟩ ⟨⟨Nat.zero_le _, Nat.zero_le _⟩, by rw [List.drop_zero, hall]; rfl, by rw [List.drop_zero, hall]⟩ (fun w h => h.to) ?_
  rintro ⟨i, r, o, laid⟩ ρ ⟨⟨hi, ho⟩, h1, h2⟩
  dsimp only at hi ho h1 h2 ⊢
  by_cases hlt : i < ps.length
  · have hlt' : (i : Int) < ps.length := by omega
    have hyg := hg.at hlt
    have hyl : (kg (at_ ps (i : Int)).1).length ≤ 1000000000 := by have := hl (at_ ps (i : Int)) (by rw [at_nat ps i hlt]; exact List.getElem_mem _); omega
    have hxl' : (kg xg).length ≤ 1000000000 := by omega
    rw [List.drop_eq_getElem_cons hlt, ← at_nat ps i hlt] at h1 h2
    simp only [putG] at h1 h2
    by_cases hp : 0 < cmpL (kg (at_ ps (i : Int)).1) (kg xg)
    · have hz : ¬ cmpL (kg (at_ ps (i : Int)).1) (kg xg) = 0 := by omega
      have hd : decide (0 ≤ cmpL (kg (at_ ps (i : Int)).1) (kg xg)) = true := decide_eq_true (by omega)
      rw [hd, Bool.or_true] at h1 h2
      rw [if_neg hz] at h1
      cases laid
      · rw [if_pos ⟨hp, rfl⟩] at h1
        repeat' (first
          | (refine WLA.m rfl rfl ?_ ?_; first | exact trivial | exact rfl | assumption | omega | (refine ⟨?_, ?_⟩ <;> omega) | (simp only [Room, List.length_set, List.length_append, List.length_cons, List.length_nil, List.length_replicate]; omega) | skip)
          | (refine WLA.nil ?_)
          | (refine WPA.region ?_)
          | (refine WPA.seq ?_)
          | (refine QQ.seq_normal ?_)
          | (refine WPA.skip ?_)
          | (refine WPA.block ?_)
          | (refine WPA.ret ?_)
          | (refine WPA.exit ?_)
          | (refine QQ.seq_ret ?_)
          | (refine QQ.seq_exit ?_)
          | (refine QQ.block_normal ?_)
          | (refine QQ.block_ret ?_)
          | (refine QQ.block_hit ?_)
          | (refine QQ.block_miss rfl ?_)
          | (refine QQ.loop_ret ?_)
          | (refine QQ.loop_exit ?_)
          | (guard_target =~ WLA _ _ _ _ _ (⟨_, .call ⟨.value (.func 87), _, _⟩, _, _, _, _⟩ :: _) _ _; refine WLA.cq rfl rfl (Compare_tr (by assumption) (by assumption)) ?_)
          | (refine WLA.st rfl ?_ ?_; first | exact trivial | exact rfl | assumption | omega | (refine ⟨?_, ?_⟩ <;> omega) | (simp only [Room, List.length_set, List.length_append, List.length_cons, List.length_nil, List.length_replicate]; omega) | skip)
          | (refine WLA.x rfl rfl ?_ (fun x => ?_); first | exact trivial | exact rfl | assumption | omega | (refine ⟨?_, ?_⟩ <;> omega) | (simp only [Room, List.length_set, List.length_append, List.length_cons, List.length_nil, List.length_replicate]; omega) | skip)
          | (refine WLA.x0 rfl ?_ (fun x => ?_); first | exact trivial | exact rfl | assumption | omega | (refine ⟨?_, ?_⟩ <;> omega) | (simp only [Room, List.length_set, List.length_append, List.length_cons, List.length_nil, List.length_replicate]; omega) | skip)
          | (guard_target =~ WPA _ _ _ (.cond _ _ _) _ _ _; first | (refine WPA.ifT ?_) | (refine WPA.ifF ?_) | (refine WPA.ifYes ?_ ?_; (first | assumption | omega | (refine fun h => h ?_; assumption) | (simp only [List.length_append, List.length_cons, List.length_nil, List.length_set] <;> omega))) | (refine WPA.ifNo ?_ ?_; (first | assumption | omega | (refine fun h => h ?_; assumption) | (simp only [List.length_append, List.length_cons, List.length_nil, List.length_set] <;> omega))) | (refine WPA.ifBt ?_ ?_; assumption) | (refine WPA.ifBf ?_ ?_; assumption) | (refine WPA.ifBnt ?_ ?_; assumption) | (refine WPA.ifBnf ?_ ?_; assumption) | (refine WPA.ifs ?_ ?_ <;> intro hc) | (refine WPA.ifB ?_ ?_ <;> intro hc))
          | (guard_target =~ WLA _ _ _ _ _ (⟨_, _, _, _, _, some _⟩ :: _) _ _; first | (refine WLA.no rfl rfl ?_) | (refine WLA.yes rfl rfl ?_ ?_; (first | assumption | omega | (refine fun h => h ?_; assumption) | (simp only [List.length_append, List.length_cons, List.length_nil, List.length_set] <;> omega))) | (refine WLA.nay rfl rfl ?_ ?_; (first | assumption | omega | (refine fun h => h ?_; assumption) | (simp only [List.length_append, List.length_cons, List.length_nil, List.length_set] <;> omega))) | (refine WLA.both rfl rfl ?_ ?_ <;> intro hg) | (refine WLA.bothB rfl rfl ?_ ?_ <;> intro hg))
          | (guard_target =~ WPA _ _ _ (.region 6 _ true) _ _ _; refine WPA.drawT 7 (.q 0 (.q 1 (.q 2 (.q 3 (.q 4 (.q 5 (.q 6 .fin))))))) mixed ?_ ?_; kernel_rfl)
          | (refine WDA.finish (tl := [⟨_, _, _, _, _, _⟩, ⟨_, _, _, _, _, _⟩]) rfl ?_)
          | (refine WDQ.see rfl ?_)
          | (refine WDQ.m rfl rfl ?_ ?_; first | exact trivial | exact rfl | assumption | omega | (refine ⟨?_, ?_⟩ <;> omega) | (simp only [Room, List.length_set, List.length_append, List.length_cons, List.length_nil, List.length_replicate]; omega) | skip)
          | (guard_target =~ WDQ _ _ _ _ _ _ _ ⟨_, .call ⟨.value (.func 87), _, _⟩, _, _, _, _⟩ _ _ _; refine WDQ.cq rfl rfl (Compare_tr (by assumption) (by assumption)) ?_))
        refine QQ.loopS ⟨i + 1, x, o ++ [(xg, xn)] ++ [((at_ ps (i : Int)).1, (at_ ps (i : Int)).2)], true⟩ ⟨rfl, rfl, rfl, rfl, rfl, trivial⟩ ⟨⟨hlt, ?_⟩, ?_, h2⟩ (by dsimp only; omega) (fun w h => h.to)
        · simp; omega
        · rw [← h1]; simp
      · rw [if_neg (fun h => by cases h.2)] at h1
        repeat' (first
          | (refine WLA.m rfl rfl ?_ ?_; first | exact trivial | exact rfl | assumption | omega | (refine ⟨?_, ?_⟩ <;> omega) | (simp only [Room, List.length_set, List.length_append, List.length_cons, List.length_nil, List.length_replicate]; omega) | skip)
          | (refine WLA.nil ?_)
          | (refine WPA.region ?_)
          | (refine WPA.seq ?_)
          | (refine QQ.seq_normal ?_)
          | (refine WPA.skip ?_)
          | (refine WPA.block ?_)
          | (refine WPA.ret ?_)
          | (refine WPA.exit ?_)
          | (refine QQ.seq_ret ?_)
          | (refine QQ.seq_exit ?_)
          | (refine QQ.block_normal ?_)
          | (refine QQ.block_ret ?_)
          | (refine QQ.block_hit ?_)
          | (refine QQ.block_miss rfl ?_)
          | (refine QQ.loop_ret ?_)
          | (refine QQ.loop_exit ?_)
          | (guard_target =~ WLA _ _ _ _ _ (⟨_, .call ⟨.value (.func 87), _, _⟩, _, _, _, _⟩ :: _) _ _; refine WLA.cq rfl rfl (Compare_tr (by assumption) (by assumption)) ?_)
          | (refine WLA.st rfl ?_ ?_; first | exact trivial | exact rfl | assumption | omega | (refine ⟨?_, ?_⟩ <;> omega) | (simp only [Room, List.length_set, List.length_append, List.length_cons, List.length_nil, List.length_replicate]; omega) | skip)
          | (refine WLA.x rfl rfl ?_ (fun x => ?_); first | exact trivial | exact rfl | assumption | omega | (refine ⟨?_, ?_⟩ <;> omega) | (simp only [Room, List.length_set, List.length_append, List.length_cons, List.length_nil, List.length_replicate]; omega) | skip)
          | (refine WLA.x0 rfl ?_ (fun x => ?_); first | exact trivial | exact rfl | assumption | omega | (refine ⟨?_, ?_⟩ <;> omega) | (simp only [Room, List.length_set, List.length_append, List.length_cons, List.length_nil, List.length_replicate]; omega) | skip)
          | (guard_target =~ WPA _ _ _ (.cond _ _ _) _ _ _; first | (refine WPA.ifT ?_) | (refine WPA.ifF ?_) | (refine WPA.ifYes ?_ ?_; (first | assumption | omega | (refine fun h => h ?_; assumption) | (simp only [List.length_append, List.length_cons, List.length_nil, List.length_set] <;> omega))) | (refine WPA.ifNo ?_ ?_; (first | assumption | omega | (refine fun h => h ?_; assumption) | (simp only [List.length_append, List.length_cons, List.length_nil, List.length_set] <;> omega))) | (refine WPA.ifBt ?_ ?_; assumption) | (refine WPA.ifBf ?_ ?_; assumption) | (refine WPA.ifBnt ?_ ?_; assumption) | (refine WPA.ifBnf ?_ ?_; assumption) | (refine WPA.ifs ?_ ?_ <;> intro hc) | (refine WPA.ifB ?_ ?_ <;> intro hc))
          | (guard_target =~ WLA _ _ _ _ _ (⟨_, _, _, _, _, some _⟩ :: _) _ _; first | (refine WLA.no rfl rfl ?_) | (refine WLA.yes rfl rfl ?_ ?_; (first | assumption | omega | (refine fun h => h ?_; assumption) | (simp only [List.length_append, List.length_cons, List.length_nil, List.length_set] <;> omega))) | (refine WLA.nay rfl rfl ?_ ?_; (first | assumption | omega | (refine fun h => h ?_; assumption) | (simp only [List.length_append, List.length_cons, List.length_nil, List.length_set] <;> omega))) | (refine WLA.both rfl rfl ?_ ?_ <;> intro hg) | (refine WLA.bothB rfl rfl ?_ ?_ <;> intro hg))
          | (guard_target =~ WPA _ _ _ (.region 6 _ true) _ _ _; refine WPA.drawT 7 (.q 0 (.q 1 (.q 2 (.q 3 (.q 4 (.q 5 (.q 6 .fin))))))) mixed ?_ ?_; kernel_rfl)
          | (refine WDA.finish (tl := [⟨_, _, _, _, _, _⟩, ⟨_, _, _, _, _, _⟩]) rfl ?_)
          | (refine WDQ.see rfl ?_)
          | (refine WDQ.m rfl rfl ?_ ?_; first | exact trivial | exact rfl | assumption | omega | (refine ⟨?_, ?_⟩ <;> omega) | (simp only [Room, List.length_set, List.length_append, List.length_cons, List.length_nil, List.length_replicate]; omega) | skip)
          | (guard_target =~ WDQ _ _ _ _ _ _ _ ⟨_, .call ⟨.value (.func 87), _, _⟩, _, _, _, _⟩ _ _ _; refine WDQ.cq rfl rfl (Compare_tr (by assumption) (by assumption)) ?_))
        refine QQ.loopS ⟨i + 1, x, o ++ [((at_ ps (i : Int)).1, (at_ ps (i : Int)).2)], true⟩ ⟨rfl, rfl, rfl, rfl, rfl, trivial⟩ ⟨⟨hlt, ?_⟩, ?_, h2⟩ (by dsimp only; omega) (fun w h => h.to)
        · simp; omega
        · rw [← h1]; simp
    · rw [if_neg (fun h => hp h.1), List.nil_append] at h1
      by_cases hz : cmpL (kg (at_ ps (i : Int)).1) (kg xg) = 0
      · have hd : decide (0 ≤ cmpL (kg (at_ ps (i : Int)).1) (kg xg)) = true := decide_eq_true (by omega)
        rw [hd, Bool.or_true] at h1 h2
        rw [if_pos hz] at h1
        repeat' ((fail_if_success (guard_target =~ WPA _ _ _ (.region 12 _ _) _ _ _)); first
          | (refine WLA.m rfl rfl ?_ ?_; first | exact trivial | exact rfl | assumption | omega | (refine ⟨?_, ?_⟩ <;> omega) | (simp only [Room, List.length_set, List.length_append, List.length_cons, List.length_nil, List.length_replicate]; omega) | skip)
          | (refine WLA.nil ?_)
          | (refine WPA.region ?_)
          | (refine WPA.seq ?_)
          | (refine QQ.seq_normal ?_)
          | (refine WPA.skip ?_)
          | (refine WPA.block ?_)
          | (refine WPA.ret ?_)
          | (refine WPA.exit ?_)
          | (refine QQ.seq_ret ?_)
          | (refine QQ.seq_exit ?_)
          | (refine QQ.block_normal ?_)
          | (refine QQ.block_ret ?_)
          | (refine QQ.block_hit ?_)
          | (refine QQ.block_miss rfl ?_)
          | (refine QQ.loop_ret ?_)
          | (refine QQ.loop_exit ?_)
          | (guard_target =~ WLA _ _ _ _ _ (⟨_, .call ⟨.value (.func 87), _, _⟩, _, _, _, _⟩ :: _) _ _; refine WLA.cq rfl rfl (Compare_tr (by assumption) (by assumption)) ?_)
          | (refine WLA.st rfl ?_ ?_; first | exact trivial | exact rfl | assumption | omega | (refine ⟨?_, ?_⟩ <;> omega) | (simp only [Room, List.length_set, List.length_append, List.length_cons, List.length_nil, List.length_replicate]; omega) | skip)
          | (refine WLA.x rfl rfl ?_ (fun x => ?_); first | exact trivial | exact rfl | assumption | omega | (refine ⟨?_, ?_⟩ <;> omega) | (simp only [Room, List.length_set, List.length_append, List.length_cons, List.length_nil, List.length_replicate]; omega) | skip)
          | (refine WLA.x0 rfl ?_ (fun x => ?_); first | exact trivial | exact rfl | assumption | omega | (refine ⟨?_, ?_⟩ <;> omega) | (simp only [Room, List.length_set, List.length_append, List.length_cons, List.length_nil, List.length_replicate]; omega) | skip)
          | (guard_target =~ WPA _ _ _ (.cond _ _ _) _ _ _; first | (refine WPA.ifT ?_) | (refine WPA.ifF ?_) | (refine WPA.ifYes ?_ ?_; (first | assumption | omega | (refine fun h => h ?_; assumption) | (simp only [List.length_append, List.length_cons, List.length_nil, List.length_set] <;> omega))) | (refine WPA.ifNo ?_ ?_; (first | assumption | omega | (refine fun h => h ?_; assumption) | (simp only [List.length_append, List.length_cons, List.length_nil, List.length_set] <;> omega))) | (refine WPA.ifBt ?_ ?_; assumption) | (refine WPA.ifBf ?_ ?_; assumption) | (refine WPA.ifBnt ?_ ?_; assumption) | (refine WPA.ifBnf ?_ ?_; assumption) | (refine WPA.ifs ?_ ?_ <;> intro hc) | (refine WPA.ifB ?_ ?_ <;> intro hc))
          | (guard_target =~ WLA _ _ _ _ _ (⟨_, _, _, _, _, some _⟩ :: _) _ _; first | (refine WLA.no rfl rfl ?_) | (refine WLA.yes rfl rfl ?_ ?_; (first | assumption | omega | (refine fun h => h ?_; assumption) | (simp only [List.length_append, List.length_cons, List.length_nil, List.length_set] <;> omega))) | (refine WLA.nay rfl rfl ?_ ?_; (first | assumption | omega | (refine fun h => h ?_; assumption) | (simp only [List.length_append, List.length_cons, List.length_nil, List.length_set] <;> omega))) | (refine WLA.both rfl rfl ?_ ?_ <;> intro hg) | (refine WLA.bothB rfl rfl ?_ ?_ <;> intro hg))
          | (guard_target =~ WPA _ _ _ (.region 6 _ true) _ _ _; refine WPA.drawT 7 (.q 0 (.q 1 (.q 2 (.q 3 (.q 4 (.q 5 (.q 6 .fin))))))) mixed ?_ ?_; kernel_rfl)
          | (refine WDA.finish (tl := [⟨_, _, _, _, _, _⟩, ⟨_, _, _, _, _, _⟩]) rfl ?_)
          | (refine WDQ.see rfl ?_)
          | (refine WDQ.m rfl rfl ?_ ?_; first | exact trivial | exact rfl | assumption | omega | (refine ⟨?_, ?_⟩ <;> omega) | (simp only [Room, List.length_set, List.length_append, List.length_cons, List.length_nil, List.length_replicate]; omega) | skip)
          | (guard_target =~ WDQ _ _ _ _ _ _ _ ⟨_, .call ⟨.value (.func 87), _, _⟩, _, _, _, _⟩ _ _ _; refine WDQ.cq rfl rfl (Compare_tr (by assumption) (by assumption)) ?_))
        repeat' ((fail_if_success (guard_target =~ WPA _ _ _ (.region 13 _ _) _ _ _)); first
          | (guard_target =~ WLA _ _ _ _ _ (⟨_, .binOp .add _ _ _ _, _, _, _, _⟩ :: _) _ _; refine WLA.m (h := addW) rfl rfl trivial ?_)
          | (guard_target =~ WDQ _ _ _ _ _ _ _ ⟨_, .binOp .add _ _ _ _, _, _, _, _⟩ _ _ _; refine WDQ.m (h := addW) rfl rfl trivial ?_)
          | (guard_target =~ WDP _ _ _ _ _ _ _ ⟨_, .binOp .add _ _ _ _, _, _, _, _⟩ _ _ _; refine WDP.m (h := addW) rfl rfl trivial ?_)
          | (refine WLA.m rfl rfl ?_ ?_; first | exact trivial | exact rfl | assumption | omega | (refine ⟨?_, ?_⟩ <;> omega) | (simp only [Room, List.length_set, List.length_append, List.length_cons, List.length_nil, List.length_replicate]; omega) | skip)
          | (refine WLA.nil ?_)
          | (refine WPA.region ?_)
          | (refine WPA.seq ?_)
          | (refine QQ.seq_normal ?_)
          | (refine WPA.skip ?_)
          | (refine WPA.block ?_)
          | (refine WPA.ret ?_)
          | (refine WPA.exit ?_)
          | (refine QQ.seq_ret ?_)
          | (refine QQ.seq_exit ?_)
          | (refine QQ.block_normal ?_)
          | (refine QQ.block_ret ?_)
          | (refine QQ.block_hit ?_)
          | (refine QQ.block_miss rfl ?_)
          | (refine QQ.loop_ret ?_)
          | (refine QQ.loop_exit ?_)
          | (refine WLA.st rfl ?_ ?_; first | exact trivial | exact rfl | assumption | omega | (refine ⟨?_, ?_⟩ <;> omega) | (simp only [Room, List.length_set, List.length_append, List.length_cons, List.length_nil, List.length_replicate]; omega) | skip)
          | (refine WLA.x rfl rfl ?_ (fun x => ?_); first | exact trivial | exact rfl | assumption | omega | (refine ⟨?_, ?_⟩ <;> omega) | (simp only [Room, List.length_set, List.length_append, List.length_cons, List.length_nil, List.length_replicate]; omega) | skip)
          | (refine WLA.x0 rfl ?_ (fun x => ?_); first | exact trivial | exact rfl | assumption | omega | (refine ⟨?_, ?_⟩ <;> omega) | (simp only [Room, List.length_set, List.length_append, List.length_cons, List.length_nil, List.length_replicate]; omega) | skip)
          | (guard_target =~ WPA _ _ _ (.cond _ _ _) _ _ _; first | (refine WPA.ifT ?_) | (refine WPA.ifF ?_) | (refine WPA.ifYes ?_ ?_; (first | assumption | omega | (refine fun h => h ?_; assumption) | (simp only [List.length_append, List.length_cons, List.length_nil, List.length_set] <;> omega))) | (refine WPA.ifNo ?_ ?_; (first | assumption | omega | (refine fun h => h ?_; assumption) | (simp only [List.length_append, List.length_cons, List.length_nil, List.length_set] <;> omega))) | (refine WPA.ifBt ?_ ?_; assumption) | (refine WPA.ifBf ?_ ?_; assumption) | (refine WPA.ifBnt ?_ ?_; assumption) | (refine WPA.ifBnf ?_ ?_; assumption) | (refine WPA.ifs ?_ ?_ <;> intro hc) | (refine WPA.ifB ?_ ?_ <;> intro hc)))
        repeat' (first
          | (refine WLA.m rfl rfl ?_ ?_; first | exact trivial | exact rfl | assumption | omega | (refine ⟨?_, ?_⟩ <;> omega) | (simp only [Room, List.length_set, List.length_append, List.length_cons, List.length_nil, List.length_replicate]; omega) | skip)
          | (refine WLA.nil ?_)
          | (refine WPA.region ?_)
          | (refine WPA.seq ?_)
          | (refine QQ.seq_normal ?_)
          | (refine WPA.skip ?_)
          | (refine WPA.block ?_)
          | (refine WPA.ret ?_)
          | (refine WPA.exit ?_)
          | (refine QQ.seq_ret ?_)
          | (refine QQ.seq_exit ?_)
          | (refine QQ.block_normal ?_)
          | (refine QQ.block_ret ?_)
          | (refine QQ.block_hit ?_)
          | (refine QQ.block_miss rfl ?_)
          | (refine QQ.loop_ret ?_)
          | (refine QQ.loop_exit ?_)
          | (refine WLA.st rfl ?_ ?_; first | exact trivial | exact rfl | assumption | omega | (refine ⟨?_, ?_⟩ <;> omega) | (simp only [Room, List.length_set, List.length_append, List.length_cons, List.length_nil, List.length_replicate]; omega) | skip)
          | (refine WLA.x rfl rfl ?_ (fun x => ?_); first | exact trivial | exact rfl | assumption | omega | (refine ⟨?_, ?_⟩ <;> omega) | (simp only [Room, List.length_set, List.length_append, List.length_cons, List.length_nil, List.length_replicate]; omega) | skip)
          | (refine WLA.x0 rfl ?_ (fun x => ?_); first | exact trivial | exact rfl | assumption | omega | (refine ⟨?_, ?_⟩ <;> omega) | (simp only [Room, List.length_set, List.length_append, List.length_cons, List.length_nil, List.length_replicate]; omega) | skip)
          | (guard_target =~ WPA _ _ _ (.cond _ _ _) _ _ _; first | (refine WPA.ifT ?_) | (refine WPA.ifF ?_) | (refine WPA.ifYes ?_ ?_; (first | assumption | omega | (refine fun h => h ?_; assumption) | (simp only [List.length_append, List.length_cons, List.length_nil, List.length_set] <;> omega))) | (refine WPA.ifNo ?_ ?_; (first | assumption | omega | (refine fun h => h ?_; assumption) | (simp only [List.length_append, List.length_cons, List.length_nil, List.length_set] <;> omega))) | (refine WPA.ifBt ?_ ?_; assumption) | (refine WPA.ifBf ?_ ?_; assumption) | (refine WPA.ifBnt ?_ ?_; assumption) | (refine WPA.ifBnf ?_ ?_; assumption) | (refine WPA.ifs ?_ ?_ <;> intro hc) | (refine WPA.ifB ?_ ?_ <;> intro hc)))
        refine QQ.loopS ⟨i + 1, x, o ++ [((at_ ps (i : Int)).1, IntKind.i64.wrap ((at_ ps (i : Int)).2 + xn))], true⟩ ⟨rfl, rfl, rfl, rfl, rfl, trivial⟩ ⟨⟨hlt, ?_⟩, ?_, h2⟩ (by dsimp only; omega) (fun w h => h.to)
        · simp; omega
        · rw [← h1]; simp
      · have hd : decide (0 ≤ cmpL (kg (at_ ps (i : Int)).1) (kg xg)) = false := decide_eq_false (by omega)
        rw [hd, Bool.or_false] at h1 h2
        rw [if_neg hz] at h1
        repeat' (first
          | (refine WLA.m rfl rfl ?_ ?_; first | exact trivial | exact rfl | assumption | omega | (refine ⟨?_, ?_⟩ <;> omega) | (simp only [Room, List.length_set, List.length_append, List.length_cons, List.length_nil, List.length_replicate]; omega) | skip)
          | (refine WLA.nil ?_)
          | (refine WPA.region ?_)
          | (refine WPA.seq ?_)
          | (refine QQ.seq_normal ?_)
          | (refine WPA.skip ?_)
          | (refine WPA.block ?_)
          | (refine WPA.ret ?_)
          | (refine WPA.exit ?_)
          | (refine QQ.seq_ret ?_)
          | (refine QQ.seq_exit ?_)
          | (refine QQ.block_normal ?_)
          | (refine QQ.block_ret ?_)
          | (refine QQ.block_hit ?_)
          | (refine QQ.block_miss rfl ?_)
          | (refine QQ.loop_ret ?_)
          | (refine QQ.loop_exit ?_)
          | (guard_target =~ WLA _ _ _ _ _ (⟨_, .call ⟨.value (.func 87), _, _⟩, _, _, _, _⟩ :: _) _ _; refine WLA.cq rfl rfl (Compare_tr (by assumption) (by assumption)) ?_)
          | (refine WLA.st rfl ?_ ?_; first | exact trivial | exact rfl | assumption | omega | (refine ⟨?_, ?_⟩ <;> omega) | (simp only [Room, List.length_set, List.length_append, List.length_cons, List.length_nil, List.length_replicate]; omega) | skip)
          | (refine WLA.x rfl rfl ?_ (fun x => ?_); first | exact trivial | exact rfl | assumption | omega | (refine ⟨?_, ?_⟩ <;> omega) | (simp only [Room, List.length_set, List.length_append, List.length_cons, List.length_nil, List.length_replicate]; omega) | skip)
          | (refine WLA.x0 rfl ?_ (fun x => ?_); first | exact trivial | exact rfl | assumption | omega | (refine ⟨?_, ?_⟩ <;> omega) | (simp only [Room, List.length_set, List.length_append, List.length_cons, List.length_nil, List.length_replicate]; omega) | skip)
          | (guard_target =~ WPA _ _ _ (.cond _ _ _) _ _ _; first | (refine WPA.ifT ?_) | (refine WPA.ifF ?_) | (refine WPA.ifYes ?_ ?_; (first | assumption | omega | (refine fun h => h ?_; assumption) | (simp only [List.length_append, List.length_cons, List.length_nil, List.length_set] <;> omega))) | (refine WPA.ifNo ?_ ?_; (first | assumption | omega | (refine fun h => h ?_; assumption) | (simp only [List.length_append, List.length_cons, List.length_nil, List.length_set] <;> omega))) | (refine WPA.ifBt ?_ ?_; assumption) | (refine WPA.ifBf ?_ ?_; assumption) | (refine WPA.ifBnt ?_ ?_; assumption) | (refine WPA.ifBnf ?_ ?_; assumption) | (refine WPA.ifs ?_ ?_ <;> intro hc) | (refine WPA.ifB ?_ ?_ <;> intro hc))
          | (guard_target =~ WLA _ _ _ _ _ (⟨_, _, _, _, _, some _⟩ :: _) _ _; first | (refine WLA.no rfl rfl ?_) | (refine WLA.yes rfl rfl ?_ ?_; (first | assumption | omega | (refine fun h => h ?_; assumption) | (simp only [List.length_append, List.length_cons, List.length_nil, List.length_set] <;> omega))) | (refine WLA.nay rfl rfl ?_ ?_; (first | assumption | omega | (refine fun h => h ?_; assumption) | (simp only [List.length_append, List.length_cons, List.length_nil, List.length_set] <;> omega))) | (refine WLA.both rfl rfl ?_ ?_ <;> intro hg) | (refine WLA.bothB rfl rfl ?_ ?_ <;> intro hg))
          | (guard_target =~ WPA _ _ _ (.region 6 _ true) _ _ _; refine WPA.drawT 7 (.q 0 (.q 1 (.q 2 (.q 3 (.q 4 (.q 5 (.q 6 .fin))))))) mixed ?_ ?_; kernel_rfl)
          | (refine WDA.finish (tl := [⟨_, _, _, _, _, _⟩, ⟨_, _, _, _, _, _⟩]) rfl ?_)
          | (refine WDQ.see rfl ?_)
          | (refine WDQ.m rfl rfl ?_ ?_; first | exact trivial | exact rfl | assumption | omega | (refine ⟨?_, ?_⟩ <;> omega) | (simp only [Room, List.length_set, List.length_append, List.length_cons, List.length_nil, List.length_replicate]; omega) | skip)
          | (guard_target =~ WDQ _ _ _ _ _ _ _ ⟨_, .call ⟨.value (.func 87), _, _⟩, _, _, _, _⟩ _ _ _; refine WDQ.cq rfl rfl (Compare_tr (by assumption) (by assumption)) ?_))
        refine QQ.loopS ⟨i + 1, x, o ++ [((at_ ps (i : Int)).1, (at_ ps (i : Int)).2)], laid⟩ ⟨rfl, rfl, rfl, rfl, rfl, trivial⟩ ⟨⟨hlt, ?_⟩, ?_, h2⟩ (by dsimp only; omega) (fun w h => h.to)
        · simp; omega
        · rw [← h1]; simp
  · have hlt' : ¬ (i : Int) < ps.length := by omega
    rw [List.drop_of_length_le (by omega)] at h1 h2
    simp only [putG, List.append_nil] at h1 h2
    subst h1
    cases laid
    · rw [← h2, if_neg (by decide)]
      repeat' (first
        | (refine WLA.m rfl rfl ?_ ?_; first | exact trivial | exact rfl | assumption | omega | (refine ⟨?_, ?_⟩ <;> omega) | (simp only [Room, List.length_set, List.length_append, List.length_cons, List.length_nil, List.length_replicate]; omega) | skip)
        | (refine WLA.nil ?_)
        | (refine WPA.region ?_)
        | (refine WPA.seq ?_)
        | (refine QQ.seq_normal ?_)
        | (refine WPA.skip ?_)
        | (refine WPA.block ?_)
        | (refine WPA.ret ?_)
        | (refine WPA.exit ?_)
        | (refine QQ.seq_ret ?_)
        | (refine QQ.seq_exit ?_)
        | (refine QQ.block_normal ?_)
        | (refine QQ.block_ret ?_)
        | (refine QQ.block_hit ?_)
        | (refine QQ.block_miss rfl ?_)
        | (refine QQ.loop_ret ?_)
        | (refine QQ.loop_exit ?_)
        | (refine WLA.st rfl ?_ ?_; first | exact trivial | exact rfl | assumption | omega | (refine ⟨?_, ?_⟩ <;> omega) | (simp only [Room, List.length_set, List.length_append, List.length_cons, List.length_nil, List.length_replicate]; omega) | skip)
        | (refine WLA.x rfl rfl ?_ (fun x => ?_); first | exact trivial | exact rfl | assumption | omega | (refine ⟨?_, ?_⟩ <;> omega) | (simp only [Room, List.length_set, List.length_append, List.length_cons, List.length_nil, List.length_replicate]; omega) | skip)
        | (refine WLA.x0 rfl ?_ (fun x => ?_); first | exact trivial | exact rfl | assumption | omega | (refine ⟨?_, ?_⟩ <;> omega) | (simp only [Room, List.length_set, List.length_append, List.length_cons, List.length_nil, List.length_replicate]; omega) | skip)
        | (guard_target =~ WPA _ _ _ (.cond _ _ _) _ _ _; first | (refine WPA.ifT ?_) | (refine WPA.ifF ?_) | (refine WPA.ifYes ?_ ?_; (first | assumption | omega | (refine fun h => h ?_; assumption) | (simp only [List.length_append, List.length_cons, List.length_nil, List.length_set] <;> omega))) | (refine WPA.ifNo ?_ ?_; (first | assumption | omega | (refine fun h => h ?_; assumption) | (simp only [List.length_append, List.length_cons, List.length_nil, List.length_set] <;> omega))) | (refine WPA.ifBt ?_ ?_; assumption) | (refine WPA.ifBf ?_ ?_; assumption) | (refine WPA.ifBnt ?_ ?_; assumption) | (refine WPA.ifBnf ?_ ?_; assumption) | (refine WPA.ifs ?_ ?_ <;> intro hc) | (refine WPA.ifB ?_ ?_ <;> intro hc))
        | (guard_target =~ WLA _ _ _ _ _ (⟨_, _, _, _, _, some _⟩ :: _) _ _; first | (refine WLA.no rfl rfl ?_) | (refine WLA.yes rfl rfl ?_ ?_; (first | assumption | omega | (refine fun h => h ?_; assumption) | (simp only [List.length_append, List.length_cons, List.length_nil, List.length_set] <;> omega))) | (refine WLA.nay rfl rfl ?_ ?_; (first | assumption | omega | (refine fun h => h ?_; assumption) | (simp only [List.length_append, List.length_cons, List.length_nil, List.length_set] <;> omega))) | (refine WLA.both rfl rfl ?_ ?_ <;> intro hg) | (refine WLA.bothB rfl rfl ?_ ?_ <;> intro hg))
        | (guard_target =~ WPA _ _ _ (.region 6 _ true) _ _ _; refine WPA.drawT 7 (.q 0 (.q 1 (.q 2 (.q 3 (.q 4 (.q 5 (.q 6 .fin))))))) mixed ?_ ?_; kernel_rfl)
        | (refine WDA.finish (tl := [⟨_, _, _, _, _, _⟩, ⟨_, _, _, _, _, _⟩]) rfl ?_)
        | (refine WDQ.see rfl ?_)
        | (refine WDQ.m rfl rfl ?_ ?_; first | exact trivial | exact rfl | assumption | omega | (refine ⟨?_, ?_⟩ <;> omega) | (simp only [Room, List.length_set, List.length_append, List.length_cons, List.length_nil, List.length_replicate]; omega) | skip))
      exact QQ.end_ rfl _ rfl fun w h => h.to
    · rw [← h2, if_pos rfl, List.append_nil]
      repeat' (first
        | (refine WLA.m rfl rfl ?_ ?_; first | exact trivial | exact rfl | assumption | omega | (refine ⟨?_, ?_⟩ <;> omega) | (simp only [Room, List.length_set, List.length_append, List.length_cons, List.length_nil, List.length_replicate]; omega) | skip)
        | (refine WLA.nil ?_)
        | (refine WPA.region ?_)
        | (refine WPA.seq ?_)
        | (refine QQ.seq_normal ?_)
        | (refine WPA.skip ?_)
        | (refine WPA.block ?_)
        | (refine WPA.ret ?_)
        | (refine WPA.exit ?_)
        | (refine QQ.seq_ret ?_)
        | (refine QQ.seq_exit ?_)
        | (refine QQ.block_normal ?_)
        | (refine QQ.block_ret ?_)
        | (refine QQ.block_hit ?_)
        | (refine QQ.block_miss rfl ?_)
        | (refine QQ.loop_ret ?_)
        | (refine QQ.loop_exit ?_)
        | (refine WLA.st rfl ?_ ?_; first | exact trivial | exact rfl | assumption | omega | (refine ⟨?_, ?_⟩ <;> omega) | (simp only [Room, List.length_set, List.length_append, List.length_cons, List.length_nil, List.length_replicate]; omega) | skip)
        | (refine WLA.x rfl rfl ?_ (fun x => ?_); first | exact trivial | exact rfl | assumption | omega | (refine ⟨?_, ?_⟩ <;> omega) | (simp only [Room, List.length_set, List.length_append, List.length_cons, List.length_nil, List.length_replicate]; omega) | skip)
        | (refine WLA.x0 rfl ?_ (fun x => ?_); first | exact trivial | exact rfl | assumption | omega | (refine ⟨?_, ?_⟩ <;> omega) | (simp only [Room, List.length_set, List.length_append, List.length_cons, List.length_nil, List.length_replicate]; omega) | skip)
        | (guard_target =~ WPA _ _ _ (.cond _ _ _) _ _ _; first | (refine WPA.ifT ?_) | (refine WPA.ifF ?_) | (refine WPA.ifYes ?_ ?_; (first | assumption | omega | (refine fun h => h ?_; assumption) | (simp only [List.length_append, List.length_cons, List.length_nil, List.length_set] <;> omega))) | (refine WPA.ifNo ?_ ?_; (first | assumption | omega | (refine fun h => h ?_; assumption) | (simp only [List.length_append, List.length_cons, List.length_nil, List.length_set] <;> omega))) | (refine WPA.ifBt ?_ ?_; assumption) | (refine WPA.ifBf ?_ ?_; assumption) | (refine WPA.ifBnt ?_ ?_; assumption) | (refine WPA.ifBnf ?_ ?_; assumption) | (refine WPA.ifs ?_ ?_ <;> intro hc) | (refine WPA.ifB ?_ ?_ <;> intro hc))
        | (guard_target =~ WLA _ _ _ _ _ (⟨_, _, _, _, _, some _⟩ :: _) _ _; first | (refine WLA.no rfl rfl ?_) | (refine WLA.yes rfl rfl ?_ ?_; (first | assumption | omega | (refine fun h => h ?_; assumption) | (simp only [List.length_append, List.length_cons, List.length_nil, List.length_set] <;> omega))) | (refine WLA.nay rfl rfl ?_ ?_; (first | assumption | omega | (refine fun h => h ?_; assumption) | (simp only [List.length_append, List.length_cons, List.length_nil, List.length_set] <;> omega))) | (refine WLA.both rfl rfl ?_ ?_ <;> intro hg) | (refine WLA.bothB rfl rfl ?_ ?_ <;> intro hg))
        | (guard_target =~ WPA _ _ _ (.region 6 _ true) _ _ _; refine WPA.drawT 7 (.q 0 (.q 1 (.q 2 (.q 3 (.q 4 (.q 5 (.q 6 .fin))))))) mixed ?_ ?_; kernel_rfl)
        | (refine WDA.finish (tl := [⟨_, _, _, _, _, _⟩, ⟨_, _, _, _, _, _⟩]) rfl ?_)
        | (refine WDQ.see rfl ?_)
        | (refine WDQ.m rfl rfl ?_ ?_; first | exact trivial | exact rfl | assumption | omega | (refine ⟨?_, ?_⟩ <;> omega) | (simp only [Room, List.length_set, List.length_append, List.length_cons, List.length_nil, List.length_replicate]; omega) | skip))
      exact QQ.end_ rfl _ rfl fun w h => h.to
theorem putL_grg {ps : List (SV × Int)} {x : SV × Int} {G : SV → Prop} (h : ∀ p ∈ ps, G p.1) (hx : G x.1) : ∀ p ∈ putL kg ps x, G p.1 := by
  intro p hp
  rcases putL_fst p hp with e | ⟨y, hy, e⟩
  · rw [e]; exact hx
  · rw [e]; exact h y hy
theorem rSum_tr {s : SV} {ps : List (SV × Int)} [hr : RdS I L s (SV × Int) inferInstance ps] (hg : GrG I kg ps) (hl : ∀ p ∈ ps, (kg p.1).length ≤ 1000000) (hn : ps.length ≤ 100000) :
    Tr Try.prog 73 #[.slice s.a s.n s.cap] (SL w0 I L) (fun r : SV => .slice r.a r.n r.cap) (fun r => SL w0 I (OwnS 89 r (ps.foldl (putL kg) []) :: L)) := by
  refine Tr.intro Try.func73 rfl Try.ntmps73 rfl ?_
  repeat' (first
    | (refine WLA.m rfl rfl ?_ ?_; first | exact trivial | exact rfl | assumption | omega | (refine ⟨?_, ?_⟩ <;> omega) | (simp only [Room, List.length_set, List.length_append, List.length_cons, List.length_nil, List.length_replicate]; omega) | skip)
    | (refine WLA.nil ?_)
    | (refine WPA.region ?_)
    | (refine WPA.seq ?_)
    | (refine QQ.seq_normal ?_)
    | (refine WPA.skip ?_)
    | (refine WPA.block ?_)
    | (refine WPA.ret ?_)
    | (refine WPA.exit ?_)
    | (refine QQ.seq_ret ?_)
    | (refine QQ.seq_exit ?_)
    | (refine QQ.block_normal ?_)
    | (refine QQ.block_ret ?_)
    | (refine QQ.block_hit ?_)
    | (refine QQ.block_miss rfl ?_)
    | (refine QQ.loop_ret ?_)
    | (refine QQ.loop_exit ?_)
    | (refine WLA.st rfl ?_ ?_; first | exact trivial | exact rfl | assumption | omega | (refine ⟨?_, ?_⟩ <;> omega) | (simp only [Room, List.length_set, List.length_append, List.length_cons, List.length_nil, List.length_replicate]; omega) | skip)
    | (refine WLA.x rfl rfl ?_ (fun x => ?_); first | exact trivial | exact rfl | assumption | omega | (refine ⟨?_, ?_⟩ <;> omega) | (simp only [Room, List.length_set, List.length_append, List.length_cons, List.length_nil, List.length_replicate]; omega) | skip)
    | (refine WLA.x0 rfl ?_ (fun x => ?_); first | exact trivial | exact rfl | assumption | omega | (refine ⟨?_, ?_⟩ <;> omega) | (simp only [Room, List.length_set, List.length_append, List.length_cons, List.length_nil, List.length_replicate]; omega) | skip)
    | (guard_target =~ WPA _ _ _ (.cond _ _ _) _ _ _; first | (refine WPA.ifT ?_) | (refine WPA.ifF ?_) | (refine WPA.ifYes ?_ ?_; (first | assumption | omega | (refine fun h => h ?_; assumption) | (simp only [List.length_append, List.length_cons, List.length_nil, List.length_set] <;> omega))) | (refine WPA.ifNo ?_ ?_; (first | assumption | omega | (refine fun h => h ?_; assumption) | (simp only [List.length_append, List.length_cons, List.length_nil, List.length_set] <;> omega))) | (refine WPA.ifBt ?_ ?_; assumption) | (refine WPA.ifBf ?_ ?_; assumption) | (refine WPA.ifBnt ?_ ?_; assumption) | (refine WPA.ifBnf ?_ ?_; assumption) | (refine WPA.ifs ?_ ?_ <;> intro hc) | (refine WPA.ifB ?_ ?_ <;> intro hc)))
  refine WPA.loopS (σ := Nat × SV × List (SV × Int)) (fun y => [(0, .slice s.a s.n s.cap), (3, .slice y.2.1.a y.2.1.n y.2.1.cap), (4, .int .i64 y.1)])
    (fun y => (y.1 ≤ ps.length ∧ y.2.2.length ≤ y.1) ∧ (ps.drop y.1).foldl (putL kg) y.2.2 = ps.foldl (putL kg) [] ∧ Ris kg y.2.2 ∧ ∀ p ∈ y.2.2, SlI I p.1 Int inferInstance (kg p.1) ∧ (kg p.1).length ≤ 1000000)
    (fun y => SL w0 I (OwnS 89 y.2.1 y.2.2 :: L)) (fun y => ps.length - y.1) (0, SV.nil, []) ⟨rfl, rfl, rfl, trivial⟩ ⟨⟨Nat.zero_le _, Nat.le_refl _⟩, rfl, List.Pairwise.nil, by simp⟩ (fun w h => h.to) ?_
  rintro ⟨i, r, o⟩ ρ ⟨⟨hi, ho⟩, h1, h2, h3⟩
  dsimp only at hi ho h1 h2 h3 ⊢
  by_cases hlt : i < ps.length
  · have hlt' : (i : Int) < ps.length := by omega
    have hm : at_ ps (i : Int) ∈ ps := by rw [at_nat ps i hlt]; exact List.getElem_mem _
    rw [List.drop_eq_getElem_cons hlt, ← at_nat ps i hlt, List.foldl_cons] at h1
    have hpg := putG_put (f := kg) (x := ((at_ ps (i : Int)).1, (at_ ps (i : Int)).2)) h2
    have hgr := putL_grg (kg := kg) (G := fun s => SlI I s Int inferInstance (kg s) ∧ (kg s).length ≤ 1000000) h3 (x := at_ ps (i : Int)) ⟨hg _ hm, hl _ hm⟩
    have hlen : (putL kg o (at_ ps (i : Int))).length ≤ o.length + 1 := putL_len o
    have h3a : GrG I kg o := fun p hp => (h3 p hp).1
    have h3b : ∀ p ∈ o, (kg p.1).length ≤ 1000000 := fun p hp => (h3 p hp).2
    repeat' (first
      | (refine WLA.m rfl rfl ?_ ?_; first | exact trivial | exact rfl | assumption | omega | (refine ⟨?_, ?_⟩ <;> omega) | (simp only [Room, List.length_set, List.length_append, List.length_cons, List.length_nil, List.length_replicate]; omega) | skip)
      | (refine WLA.nil ?_)
      | (refine WPA.region ?_)
      | (refine WPA.seq ?_)
      | (refine QQ.seq_normal ?_)
      | (refine WPA.skip ?_)
      | (refine WPA.block ?_)
      | (refine WPA.ret ?_)
      | (refine WPA.exit ?_)
      | (refine QQ.seq_ret ?_)
      | (refine QQ.seq_exit ?_)
      | (refine QQ.block_normal ?_)
      | (refine QQ.block_ret ?_)
      | (refine QQ.block_hit ?_)
      | (refine QQ.block_miss rfl ?_)
      | (refine QQ.loop_ret ?_)
      | (refine QQ.loop_exit ?_)
      | (guard_target =~ WLA _ _ _ _ _ (⟨_, .call ⟨.value (.func 107), _, _⟩, _, _, _, _⟩ :: _) _ _; first | (refine WLA.call rfl rfl (rPut_tr h3a h3b (hg _ hm) (hl _ hm) (by omega)) ?_; rintro r2; rw [hpg]) | (refine WLA.call0 rfl (rPut_tr h3a h3b (hg _ hm) (hl _ hm) (by omega)) ?_; rintro r2; rw [hpg]))
      | (refine WLA.st rfl ?_ ?_; first | exact trivial | exact rfl | assumption | omega | (refine ⟨?_, ?_⟩ <;> omega) | (simp only [Room, List.length_set, List.length_append, List.length_cons, List.length_nil, List.length_replicate]; omega) | skip)
      | (refine WLA.x rfl rfl ?_ (fun x => ?_); first | exact trivial | exact rfl | assumption | omega | (refine ⟨?_, ?_⟩ <;> omega) | (simp only [Room, List.length_set, List.length_append, List.length_cons, List.length_nil, List.length_replicate]; omega) | skip)
      | (refine WLA.x0 rfl ?_ (fun x => ?_); first | exact trivial | exact rfl | assumption | omega | (refine ⟨?_, ?_⟩ <;> omega) | (simp only [Room, List.length_set, List.length_append, List.length_cons, List.length_nil, List.length_replicate]; omega) | skip)
      | (guard_target =~ WPA _ _ _ (.cond _ _ _) _ _ _; first | (refine WPA.ifT ?_) | (refine WPA.ifF ?_) | (refine WPA.ifYes ?_ ?_; (first | assumption | omega | (refine fun h => h ?_; assumption) | (simp only [List.length_append, List.length_cons, List.length_nil, List.length_set] <;> omega))) | (refine WPA.ifNo ?_ ?_; (first | assumption | omega | (refine fun h => h ?_; assumption) | (simp only [List.length_append, List.length_cons, List.length_nil, List.length_set] <;> omega))) | (refine WPA.ifBt ?_ ?_; assumption) | (refine WPA.ifBf ?_ ?_; assumption) | (refine WPA.ifBnt ?_ ?_; assumption) | (refine WPA.ifBnf ?_ ?_; assumption) | (refine WPA.ifs ?_ ?_ <;> intro hc) | (refine WPA.ifB ?_ ?_ <;> intro hc)))
    exact QQ.loopS (i + 1, r2, putL kg o (at_ ps (i : Int))) ⟨rfl, rfl, rfl, trivial⟩ ⟨⟨hlt, by dsimp only; omega⟩, h1, putL_ris h2, hgr⟩ (by dsimp only; omega) (fun w h => h.to)
  · have hlt' : ¬ (i : Int) < ps.length := by omega
    rw [List.drop_of_length_le (by omega), List.foldl_nil] at h1
    rw [← h1]
    repeat' (first
      | (refine WLA.m rfl rfl ?_ ?_; first | exact trivial | exact rfl | assumption | omega | (refine ⟨?_, ?_⟩ <;> omega) | (simp only [Room, List.length_set, List.length_append, List.length_cons, List.length_nil, List.length_replicate]; omega) | skip)
      | (refine WLA.nil ?_)
      | (refine WPA.region ?_)
      | (refine WPA.seq ?_)
      | (refine QQ.seq_normal ?_)
      | (refine WPA.skip ?_)
      | (refine WPA.block ?_)
      | (refine WPA.ret ?_)
      | (refine WPA.exit ?_)
      | (refine QQ.seq_ret ?_)
      | (refine QQ.seq_exit ?_)
      | (refine QQ.block_normal ?_)
      | (refine QQ.block_ret ?_)
      | (refine QQ.block_hit ?_)
      | (refine QQ.block_miss rfl ?_)
      | (refine QQ.loop_ret ?_)
      | (refine QQ.loop_exit ?_)
      | (refine WLA.st rfl ?_ ?_; first | exact trivial | exact rfl | assumption | omega | (refine ⟨?_, ?_⟩ <;> omega) | (simp only [Room, List.length_set, List.length_append, List.length_cons, List.length_nil, List.length_replicate]; omega) | skip)
      | (refine WLA.x rfl rfl ?_ (fun x => ?_); first | exact trivial | exact rfl | assumption | omega | (refine ⟨?_, ?_⟩ <;> omega) | (simp only [Room, List.length_set, List.length_append, List.length_cons, List.length_nil, List.length_replicate]; omega) | skip)
      | (refine WLA.x0 rfl ?_ (fun x => ?_); first | exact trivial | exact rfl | assumption | omega | (refine ⟨?_, ?_⟩ <;> omega) | (simp only [Room, List.length_set, List.length_append, List.length_cons, List.length_nil, List.length_replicate]; omega) | skip)
      | (guard_target =~ WPA _ _ _ (.cond _ _ _) _ _ _; first | (refine WPA.ifT ?_) | (refine WPA.ifF ?_) | (refine WPA.ifYes ?_ ?_; (first | assumption | omega | (refine fun h => h ?_; assumption) | (simp only [List.length_append, List.length_cons, List.length_nil, List.length_set] <;> omega))) | (refine WPA.ifNo ?_ ?_; (first | assumption | omega | (refine fun h => h ?_; assumption) | (simp only [List.length_append, List.length_cons, List.length_nil, List.length_set] <;> omega))) | (refine WPA.ifBt ?_ ?_; assumption) | (refine WPA.ifBf ?_ ?_; assumption) | (refine WPA.ifBnt ?_ ?_; assumption) | (refine WPA.ifBnf ?_ ?_; assumption) | (refine WPA.ifs ?_ ?_ <;> intro hc) | (refine WPA.ifB ?_ ?_ <;> intro hc)))
    exact QQ.end_ rfl _ rfl fun w h => h.to
theorem rLists_tr {tp : SV → List (SV × Int)} {s : SV} {hs : List SV} [hr : SlI I s SV inferInstance hs] (hG : ∀ h ∈ hs, GoodL I kg tp h) (hn : hs.length ≤ 100000) (hn2 : (hs.flatMap tp).length ≤ 100000) :
    Tr Try.prog 19 #[.slice s.a s.n s.cap] (SL w0 I L) (fun r : SV => .slice r.a r.n r.cap) (fun r => SL w0 I (OwnS 89 r ((hs.flatMap tp).foldl (putL kg) []) :: L)) := by
  refine Tr.intro Try.func19 rfl Try.ntmps19 rfl ?_
  repeat' (first
    | (refine WLA.m rfl rfl ?_ ?_; first | exact trivial | exact rfl | assumption | omega | (refine ⟨?_, ?_⟩ <;> omega) | (simp only [Room, List.length_set, List.length_append, List.length_cons, List.length_nil, List.length_replicate]; omega) | skip)
    | (refine WLA.nil ?_)
    | (refine WPA.region ?_)
    | (refine WPA.seq ?_)
    | (refine QQ.seq_normal ?_)
    | (refine WPA.skip ?_)
    | (refine WPA.block ?_)
    | (refine WPA.ret ?_)
    | (refine WPA.exit ?_)
    | (refine QQ.seq_ret ?_)
    | (refine QQ.seq_exit ?_)
    | (refine QQ.block_normal ?_)
    | (refine QQ.block_ret ?_)
    | (refine QQ.block_hit ?_)
    | (refine QQ.block_miss rfl ?_)
    | (refine QQ.loop_ret ?_)
    | (refine QQ.loop_exit ?_)
    | (refine WLA.st rfl ?_ ?_; first | exact trivial | exact rfl | assumption | omega | (refine ⟨?_, ?_⟩ <;> omega) | (simp only [Room, List.length_set, List.length_append, List.length_cons, List.length_nil, List.length_replicate]; omega) | skip)
    | (refine WLA.x rfl rfl ?_ (fun x => ?_); first | exact trivial | exact rfl | assumption | omega | (refine ⟨?_, ?_⟩ <;> omega) | (simp only [Room, List.length_set, List.length_append, List.length_cons, List.length_nil, List.length_replicate]; omega) | skip)
    | (refine WLA.x0 rfl ?_ (fun x => ?_); first | exact trivial | exact rfl | assumption | omega | (refine ⟨?_, ?_⟩ <;> omega) | (simp only [Room, List.length_set, List.length_append, List.length_cons, List.length_nil, List.length_replicate]; omega) | skip)
    | (guard_target =~ WPA _ _ _ (.cond _ _ _) _ _ _; first | (refine WPA.ifT ?_) | (refine WPA.ifF ?_) | (refine WPA.ifYes ?_ ?_; (first | assumption | omega | (refine fun h => h ?_; assumption) | (simp only [List.length_append, List.length_cons, List.length_nil, List.length_set] <;> omega))) | (refine WPA.ifNo ?_ ?_; (first | assumption | omega | (refine fun h => h ?_; assumption) | (simp only [List.length_append, List.length_cons, List.length_nil, List.length_set] <;> omega))) | (refine WPA.ifBt ?_ ?_; assumption) | (refine WPA.ifBf ?_ ?_; assumption) | (refine WPA.ifBnt ?_ ?_; assumption) | (refine WPA.ifBnf ?_ ?_; assumption) | (refine WPA.ifs ?_ ?_ <;> intro hc) | (refine WPA.ifB ?_ ?_ <;> intro hc)))
  refine WPA.loopS (σ := Nat × SV) (fun y => [(0, .slice s.a s.n s.cap), (3, .slice y.2.a y.2.n y.2.cap), (4, .int .i64 y.1)])
    (fun y => y.1 ≤ hs.length) (fun y => SL w0 I (OwnS 89 y.2 ((hs.take y.1).flatMap tp) :: L)) (fun y => hs.length - y.1) (0, SV.nil) ⟨rfl, rfl, rfl, trivial⟩ (Nat.zero_le _) (fun w h => by
      show SL w0 I (OwnS 89 SV.nil ([] : List (SV × Int)) :: L) w
      exact h.to) ?_
  rintro ⟨i, r⟩ ρ hi
  dsimp only at hi ⊢
  by_cases hlt : i < hs.length
  · have hlt' : (i : Int) < hs.length := by omega
    have hm : at_ hs (i : Int) ∈ hs := by rw [at_nat hs i hlt]; exact List.getElem_mem _
    have hsl := (hG _ hm).sl
    have e1 : (hs.take (i + 1)).flatMap tp = (hs.take i).flatMap tp ++ tp (at_ hs (i : Int)) := by
      rw [List.take_add_one, List.getElem?_eq_getElem hlt, at_nat hs i hlt, List.flatMap_append]; simp
    have e2 : ((hs.take (i + 1)).flatMap tp).length + ((hs.drop (i + 1)).flatMap tp).length = (hs.flatMap tp).length := by
      rw [← List.length_append, ← List.flatMap_append, List.take_append_drop]
    rw [e1, List.length_append] at e2
    repeat' (first
      | (refine WLA.m rfl rfl ?_ ?_; first | exact trivial | exact rfl | assumption | omega | (refine ⟨?_, ?_⟩ <;> omega) | (simp only [Room, List.length_set, List.length_append, List.length_cons, List.length_nil, List.length_replicate]; omega) | skip)
      | (refine WLA.nil ?_)
      | (refine WPA.region ?_)
      | (refine WPA.seq ?_)
      | (refine QQ.seq_normal ?_)
      | (refine WPA.skip ?_)
      | (refine WPA.block ?_)
      | (refine WPA.ret ?_)
      | (refine WPA.exit ?_)
      | (refine QQ.seq_ret ?_)
      | (refine QQ.seq_exit ?_)
      | (refine QQ.block_normal ?_)
      | (refine QQ.block_ret ?_)
      | (refine QQ.block_hit ?_)
      | (refine QQ.block_miss rfl ?_)
      | (refine QQ.loop_ret ?_)
      | (refine QQ.loop_exit ?_)
      | (refine WLA.st rfl ?_ ?_; first | exact trivial | exact rfl | assumption | omega | (refine ⟨?_, ?_⟩ <;> omega) | (simp only [Room, List.length_set, List.length_append, List.length_cons, List.length_nil, List.length_replicate]; omega) | skip)
      | (refine WLA.x rfl rfl ?_ (fun x => ?_); first | exact trivial | exact rfl | assumption | omega | (refine ⟨?_, ?_⟩ <;> omega) | (simp only [Room, List.length_set, List.length_append, List.length_cons, List.length_nil, List.length_replicate]; omega) | skip)
      | (refine WLA.x0 rfl ?_ (fun x => ?_); first | exact trivial | exact rfl | assumption | omega | (refine ⟨?_, ?_⟩ <;> omega) | (simp only [Room, List.length_set, List.length_append, List.length_cons, List.length_nil, List.length_replicate]; omega) | skip)
      | (guard_target =~ WPA _ _ _ (.cond _ _ _) _ _ _; first | (refine WPA.ifT ?_) | (refine WPA.ifF ?_) | (refine WPA.ifYes ?_ ?_; (first | assumption | omega | (refine fun h => h ?_; assumption) | (simp only [List.length_append, List.length_cons, List.length_nil, List.length_set] <;> omega))) | (refine WPA.ifNo ?_ ?_; (first | assumption | omega | (refine fun h => h ?_; assumption) | (simp only [List.length_append, List.length_cons, List.length_nil, List.length_set] <;> omega))) | (refine WPA.ifBt ?_ ?_; assumption) | (refine WPA.ifBf ?_ ?_; assumption) | (refine WPA.ifBnt ?_ ?_; assumption) | (refine WPA.ifBnf ?_ ?_; assumption) | (refine WPA.ifs ?_ ?_ <;> intro hc) | (refine WPA.ifB ?_ ?_ <;> intro hc))
      | (guard_target =~ WPA _ _ _ (.region 5 _ true) _ _ _; refine WPA.drawT 7 (.p 1 (.p 3 (.p 4 (.p 5 (.p 6 (.e 0 (.w 2 .fin))))))) mixed ?_ ?_; kernel_rfl)
      | (refine WDA.finish (tl := [⟨_, _, _, _, _, _⟩, ⟨_, _, _, _, _, _⟩]) rfl ?_)
      | (refine WDQ.see rfl ?_)
      | (refine WDQ.m rfl rfl ?_ ?_; first | exact trivial | exact rfl | assumption | omega | (refine ⟨?_, ?_⟩ <;> omega) | (simp only [Room, List.length_set, List.length_append, List.length_cons, List.length_nil, List.length_replicate]; omega) | skip)
      | (refine WDP.see rfl ?_)
      | (refine WDP.m rfl rfl ?_ ?_; first | exact trivial | exact rfl | assumption | omega | (refine ⟨?_, ?_⟩ <;> omega) | (simp only [Room, List.length_set, List.length_append, List.length_cons, List.length_nil, List.length_replicate]; omega) | skip)
      | (refine WDP.no rfl rfl ?_)
      | (refine WDW.see rfl ?_)
      | (refine WDW.x rfl rfl ?_ (fun x => ?_); first | exact trivial | exact rfl | assumption | omega | (refine ⟨?_, ?_⟩ <;> omega) | (simp only [Room, List.length_set, List.length_append, List.length_cons, List.length_nil, List.length_replicate]; omega) | skip)
      | (refine WDW.st rfl ?_ ?_; first | exact trivial | exact rfl | assumption | omega | (refine ⟨?_, ?_⟩ <;> omega) | (simp only [Room, List.length_set, List.length_append, List.length_cons, List.length_nil, List.length_replicate]; omega) | skip)
      | (refine WDE.see rfl ?_)
      | (refine WDE.alloc rfl rfl (fun w h => h) (fun x => ?_))
      | (refine WDE.stE rfl ?_)
      | (refine WDE.x rfl rfl ?_ ?_ (fun x => ?_); rotate_left 1; (intro x w h; first | exact h | exact Ent.drop1.sl h); rotate_left 1; first | exact trivial | exact rfl | assumption | omega | (refine ⟨?_, ?_⟩ <;> omega) | (simp only [Room, List.length_set, List.length_append, List.length_cons, List.length_nil, List.length_replicate]; omega) | skip))
    refine QQ.loopS (i + 1, x) ⟨rfl, rfl, rfl, trivial⟩ hlt (by dsimp only; omega) (fun w h => ?_)
    dsimp only
    rw [e1]
    exact h.to
  · have hlt' : ¬ (i : Int) < hs.length := by omega
    rw [List.take_of_length_le (by omega)]
    have hgm : ∀ p ∈ hs.flatMap tp, SlI I p.1 Int inferInstance (kg p.1) ∧ (kg p.1).length ≤ 1000000 := fun p hp => by
      obtain ⟨h, hh, hp⟩ := List.mem_flatMap.1 hp
      exact (hG h hh).el p hp
    have h3a : GrG I kg (hs.flatMap tp) := fun p hp => (hgm p hp).1
    have h3b : ∀ p ∈ hs.flatMap tp, (kg p.1).length ≤ 1000000 := fun p hp => (hgm p hp).2
    repeat' (first
      | (refine WLA.m rfl rfl ?_ ?_; first | exact trivial | exact rfl | assumption | omega | (refine ⟨?_, ?_⟩ <;> omega) | (simp only [Room, List.length_set, List.length_append, List.length_cons, List.length_nil, List.length_replicate]; omega) | skip)
      | (refine WLA.nil ?_)
      | (refine WPA.region ?_)
      | (refine WPA.seq ?_)
      | (refine QQ.seq_normal ?_)
      | (refine WPA.skip ?_)
      | (refine WPA.block ?_)
      | (refine WPA.ret ?_)
      | (refine WPA.exit ?_)
      | (refine QQ.seq_ret ?_)
      | (refine QQ.seq_exit ?_)
      | (refine QQ.block_normal ?_)
      | (refine QQ.block_ret ?_)
      | (refine QQ.block_hit ?_)
      | (refine QQ.block_miss rfl ?_)
      | (refine QQ.loop_ret ?_)
      | (refine QQ.loop_exit ?_)
      | (guard_target =~ WLA _ _ _ _ _ (⟨_, .call ⟨.value (.func 73), _, _⟩, _, _, _, _⟩ :: _) _ _; first | (refine WLA.call rfl rfl (rSum_tr h3a h3b hn2) ?_; rintro r2) | (refine WLA.call0 rfl (rSum_tr h3a h3b hn2) ?_; rintro r2))
      | (refine WLA.st rfl ?_ ?_; first | exact trivial | exact rfl | assumption | omega | (refine ⟨?_, ?_⟩ <;> omega) | (simp only [Room, List.length_set, List.length_append, List.length_cons, List.length_nil, List.length_replicate]; omega) | skip)
      | (refine WLA.x rfl rfl ?_ (fun x => ?_); first | exact trivial | exact rfl | assumption | omega | (refine ⟨?_, ?_⟩ <;> omega) | (simp only [Room, List.length_set, List.length_append, List.length_cons, List.length_nil, List.length_replicate]; omega) | skip)
      | (refine WLA.x0 rfl ?_ (fun x => ?_); first | exact trivial | exact rfl | assumption | omega | (refine ⟨?_, ?_⟩ <;> omega) | (simp only [Room, List.length_set, List.length_append, List.length_cons, List.length_nil, List.length_replicate]; omega) | skip)
      | (guard_target =~ WPA _ _ _ (.cond _ _ _) _ _ _; first | (refine WPA.ifT ?_) | (refine WPA.ifF ?_) | (refine WPA.ifYes ?_ ?_; (first | assumption | omega | (refine fun h => h ?_; assumption) | (simp only [List.length_append, List.length_cons, List.length_nil, List.length_set] <;> omega))) | (refine WPA.ifNo ?_ ?_; (first | assumption | omega | (refine fun h => h ?_; assumption) | (simp only [List.length_append, List.length_cons, List.length_nil, List.length_set] <;> omega))) | (refine WPA.ifBt ?_ ?_; assumption) | (refine WPA.ifBf ?_ ?_; assumption) | (refine WPA.ifBnt ?_ ?_; assumption) | (refine WPA.ifBnf ?_ ?_; assumption) | (refine WPA.ifs ?_ ?_ <;> intro hc) | (refine WPA.ifB ?_ ?_ <;> intro hc))
      | (guard_target =~ WPA _ _ _ (.region 5 _ true) _ _ _; refine WPA.drawT 7 (.p 1 (.p 3 (.p 4 (.p 5 (.p 6 (.e 0 (.w 2 .fin))))))) mixed ?_ ?_; kernel_rfl)
      | (refine WDA.finish (tl := [⟨_, _, _, _, _, _⟩, ⟨_, _, _, _, _, _⟩]) rfl ?_)
      | (refine WDQ.see rfl ?_)
      | (refine WDQ.m rfl rfl ?_ ?_; first | exact trivial | exact rfl | assumption | omega | (refine ⟨?_, ?_⟩ <;> omega) | (simp only [Room, List.length_set, List.length_append, List.length_cons, List.length_nil, List.length_replicate]; omega) | skip)
      | (refine WDP.see rfl ?_)
      | (refine WDP.m rfl rfl ?_ ?_; first | exact trivial | exact rfl | assumption | omega | (refine ⟨?_, ?_⟩ <;> omega) | (simp only [Room, List.length_set, List.length_append, List.length_cons, List.length_nil, List.length_replicate]; omega) | skip)
      | (refine WDP.no rfl rfl ?_)
      | (refine WDW.see rfl ?_)
      | (refine WDW.x rfl rfl ?_ (fun x => ?_); first | exact trivial | exact rfl | assumption | omega | (refine ⟨?_, ?_⟩ <;> omega) | (simp only [Room, List.length_set, List.length_append, List.length_cons, List.length_nil, List.length_replicate]; omega) | skip)
      | (refine WDW.st rfl ?_ ?_; first | exact trivial | exact rfl | assumption | omega | (refine ⟨?_, ?_⟩ <;> omega) | (simp only [Room, List.length_set, List.length_append, List.length_cons, List.length_nil, List.length_replicate]; omega) | skip)
      | (refine WDE.see rfl ?_)
      | (refine WDE.alloc rfl rfl (fun w h => h) (fun x => ?_))
      | (refine WDE.stE rfl ?_)
      | (refine WDE.x rfl rfl ?_ ?_ (fun x => ?_); rotate_left 1; (intro x w h; first | exact h | exact Ent.drop1.sl h); rotate_left 1; first | exact trivial | exact rfl | assumption | omega | (refine ⟨?_, ?_⟩ <;> omega) | (simp only [Room, List.length_set, List.length_append, List.length_cons, List.length_nil, List.length_replicate]; omega) | skip)
      | (guard_target =~ WDE _ _ _ _ _ _ _ ⟨_, .call ⟨.value (.func 73), _, _⟩, _, _, _, _⟩ _ _ _; refine WDE.call rfl rfl (rSum_tr h3a h3b hn2) ?_ ?_; (intro x w h; first | exact h | exact Ent.drop1.sl h); rintro r2)
      | (guard_target =~ WDW _ _ _ _ _ _ _ ⟨_, .call ⟨.value (.func 73), _, _⟩, _, _, _, _⟩ _ _ _; refine WDW.call rfl rfl (rSum_tr h3a h3b hn2) ?_; rintro r2))
    exact QQ.end_ rfl r2 rfl fun w h => h.to
end
end Go.Proofs.Ytfhelnalegochaa
