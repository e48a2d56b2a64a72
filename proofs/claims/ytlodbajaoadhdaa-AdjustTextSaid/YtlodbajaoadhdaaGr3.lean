/- Rising; by their ends; turned round. Conditions: none. -/
import Derived.Test.YtlodbajaoadhdaaGr2
namespace Go.Proofs.Ytlodbajaoadhdaa
open Go Go.Fw Go.RowKit
set_option linter.unusedVariables false
set_option linter.unusedSimpArgs false
set_option maxRecDepth 100000
set_option maxHeartbeats 16000000
set_option synthInstance.maxHeartbeats 200000
set_option synthInstance.maxSize 100000
attribute [local irreducible] WPA WLA WDA WDQ WDE QQ seqQ blockQ loopQ fnQ OpP OpT Tr TrP SL SLd OwnS LitS Bk BkE Ob
section
variable {kg : SV → List Int} {L : List HP} {w0 : World} {I : Foot}
theorem gRises_tr {s : SV} {ps : List (SV × Int)} [hr : RdS I L s (SV × Int) inferInstance ps] (hg : ∀ p ∈ ps, RdS I L p.1 Int inferInstance (kg p.1)) (hl : ∀ p ∈ ps, (kg p.1).length ≤ 1000000) (hn : ps.length ≤ 1000000) :
    TrP Try.prog 48 #[.slice s.a s.n s.cap] (SL w0 I L) (.bool (decide (Ris kg ps))) := by
  refine TrP.ofD fun u => Tr.intro Try.func48 rfl Try.ntmps48 rfl ?_
  repeat' (first | ((first | refine WLA.m rfl rfl ?_ ?_ | refine WLA.st rfl ?_ ?_ | refine WLA.x rfl rfl ?_ (fun x => ?_) | refine WLA.x0 rfl ?_ (fun x => ?_)); first | exact trivial | exact rfl | assumption | omega | (refine ⟨?_, ?_⟩ <;> omega) | (simp only [Room, List.length_set, List.length_append, List.length_cons, List.length_nil, List.length_replicate]; omega) | decide | skip) | (refine Stp.go ?_) | (refine WPA.ifT ?_) | (refine WPA.ifF ?_) | ((first | refine WPA.dec ?_); first | refine .inl ⟨by first | assumption | omega | with_reducible rfl | (refine fun h => h ?_; assumption) | (simp only [List.length_append, List.length_cons, List.length_nil, List.length_set] <;> omega) | decide, ?_⟩ | refine .inr ⟨by first | assumption | omega | with_reducible rfl | (refine fun h => h ?_; assumption) | (simp only [List.length_append, List.length_cons, List.length_nil, List.length_set] <;> omega) | decide, ?_⟩) | ((first | refine WPA.ifBt ?_ ?_ | refine WPA.ifBnf ?_ ?_); assumption) | ((first | refine WPA.ifBnt ?_ ?_ | refine WPA.ifBf ?_ ?_); assumption) | ((first | refine WPA.ifs ?_ ?_ | refine WPA.ifB ?_ ?_) <;> intro hc))
  refine WPA.loopS (σ := Nat) (fun i => [(0, .slice s.a s.n s.cap), (3, .int .i64 i)]) (fun i => 1 ≤ i ∧ ∀ j (h : j + 1 < ps.length), j + 1 < i → ltL (kg (ps[j]'(by omega)).1) (kg ps[j + 1].1))
    (fun i => SLd w0 I L u) (fun i => ps.length - i) 1 ⟨rfl, rfl, trivial⟩ ⟨Nat.le_refl _, fun j h h2 => by omega⟩ (fun w h => h) ?_
  rintro i ρ ⟨hi, he⟩
  by_cases hlt : i < ps.length
  · have hlt' : (i : Int) < ps.length := by omega
    obtain ⟨k, rfl⟩ : ∃ k, i = k + 1 := ⟨i - 1, by omega⟩
    have ek : ((k + 1 : Nat) : Int) - 1 = (k : Int) := by omega
    have e1 := at_nat ps k (by omega)
    have e2 := at_nat ps (k + 1) hlt
    have m1 : at_ ps (k : Int) ∈ ps := by rw [e1]; exact List.getElem_mem _
    have m2 : at_ ps ((k + 1 : Nat) : Int) ∈ ps := by rw [e2]; exact List.getElem_mem _
    have hgk := hg _ m1
    have hgi := hg _ m2
    have l1 : (kg (at_ ps (k : Int)).1).length ≤ 1000000000 := by have := hl _ m1; omega
    have l2 : (kg (at_ ps ((k + 1 : Nat) : Int)).1).length ≤ 1000000000 := by have := hl _ m2; omega
    rw [← ek] at hgk l1
    by_cases hx : ltL (kg ps[k].1) (kg ps[k + 1].1)
    · have hx' : ¬ 0 ≤ cmpL (kg (at_ ps (((k + 1 : Nat) : Int) - 1)).1) (kg (at_ ps ((k + 1 : Nat) : Int)).1) := by rw [ek, e1, e2]; unfold ltL at hx; omega
      repeat' (first | ((first | refine WLA.m rfl rfl ?_ ?_ | refine WDQ.m rfl rfl ?_ ?_ | refine WLA.st rfl ?_ ?_ | refine WLA.x rfl rfl ?_ (fun x => ?_) | refine WLA.x0 rfl ?_ (fun x => ?_)); first | exact trivial | exact rfl | assumption | omega | (refine ⟨?_, ?_⟩ <;> omega) | (simp only [Room, List.length_set, List.length_append, List.length_cons, List.length_nil, List.length_replicate]; omega) | decide | skip) | (refine Stp.go ?_) | (guard_target =~ WLA _ _ _ _ _ (⟨_, .call ⟨.value (.func 30), _, _⟩, _, _, _, _⟩ :: _) _ _; refine WLA.cq rfl rfl (gCompare_tr (by assumption) (by assumption)) ?_) | (refine WPA.ifT ?_) | (refine WPA.ifF ?_) | ((first | refine WPA.dec ?_); first | refine .inl ⟨by first | assumption | omega | with_reducible rfl | (refine fun h => h ?_; assumption) | (simp only [List.length_append, List.length_cons, List.length_nil, List.length_set] <;> omega) | decide, ?_⟩ | refine .inr ⟨by first | assumption | omega | with_reducible rfl | (refine fun h => h ?_; assumption) | (simp only [List.length_append, List.length_cons, List.length_nil, List.length_set] <;> omega) | decide, ?_⟩) | ((first | refine WPA.ifBt ?_ ?_ | refine WPA.ifBnf ?_ ?_); assumption) | ((first | refine WPA.ifBnt ?_ ?_ | refine WPA.ifBf ?_ ?_); assumption) | ((first | refine WPA.ifs ?_ ?_ | refine WPA.ifB ?_ ?_) <;> intro hc) | (guard_target =~ WPA _ _ _ (.region 4 _ true) _ _ _; refine WPA.drawT 11 (.q 0 (.q 1 (.q 2 (.q 3 (.q 4 (.q 5 (.q 6 (.q 7 (.q 8 (.q 9 (.q 10 .fin))))))))))) mixed ?_ ?_; kernel_rfl) | (refine WDA.finish (tl := [⟨_, _, _, _, _, _⟩, ⟨_, _, _, _, _, _⟩]) rfl ?_) | (refine WDQ.see rfl ?_) | (guard_target =~ WDQ _ _ _ _ _ _ _ ⟨_, .call ⟨.value (.func 30), _, _⟩, _, _, _, _⟩ _ _ _; refine WDQ.cq rfl rfl (gCompare_tr (by assumption) (by assumption)) ?_))
      refine QQ.loopS (k + 2) ⟨rfl, rfl, trivial⟩ ⟨by omega, fun j h h2 => ?_⟩ (by omega) (fun w h => h)
      rcases Nat.lt_or_ge j k with h3 | h3
      · exact he j h (by omega)
      · have : j = k := by omega
        subst this; exact hx
    · have hx' : 0 ≤ cmpL (kg (at_ ps (((k + 1 : Nat) : Int) - 1)).1) (kg (at_ ps ((k + 1 : Nat) : Int)).1) := by rw [ek, e1, e2]; unfold ltL at hx; omega
      repeat' (first | ((first | refine WLA.m rfl rfl ?_ ?_ | refine WDQ.m rfl rfl ?_ ?_ | refine WLA.st rfl ?_ ?_ | refine WLA.x rfl rfl ?_ (fun x => ?_) | refine WLA.x0 rfl ?_ (fun x => ?_)); first | exact trivial | exact rfl | assumption | omega | (refine ⟨?_, ?_⟩ <;> omega) | (simp only [Room, List.length_set, List.length_append, List.length_cons, List.length_nil, List.length_replicate]; omega) | decide | skip) | (refine Stp.go ?_) | (guard_target =~ WLA _ _ _ _ _ (⟨_, .call ⟨.value (.func 30), _, _⟩, _, _, _, _⟩ :: _) _ _; refine WLA.cq rfl rfl (gCompare_tr (by assumption) (by assumption)) ?_) | (refine WPA.ifT ?_) | (refine WPA.ifF ?_) | ((first | refine WPA.dec ?_); first | refine .inl ⟨by first | assumption | omega | with_reducible rfl | (refine fun h => h ?_; assumption) | (simp only [List.length_append, List.length_cons, List.length_nil, List.length_set] <;> omega) | decide, ?_⟩ | refine .inr ⟨by first | assumption | omega | with_reducible rfl | (refine fun h => h ?_; assumption) | (simp only [List.length_append, List.length_cons, List.length_nil, List.length_set] <;> omega) | decide, ?_⟩) | ((first | refine WPA.ifBt ?_ ?_ | refine WPA.ifBnf ?_ ?_); assumption) | ((first | refine WPA.ifBnt ?_ ?_ | refine WPA.ifBf ?_ ?_); assumption) | ((first | refine WPA.ifs ?_ ?_ | refine WPA.ifB ?_ ?_) <;> intro hc) | (guard_target =~ WPA _ _ _ (.region 4 _ true) _ _ _; refine WPA.drawT 11 (.q 0 (.q 1 (.q 2 (.q 3 (.q 4 (.q 5 (.q 6 (.q 7 (.q 8 (.q 9 (.q 10 .fin))))))))))) mixed ?_ ?_; kernel_rfl) | (refine WDA.finish (tl := [⟨_, _, _, _, _, _⟩, ⟨_, _, _, _, _, _⟩]) rfl ?_) | (refine WDQ.see rfl ?_) | (guard_target =~ WDQ _ _ _ _ _ _ _ ⟨_, .call ⟨.value (.func 30), _, _⟩, _, _, _, _⟩ _ _ _; refine WDQ.cq rfl rfl (gCompare_tr (by assumption) (by assumption)) ?_))
      refine QQ.end_ rfl () (congrArg Value.bool (decide_eq_false fun e => hx ?_).symm) fun w h => h
      exact List.pairwise_iff_getElem.1 e _ _ _ _ (by omega)
  · have hlt' : ¬ (i : Int) < ps.length := by omega
    repeat' (first | ((first | refine WLA.m rfl rfl ?_ ?_ | refine WDQ.m rfl rfl ?_ ?_ | refine WLA.st rfl ?_ ?_ | refine WLA.x rfl rfl ?_ (fun x => ?_) | refine WLA.x0 rfl ?_ (fun x => ?_)); first | exact trivial | exact rfl | assumption | omega | (refine ⟨?_, ?_⟩ <;> omega) | (simp only [Room, List.length_set, List.length_append, List.length_cons, List.length_nil, List.length_replicate]; omega) | decide | skip) | (refine Stp.go ?_) | (guard_target =~ WLA _ _ _ _ _ (⟨_, .call ⟨.value (.func 30), _, _⟩, _, _, _, _⟩ :: _) _ _; refine WLA.cq rfl rfl (gCompare_tr (by assumption) (by assumption)) ?_) | (refine WPA.ifT ?_) | (refine WPA.ifF ?_) | ((first | refine WPA.dec ?_); first | refine .inl ⟨by first | assumption | omega | with_reducible rfl | (refine fun h => h ?_; assumption) | (simp only [List.length_append, List.length_cons, List.length_nil, List.length_set] <;> omega) | decide, ?_⟩ | refine .inr ⟨by first | assumption | omega | with_reducible rfl | (refine fun h => h ?_; assumption) | (simp only [List.length_append, List.length_cons, List.length_nil, List.length_set] <;> omega) | decide, ?_⟩) | ((first | refine WPA.ifBt ?_ ?_ | refine WPA.ifBnf ?_ ?_); assumption) | ((first | refine WPA.ifBnt ?_ ?_ | refine WPA.ifBf ?_ ?_); assumption) | ((first | refine WPA.ifs ?_ ?_ | refine WPA.ifB ?_ ?_) <;> intro hc) | (guard_target =~ WPA _ _ _ (.region 4 _ true) _ _ _; refine WPA.drawT 11 (.q 0 (.q 1 (.q 2 (.q 3 (.q 4 (.q 5 (.q 6 (.q 7 (.q 8 (.q 9 (.q 10 .fin))))))))))) mixed ?_ ?_; kernel_rfl) | (refine WDA.finish (tl := [⟨_, _, _, _, _, _⟩, ⟨_, _, _, _, _, _⟩]) rfl ?_) | (refine WDQ.see rfl ?_) | (guard_target =~ WDQ _ _ _ _ _ _ _ ⟨_, .call ⟨.value (.func 30), _, _⟩, _, _, _, _⟩ _ _ _; refine WDQ.cq rfl rfl (gCompare_tr (by assumption) (by assumption)) ?_))
    exact QQ.end_ rfl () (congrArg Value.bool (decide_eq_true (ris_adj fun j h => he j h (by omega))).symm) fun w h => h
theorem cmpc_v {x y v : Int} (h : (if x < y then -1 else if y < x then 1 else 0) = v) : TrP Try.prog 90 #[.int .i64 x, .int .i64 y] (SL w0 I L) (.int .i64 v) := by subst h; exact cmpc_tr
theorem cmpL_end : ∀ {a b : List Int}, a = [] ∨ b = [] → cmpL a b = if (a.length : Int) < b.length then -1 else if (b.length : Int) < a.length then 1 else 0
  | [], [], _ => rfl
  | [], _ :: b, _ => by rw [if_pos (by simp <;> omega)]; rfl
  | _ :: a, [], _ => by rw [if_neg (by simp <;> omega), if_pos (by simp <;> omega)]; rfl
  | _ :: _, _ :: _, h => by rcases h with h | h <;> cases h
theorem at_rev {xs : List Int} {i : Nat} (h0 : 1 ≤ i) (h : i ≤ xs.length) : at_ xs ((xs.length : Int) - (i : Int)) = xs.reverse[i - 1]'(by rw [List.length_reverse]; omega) := by
  rw [show (xs.length : Int) - (i : Int) = ((xs.length - i : Nat) : Int) by omega, at_nat xs _ (by omega), List.getElem_reverse]
  congr 1
  omega
theorem Behind_tr {a b : SV} {xs ys : List Int} [ha : RdS I L a Int inferInstance xs] [hb : RdS I L b Int inferInstance ys] (hn : xs.length ≤ 1000000000) (hm : ys.length ≤ 1000000000) :
    TrP Try.prog 32 #[.slice a.a a.n a.cap, .slice b.a b.n b.cap] (SL w0 I L) (.int .i64 (cmpL xs.reverse ys.reverse)) := by
  refine TrP.ofD fun u => Tr.intro Try.func32 rfl Try.ntmps32 rfl ?_
  repeat' (first | ((first | refine WLA.m rfl rfl ?_ ?_ | refine WLA.st rfl ?_ ?_ | refine WLA.x rfl rfl ?_ (fun x => ?_) | refine WLA.x0 rfl ?_ (fun x => ?_)); first | exact trivial | exact rfl | assumption | omega | (refine ⟨?_, ?_⟩ <;> omega) | (simp only [Room, List.length_set, List.length_append, List.length_cons, List.length_nil, List.length_replicate]; omega) | decide | skip) | (refine Stp.go ?_) | (refine WPA.ifT ?_) | (refine WPA.ifF ?_) | ((first | refine WPA.dec ?_); first | refine .inl ⟨by first | assumption | omega | with_reducible rfl | (refine fun h => h ?_; assumption) | (simp only [List.length_append, List.length_cons, List.length_nil, List.length_set] <;> omega) | decide, ?_⟩ | refine .inr ⟨by first | assumption | omega | with_reducible rfl | (refine fun h => h ?_; assumption) | (simp only [List.length_append, List.length_cons, List.length_nil, List.length_set] <;> omega) | decide, ?_⟩) | ((first | refine WPA.ifBt ?_ ?_ | refine WPA.ifBnf ?_ ?_); assumption) | ((first | refine WPA.ifBnt ?_ ?_ | refine WPA.ifBf ?_ ?_); assumption) | ((first | refine WPA.ifs ?_ ?_ | refine WPA.ifB ?_ ?_) <;> intro hc))
  refine WPA.loopS (σ := Nat) (fun i => [(0, .slice a.a a.n a.cap), (1, .slice b.a b.n b.cap), (5, .int .i64 i)]) (fun i => (1 ≤ i ∧ i - 1 ≤ xs.length ∧ i - 1 ≤ ys.length) ∧ cmpL (xs.reverse.drop (i - 1)) (ys.reverse.drop (i - 1)) = cmpL xs.reverse ys.reverse)
    (fun i => SLd w0 I L u) (fun i => xs.length + 1 - i) 1 ⟨rfl, rfl, rfl, trivial⟩ ⟨⟨Nat.le_refl _, Nat.zero_le _, Nat.zero_le _⟩, rfl⟩ (fun w h => h) ?_
  rintro i ρ ⟨⟨h1, h2, h3⟩, he⟩
  by_cases hlt : i ≤ xs.length ∧ i ≤ ys.length
  · have hlt' : (i : Int) ≤ min (xs.length : Int) (ys.length : Int) := by omega
    have r1 : 0 ≤ (xs.length : Int) - i ∧ (xs.length : Int) - i < xs.length := by omega
    have r2 : 0 ≤ (ys.length : Int) - i ∧ (ys.length : Int) - i < ys.length := by omega
    have ex := at_rev h1 hlt.1
    have ey := at_rev h1 hlt.2
    rw [List.drop_eq_getElem_cons (i := i - 1) (l := xs.reverse) (by rw [List.length_reverse]; omega), List.drop_eq_getElem_cons (i := i - 1) (l := ys.reverse) (by rw [List.length_reverse]; omega), ← ex, ← ey, cmpL] at he
    rw [show i - 1 + 1 = i + 1 - 1 by omega] at he
    by_cases hx : at_ xs ((xs.length : Int) - (i : Int)) < at_ ys ((ys.length : Int) - (i : Int))
    · rw [if_pos hx] at he
      have hv : (if at_ xs ((xs.length : Int) - (i : Int)) < at_ ys ((ys.length : Int) - (i : Int)) then -1 else if at_ ys ((ys.length : Int) - (i : Int)) < at_ xs ((xs.length : Int) - (i : Int)) then 1 else 0 : Int) = -1 := if_pos hx
      rw [← he]
      repeat' (first | ((first | refine WLA.m rfl rfl ?_ ?_ | refine WDQ.m rfl rfl ?_ ?_ | refine WLA.st rfl ?_ ?_ | refine WLA.x rfl rfl ?_ (fun x => ?_) | refine WLA.x0 rfl ?_ (fun x => ?_)); first | exact trivial | exact rfl | assumption | omega | (refine ⟨?_, ?_⟩ <;> omega) | (simp only [Room, List.length_set, List.length_append, List.length_cons, List.length_nil, List.length_replicate]; omega) | decide | skip) | (refine Stp.go ?_) | (guard_target =~ WLA _ _ _ _ _ (⟨_, .call ⟨.value (.func 90), _, _⟩, _, _, _, _⟩ :: _) _ _; refine WLA.cq rfl rfl (cmpc_v hv) ?_) | (refine WPA.ifT ?_) | (refine WPA.ifF ?_) | ((first | refine WPA.dec ?_); first | refine .inl ⟨by first | assumption | omega | with_reducible rfl | (refine fun h => h ?_; assumption) | (simp only [List.length_append, List.length_cons, List.length_nil, List.length_set] <;> omega) | decide, ?_⟩ | refine .inr ⟨by first | assumption | omega | with_reducible rfl | (refine fun h => h ?_; assumption) | (simp only [List.length_append, List.length_cons, List.length_nil, List.length_set] <;> omega) | decide, ?_⟩) | ((first | refine WPA.ifBt ?_ ?_ | refine WPA.ifBnf ?_ ?_); assumption) | ((first | refine WPA.ifBnt ?_ ?_ | refine WPA.ifBf ?_ ?_); assumption) | ((first | refine WPA.ifs ?_ ?_ | refine WPA.ifB ?_ ?_) <;> intro hc) | (guard_target =~ WPA _ _ _ (.region 4 _ true) _ _ _; refine WPA.drawT 14 (.q 0 (.q 1 (.q 2 (.q 3 (.q 4 (.q 5 (.q 6 (.q 7 (.q 8 (.q 9 (.q 10 (.q 11 (.q 12 (.q 13 .fin)))))))))))))) mixed ?_ ?_; kernel_rfl) | (refine WDA.finish (tl := [⟨_, _, _, _, _, _⟩, ⟨_, _, _, _, _, _⟩]) rfl ?_) | (refine WDQ.see rfl ?_) | (guard_target =~ WDQ _ _ _ _ _ _ _ ⟨_, .call ⟨.value (.func 90), _, _⟩, _, _, _, _⟩ _ _ _; refine WDQ.cq rfl rfl (cmpc_v hv) ?_))
      exact QQ.end_ rfl () rfl fun w h => h
    · rw [if_neg hx] at he
      by_cases hy : at_ ys ((ys.length : Int) - (i : Int)) < at_ xs ((xs.length : Int) - (i : Int))
      · rw [if_pos hy] at he
        have hv : (if at_ xs ((xs.length : Int) - (i : Int)) < at_ ys ((ys.length : Int) - (i : Int)) then -1 else if at_ ys ((ys.length : Int) - (i : Int)) < at_ xs ((xs.length : Int) - (i : Int)) then 1 else 0 : Int) = 1 := by rw [if_neg hx, if_pos hy]
        rw [← he]
        repeat' (first | ((first | refine WLA.m rfl rfl ?_ ?_ | refine WDQ.m rfl rfl ?_ ?_ | refine WLA.st rfl ?_ ?_ | refine WLA.x rfl rfl ?_ (fun x => ?_) | refine WLA.x0 rfl ?_ (fun x => ?_)); first | exact trivial | exact rfl | assumption | omega | (refine ⟨?_, ?_⟩ <;> omega) | (simp only [Room, List.length_set, List.length_append, List.length_cons, List.length_nil, List.length_replicate]; omega) | decide | skip) | (refine Stp.go ?_) | (guard_target =~ WLA _ _ _ _ _ (⟨_, .call ⟨.value (.func 90), _, _⟩, _, _, _, _⟩ :: _) _ _; refine WLA.cq rfl rfl (cmpc_v hv) ?_) | (refine WPA.ifT ?_) | (refine WPA.ifF ?_) | ((first | refine WPA.dec ?_); first | refine .inl ⟨by first | assumption | omega | with_reducible rfl | (refine fun h => h ?_; assumption) | (simp only [List.length_append, List.length_cons, List.length_nil, List.length_set] <;> omega) | decide, ?_⟩ | refine .inr ⟨by first | assumption | omega | with_reducible rfl | (refine fun h => h ?_; assumption) | (simp only [List.length_append, List.length_cons, List.length_nil, List.length_set] <;> omega) | decide, ?_⟩) | ((first | refine WPA.ifBt ?_ ?_ | refine WPA.ifBnf ?_ ?_); assumption) | ((first | refine WPA.ifBnt ?_ ?_ | refine WPA.ifBf ?_ ?_); assumption) | ((first | refine WPA.ifs ?_ ?_ | refine WPA.ifB ?_ ?_) <;> intro hc) | (guard_target =~ WPA _ _ _ (.region 4 _ true) _ _ _; refine WPA.drawT 14 (.q 0 (.q 1 (.q 2 (.q 3 (.q 4 (.q 5 (.q 6 (.q 7 (.q 8 (.q 9 (.q 10 (.q 11 (.q 12 (.q 13 .fin)))))))))))))) mixed ?_ ?_; kernel_rfl) | (refine WDA.finish (tl := [⟨_, _, _, _, _, _⟩, ⟨_, _, _, _, _, _⟩]) rfl ?_) | (refine WDQ.see rfl ?_) | (guard_target =~ WDQ _ _ _ _ _ _ _ ⟨_, .call ⟨.value (.func 90), _, _⟩, _, _, _, _⟩ _ _ _; refine WDQ.cq rfl rfl (cmpc_v hv) ?_))
        exact QQ.end_ rfl () rfl fun w h => h
      · rw [if_neg hy] at he
        have hv : (if at_ xs ((xs.length : Int) - (i : Int)) < at_ ys ((ys.length : Int) - (i : Int)) then -1 else if at_ ys ((ys.length : Int) - (i : Int)) < at_ xs ((xs.length : Int) - (i : Int)) then 1 else 0 : Int) = 0 := by rw [if_neg hx, if_neg hy]
        repeat' (first | ((first | refine WLA.m rfl rfl ?_ ?_ | refine WDQ.m rfl rfl ?_ ?_ | refine WLA.st rfl ?_ ?_ | refine WLA.x rfl rfl ?_ (fun x => ?_) | refine WLA.x0 rfl ?_ (fun x => ?_)); first | exact trivial | exact rfl | assumption | omega | (refine ⟨?_, ?_⟩ <;> omega) | (simp only [Room, List.length_set, List.length_append, List.length_cons, List.length_nil, List.length_replicate]; omega) | decide | skip) | (refine Stp.go ?_) | (guard_target =~ WLA _ _ _ _ _ (⟨_, .call ⟨.value (.func 90), _, _⟩, _, _, _, _⟩ :: _) _ _; refine WLA.cq rfl rfl (cmpc_v hv) ?_) | (refine WPA.ifT ?_) | (refine WPA.ifF ?_) | ((first | refine WPA.dec ?_); first | refine .inl ⟨by first | assumption | omega | with_reducible rfl | (refine fun h => h ?_; assumption) | (simp only [List.length_append, List.length_cons, List.length_nil, List.length_set] <;> omega) | decide, ?_⟩ | refine .inr ⟨by first | assumption | omega | with_reducible rfl | (refine fun h => h ?_; assumption) | (simp only [List.length_append, List.length_cons, List.length_nil, List.length_set] <;> omega) | decide, ?_⟩) | ((first | refine WPA.ifBt ?_ ?_ | refine WPA.ifBnf ?_ ?_); assumption) | ((first | refine WPA.ifBnt ?_ ?_ | refine WPA.ifBf ?_ ?_); assumption) | ((first | refine WPA.ifs ?_ ?_ | refine WPA.ifB ?_ ?_) <;> intro hc) | (guard_target =~ WPA _ _ _ (.region 4 _ true) _ _ _; refine WPA.drawT 14 (.q 0 (.q 1 (.q 2 (.q 3 (.q 4 (.q 5 (.q 6 (.q 7 (.q 8 (.q 9 (.q 10 (.q 11 (.q 12 (.q 13 .fin)))))))))))))) mixed ?_ ?_; kernel_rfl) | (refine WDA.finish (tl := [⟨_, _, _, _, _, _⟩, ⟨_, _, _, _, _, _⟩]) rfl ?_) | (refine WDQ.see rfl ?_) | (guard_target =~ WDQ _ _ _ _ _ _ _ ⟨_, .call ⟨.value (.func 90), _, _⟩, _, _, _, _⟩ _ _ _; refine WDQ.cq rfl rfl (cmpc_v hv) ?_))
        exact QQ.loopS (i + 1) ⟨rfl, rfl, rfl, trivial⟩ ⟨⟨by omega, by omega, by omega⟩, he⟩ (by omega) (fun w h => h)
  · have hlt' : ¬ (i : Int) ≤ min (xs.length : Int) (ys.length : Int) := by omega
    have hd : xs.reverse.drop (i - 1) = [] ∨ ys.reverse.drop (i - 1) = [] := by
      by_cases hc : i ≤ xs.length
      · exact .inr (List.drop_of_length_le (by rw [List.length_reverse]; omega))
      · exact .inl (List.drop_of_length_le (by rw [List.length_reverse]; omega))
    have hend := cmpL_end hd
    rw [he, List.length_drop, List.length_drop, List.length_reverse, List.length_reverse] at hend
    have q1 : ((xs.length - (i - 1) : Nat) : Int) < ((ys.length - (i - 1) : Nat) : Int) ↔ (xs.length : Int) < ys.length := by omega
    have q2 : ((ys.length - (i - 1) : Nat) : Int) < ((xs.length - (i - 1) : Nat) : Int) ↔ (ys.length : Int) < xs.length := by omega
    simp only [q1, q2] at hend
    have hv := hend.symm
    repeat' (first | ((first | refine WLA.m rfl rfl ?_ ?_ | refine WLA.st rfl ?_ ?_ | refine WLA.x rfl rfl ?_ (fun x => ?_) | refine WLA.x0 rfl ?_ (fun x => ?_)); first | exact trivial | exact rfl | assumption | omega | (refine ⟨?_, ?_⟩ <;> omega) | (simp only [Room, List.length_set, List.length_append, List.length_cons, List.length_nil, List.length_replicate]; omega) | decide | skip) | (refine Stp.go ?_) | (guard_target =~ WLA _ _ _ _ _ (⟨_, .call ⟨.value (.func 90), _, _⟩, _, _, _, _⟩ :: _) _ _; refine WLA.cq rfl rfl (cmpc_v hv) ?_) | (refine WPA.ifT ?_) | (refine WPA.ifF ?_) | ((first | refine WPA.dec ?_); first | refine .inl ⟨by first | assumption | omega | with_reducible rfl | (refine fun h => h ?_; assumption) | (simp only [List.length_append, List.length_cons, List.length_nil, List.length_set] <;> omega) | decide, ?_⟩ | refine .inr ⟨by first | assumption | omega | with_reducible rfl | (refine fun h => h ?_; assumption) | (simp only [List.length_append, List.length_cons, List.length_nil, List.length_set] <;> omega) | decide, ?_⟩) | ((first | refine WPA.ifBt ?_ ?_ | refine WPA.ifBnf ?_ ?_); assumption) | ((first | refine WPA.ifBnt ?_ ?_ | refine WPA.ifBf ?_ ?_); assumption) | ((first | refine WPA.ifs ?_ ?_ | refine WPA.ifB ?_ ?_) <;> intro hc))
    exact QQ.end_ rfl () rfl fun w h => h
theorem Turned_tr {a : SV} {xs : List Int} [ha : RdS I L a Int inferInstance xs] (hn : xs.length ≤ 1000000) :
    Tr Try.prog 33 #[.slice a.a a.n a.cap] (SL w0 I L) (fun r : SV => .slice r.a r.n r.cap) (fun r => SL w0 I (OwnS 3 r xs.reverse :: L)) := by
  refine Tr.intro Try.func33 rfl Try.ntmps33 rfl ?_
  repeat' (first | ((first | refine WLA.m rfl rfl ?_ ?_ | refine WLA.st rfl ?_ ?_ | refine WLA.x rfl rfl ?_ (fun x => ?_) | refine WLA.x0 rfl ?_ (fun x => ?_)); first | exact trivial | exact rfl | assumption | omega | (refine ⟨?_, ?_⟩ <;> omega) | (simp only [Room, List.length_set, List.length_append, List.length_cons, List.length_nil, List.length_replicate]; omega) | decide | skip) | (refine Stp.go ?_) | (refine WPA.ifT ?_) | (refine WPA.ifF ?_) | ((first | refine WPA.dec ?_); first | refine .inl ⟨by first | assumption | omega | with_reducible rfl | (refine fun h => h ?_; assumption) | (simp only [List.length_append, List.length_cons, List.length_nil, List.length_set] <;> omega) | decide, ?_⟩ | refine .inr ⟨by first | assumption | omega | with_reducible rfl | (refine fun h => h ?_; assumption) | (simp only [List.length_append, List.length_cons, List.length_nil, List.length_set] <;> omega) | decide, ?_⟩) | ((first | refine WPA.ifBt ?_ ?_ | refine WPA.ifBnf ?_ ?_); assumption) | ((first | refine WPA.ifBnt ?_ ?_ | refine WPA.ifBf ?_ ?_); assumption) | ((first | refine WPA.ifs ?_ ?_ | refine WPA.ifB ?_ ?_) <;> intro hc))
  refine WPA.loopS (σ := Nat × SV) (fun y => [(0, .slice a.a a.n a.cap), (3, .slice y.2.a y.2.n y.2.cap), (4, .int .i64 ((y.1 : Int) - 1))]) (fun y => y.1 ≤ xs.length)
    (fun y => SL w0 I (OwnS 3 y.2 (xs.drop y.1).reverse :: L)) (fun y => y.1) (xs.length, SV.nil) ⟨rfl, rfl, rfl, trivial⟩ (Nat.le_refl _) (fun w h => by
      rw [List.drop_length]
      show SL w0 I (OwnS 3 SV.nil ([] : List Int) :: L) w
      exact h.to) ?_
  rintro ⟨j, r⟩ ρ hj
  dsimp only at hj ⊢
  cases j with
  | zero =>
    have h0 : ¬ 0 ≤ (((0 : Nat) : Int) - 1) := by omega
    repeat' (first | ((first | refine WLA.m rfl rfl ?_ ?_ | refine WLA.st rfl ?_ ?_ | refine WLA.x rfl rfl ?_ (fun x => ?_) | refine WLA.x0 rfl ?_ (fun x => ?_)); first | exact trivial | exact rfl | assumption | omega | (refine ⟨?_, ?_⟩ <;> omega) | (simp only [Room, List.length_set, List.length_append, List.length_cons, List.length_nil, List.length_replicate]; omega) | decide | skip) | (refine Stp.go ?_) | (refine WPA.ifT ?_) | (refine WPA.ifF ?_) | ((first | refine WPA.dec ?_); first | refine .inl ⟨by first | assumption | omega | with_reducible rfl | (refine fun h => h ?_; assumption) | (simp only [List.length_append, List.length_cons, List.length_nil, List.length_set] <;> omega) | decide, ?_⟩ | refine .inr ⟨by first | assumption | omega | with_reducible rfl | (refine fun h => h ?_; assumption) | (simp only [List.length_append, List.length_cons, List.length_nil, List.length_set] <;> omega) | decide, ?_⟩) | ((first | refine WPA.ifBt ?_ ?_ | refine WPA.ifBnf ?_ ?_); assumption) | ((first | refine WPA.ifBnt ?_ ?_ | refine WPA.ifBf ?_ ?_); assumption) | ((first | refine WPA.ifs ?_ ?_ | refine WPA.ifB ?_ ?_) <;> intro hc))
    refine QQ.end_ rfl r rfl fun w h => ?_
    rw [List.drop_zero] at h
    exact h.to
  | succ j =>
    have h0 : 0 ≤ (((j + 1 : Nat) : Int) - 1) := by omega
    have h1 : (((j + 1 : Nat) : Int) - 1) < xs.length := by omega
    have ej : ((j + 1 : Nat) : Int) - 1 = (j : Int) := by omega
    have el : (xs.drop (j + 1)).reverse.length ≤ 1000000 := by rw [List.length_reverse, List.length_drop]; omega
    have e2 : (xs.drop j).reverse = (xs.drop (j + 1)).reverse ++ [at_ xs (j : Int)] := by
      rw [List.drop_eq_getElem_cons (show j < xs.length by omega), List.reverse_cons, at_nat xs j (by omega)]
    rw [ej] at h0 h1 ⊢
    repeat' (first | ((first | refine WLA.m rfl rfl ?_ ?_ | refine WLA.st rfl ?_ ?_ | refine WLA.x rfl rfl ?_ (fun x => ?_) | refine WLA.x0 rfl ?_ (fun x => ?_)); first | exact trivial | exact rfl | assumption | omega | (refine ⟨?_, ?_⟩ <;> omega) | (simp only [Room, List.length_set, List.length_append, List.length_cons, List.length_nil, List.length_replicate]; omega) | decide | skip) | (refine Stp.go ?_) | (refine WPA.ifT ?_) | (refine WPA.ifF ?_) | ((first | refine WPA.dec ?_); first | refine .inl ⟨by first | assumption | omega | with_reducible rfl | (refine fun h => h ?_; assumption) | (simp only [List.length_append, List.length_cons, List.length_nil, List.length_set] <;> omega) | decide, ?_⟩ | refine .inr ⟨by first | assumption | omega | with_reducible rfl | (refine fun h => h ?_; assumption) | (simp only [List.length_append, List.length_cons, List.length_nil, List.length_set] <;> omega) | decide, ?_⟩) | ((first | refine WPA.ifBt ?_ ?_ | refine WPA.ifBnf ?_ ?_); assumption) | ((first | refine WPA.ifBnt ?_ ?_ | refine WPA.ifBf ?_ ?_); assumption) | ((first | refine WPA.ifs ?_ ?_ | refine WPA.ifB ?_ ?_) <;> intro hc))
    refine QQ.loopS (j, x) ⟨rfl, rfl, rfl, trivial⟩ (by dsimp only; omega) (by dsimp only; omega) (fun w h => ?_)
    dsimp only
    rw [e2]
    exact h.to
end
end Go.Proofs.Ytlodbajaoadhdaa
