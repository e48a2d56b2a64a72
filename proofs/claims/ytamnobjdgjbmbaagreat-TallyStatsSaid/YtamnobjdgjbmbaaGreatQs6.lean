/- Texts that TallyStats_law leans on, part 6. Conditions: none. -/
import Derived.Test.YtamnobjdgjbmbaaGreatQs5
namespace Go.Proofs.YtamnobjdgjbmbaaGreat
open Go Go.Fw Go.RowKit
set_option linter.unusedVariables false
set_option linter.unusedSimpArgs false
set_option maxRecDepth 100000
set_option maxHeartbeats 16000000
set_option synthInstance.maxHeartbeats 200000
set_option synthInstance.maxSize 100000
attribute [local irreducible] WPA WLA WDA WDQ WDE QQ seqQ blockQ loopQ fnQ OpP OpT Tr TrP SL SLd OwnS LitS Bk BkE Ob
theorem sw_walk (l : List E) (i k : Nat) (hik : i ≠ k) : (l.set (i : Int).toNat (((at_ l (k : Int)).1.1, (at_ l (k : Int)).1.2), (at_ l (k : Int)).2)).set (k : Int).toNat (((at_ l (i : Int)).1.1, (at_ l (i : Int)).1.2), (at_ l (i : Int)).2) = swL l i k := rfl
theorem up_tr {ky : Cu → List Int} {p : Nat} {c z : Int} {es : List E} {L L' : List HP} {w0 : World} {I : Foot} [h : FindK L PileR p (es, c) L'] (i : Nat) (hz : z = i) (hi : i < es.length) (hn : es.length ≤ 1000000) (hg : ∀ e ∈ es, CurAt I e.1 (ky e.1)) (hu : UpF ky (atE es) es.length i) :
    Tr Tryz.prog 93 #[.pointer (some ⟨p, 0, none⟩), .int .i64 z] (SL w0 I L) (fun _ : { l : List E // l.Perm es ∧ HeapL ky l } => .tuple #[]) (fun y => SL w0 I (PileR p (y.1, c) :: L')) := by
  refine Tr.at h.out ?_
  subst hz
  refine Tr.intro Tryz.func93 rfl Tryz.ntmps93 rfl ?_
  refine WPA.block ?_
  refine WPA.loopS (σ := Nat × List E) (fun y => [(0, .pointer (some ⟨p, 0, none⟩)), (1, .int .i64 y.1)]) (fun y => y.1 < y.2.length ∧ y.2.Perm es ∧ UpF ky (atE y.2) y.2.length y.1)
    (fun y => SL w0 I (PileR p (y.2, c) :: L')) (fun y => y.1) (i, es) ⟨rfl, rfl, trivial⟩ ⟨hi, List.Perm.refl _, hu⟩ (fun _ h => h) ?_
  rintro ⟨i, l⟩ ρ ⟨hi, hp, hu⟩
  dsimp only at hi hp hu ⊢
  have hl : l.length = es.length := hp.length_eq
  have hgl : ∀ e ∈ l, CurAt I e.1 (ky e.1) := fun e he => hg e (hp.subset he)
  by_cases h0 : i = 0
  · subst h0
    repeat' (first | ((first | refine WLA.m rfl rfl ?_ ?_ | refine WDQ.m rfl rfl ?_ ?_ | refine WDP.m rfl rfl ?_ ?_ | refine WLA.st rfl ?_ ?_ | refine WLA.x rfl rfl ?_ (fun x => ?_) | refine WLA.x0 rfl ?_ (fun x => ?_) | refine WDW.x rfl rfl ?_ (fun x => ?_) | refine WDW.st rfl ?_ ?_); first | exact trivial | exact rfl | assumption | omega | (refine ⟨?_, ?_⟩ <;> omega) | (simp only [Room, lenS]; omega) | decide | skip) | (refine Stp.go ?_) | (refine WPA.ifT ?_) | (refine WPA.ifF ?_) | ((first | refine WPA.dec ?_); first | refine .inl ⟨by first | assumption | omega | with_reducible rfl | (refine fun h => h ?_; first | assumption | with_reducible rfl) | (simp only [lenS] <;> omega) | decide, ?_⟩ | refine .inr ⟨by first | assumption | omega | with_reducible rfl | (refine fun h => h ?_; first | assumption | with_reducible rfl) | (simp only [lenS] <;> omega) | decide, ?_⟩) | ((first | refine WPA.ifBt ?_ ?_ | refine WPA.ifBnf ?_ ?_); assumption) | ((first | refine WPA.ifBnt ?_ ?_ | refine WPA.ifBf ?_ ?_); assumption) | ((first | refine WPA.ifs ?_ ?_ | refine WPA.ifB ?_ ?_) <;> intro hc) | (guard_target =~ WPA _ _ _ (.region 3 _ true) _ _ _; refine WPA.drawT 26 (.p 0 (.p 1 (.p 2 (.q 3 (.p 4 (.p 5 (.p 6 (.p 7 (.q 8 (.p 9 (.p 10 (.p 11 (.p 12 (.q 13 (.p 14 (.q 15 (.q 16 (.p 17 (.p 18 (.p 19 (.q 20 (.p 21 (.q 22 (.q 23 (.q 24 (.w 25 .fin)))))))))))))))))))))))))) mixed ?_ ?_; kernel_rfl) | (refine WDA.finish (tl := [⟨_, _, _, _, _, _⟩, ⟨_, _, _, _, _, _⟩]) rfl ?_) | (refine WDQ.see rfl ?_) | (refine WDP.see rfl ?_) | (refine WDW.see rfl ?_))
    exact QQ.endn rfl ⟨l, hp, up_done hu (.inl rfl)⟩ rfl fun w h => h
  · have hpar : ((i : Int) - 1) / 2 = (par i : Nat) := by unfold par; omega
    have hpi : par i < i := by unfold par; omega
    have hne : i ≠ par i := by omega
    repeat' (first | ((first | refine WLA.m rfl rfl ?_ ?_ | refine WDQ.m rfl rfl ?_ ?_ | refine WDP.m rfl rfl ?_ ?_ | refine WLA.st rfl ?_ ?_ | refine WLA.x rfl rfl ?_ (fun x => ?_) | refine WLA.x0 rfl ?_ (fun x => ?_) | refine WDW.x rfl rfl ?_ (fun x => ?_) | refine WDW.st rfl ?_ ?_); first | exact trivial | exact rfl | assumption | omega | (refine ⟨?_, ?_⟩ <;> omega) | (simp only [Room, lenS]; omega) | decide | skip) | (refine Stp.go ?_) | (guard_target =~ WLA _ _ _ _ _ (⟨_, .call ⟨.value (.func 112), _, _⟩, _, _, _, _⟩ :: _) _ _; refine WLA.call rfl rfl (ahead_tr (i : Int) (((i : Int) - 1) / 2) (by omega) (by omega) hgl) ?_; rintro ⟨⟩; rw [hpar]; refine WLA.opn fun s => ?_) | (refine WPA.ifT ?_) | (refine WPA.ifF ?_) | ((first | refine WPA.dec ?_); first | refine .inl ⟨by first | assumption | omega | with_reducible rfl | (refine fun h => h ?_; first | assumption | with_reducible rfl) | (simp only [lenS] <;> omega) | decide, ?_⟩ | refine .inr ⟨by first | assumption | omega | with_reducible rfl | (refine fun h => h ?_; first | assumption | with_reducible rfl) | (simp only [lenS] <;> omega) | decide, ?_⟩) | ((first | refine WPA.ifBt ?_ ?_ | refine WPA.ifBnf ?_ ?_); assumption) | ((first | refine WPA.ifBnt ?_ ?_ | refine WPA.ifBf ?_ ?_); assumption) | ((first | refine WPA.ifs ?_ ?_ | refine WPA.ifB ?_ ?_) <;> intro hc) | (guard_target =~ WPA _ _ _ (.region 3 _ true) _ _ _; refine WPA.drawT 26 (.p 0 (.p 1 (.p 2 (.q 3 (.p 4 (.p 5 (.p 6 (.p 7 (.q 8 (.p 9 (.p 10 (.p 11 (.p 12 (.q 13 (.p 14 (.q 15 (.q 16 (.p 17 (.p 18 (.p 19 (.q 20 (.p 21 (.q 22 (.q 23 (.q 24 (.w 25 .fin)))))))))))))))))))))))))) mixed ?_ ?_; kernel_rfl) | (refine WDA.finish (tl := [⟨_, _, _, _, _, _⟩, ⟨_, _, _, _, _, _⟩]) rfl ?_) | (refine WDQ.see rfl ?_) | (refine WDP.see rfl ?_) | (refine WDW.see rfl ?_) | (guard_target =~ WDE _ _ _ _ _ _ _ ⟨_, .call ⟨.value (.func 112), _, _⟩, _, _, _, _⟩ _ _ _; refine WDE.call rfl rfl (ahead_tr (i : Int) (((i : Int) - 1) / 2) (by omega) (by omega) hgl) ?_ ?_; (intro x w h; first | exact h | exact Ent.drop1.sl h | exact SL.unI h | exact SL.to h); rintro ⟨⟩; rw [hpar]; refine WLA.opn fun s => ?_) | (guard_target =~ WDW _ _ _ _ _ _ _ ⟨_, .call ⟨.value (.func 112), _, _⟩, _, _, _, _⟩ _ _ _; refine WDW.call rfl rfl (ahead_tr (i : Int) (((i : Int) - 1) / 2) (by omega) (by omega) hgl) ?_; rintro ⟨⟩; rw [hpar]; refine WLA.opn fun s => ?_))
    · exact QQ.end_ rfl ⟨l, hp, up_done hu (.inr hc)⟩ rfl fun w h => h.to
    · rw [sw_walk _ _ _ hne]
      refine QQ.loopS (par i, swL l i (par i)) ⟨rfl, rfl, trivial⟩ ⟨by rw [swL_len]; dsimp only; omega, (sw_perm hi (by omega)).trans hp, ?_⟩ hpi (fun w h => h.to)
      rw [swL_len, atE_sw hi (by omega)]; exact up_step hu (by omega) hi (Classical.not_not.1 hc)
theorem down_tr {ky : Cu → List Int} {p : Nat} {c : Int} {es : List E} {L L' : List HP} {w0 : World} {I : Foot} [h : FindK L PileR p (es, c) L'] (hn : es.length ≤ 1000000) (hg : ∀ e ∈ es, CurAt I e.1 (ky e.1)) (hu : DownF ky (atE es) es.length 0) :
    Tr Tryz.prog 114 #[.pointer (some ⟨p, 0, none⟩), .int .i64 0] (SL w0 I L) (fun _ : { l : List E // l.Perm es ∧ HeapL ky l } => .tuple #[]) (fun y => SL w0 I (PileR p (y.1, c) :: L')) := by
  refine Tr.at h.out ?_
  refine Tr.intro Tryz.func114 rfl Tryz.ntmps114 rfl ?_
  refine WPA.block ?_
  refine WPA.loopS (σ := Nat × List E) (fun y => [(0, .pointer (some ⟨p, 0, none⟩)), (1, .int .i64 y.1)]) (fun y => (y.1 < y.2.length ∨ y.1 = 0) ∧ y.2.Perm es ∧ DownF ky (atE y.2) y.2.length y.1)
    (fun y => SL w0 I (PileR p (y.2, c) :: L')) (fun y => es.length - y.1) (0, es) ⟨rfl, rfl, trivial⟩ ⟨.inr rfl, List.Perm.refl _, hu⟩ (fun _ h => h) ?_
  rintro ⟨i, l⟩ ρ ⟨hi, hp, hu⟩
  dsimp only at hi hp hu ⊢
  have hl : l.length = es.length := hp.length_eq
  have hgl : ∀ e ∈ l, CurAt I e.1 (ky e.1) := fun e he => hg e (hp.subset he)
  repeat' (first | ((first | refine WLA.m rfl rfl ?_ ?_ | refine WDQ.m rfl rfl ?_ ?_ | refine WDP.m rfl rfl ?_ ?_ | refine WLA.st rfl ?_ ?_ | refine WLA.x rfl rfl ?_ (fun x => ?_) | refine WLA.x0 rfl ?_ (fun x => ?_) | refine WDW.x rfl rfl ?_ (fun x => ?_) | refine WDW.st rfl ?_ ?_); first | exact trivial | exact rfl | assumption | omega | (refine ⟨?_, ?_⟩ <;> omega) | (simp only [Room, lenS]; omega) | decide | skip) | (refine Stp.go ?_) | (refine WPA.ifT ?_) | (refine WPA.ifF ?_) | (refine WLA.no rfl rfl ?_) | ((first | refine WPA.dec ?_ | ((fail_if_success (guard_target =~ WLA _ _ _ _ _ _ (put1 _ _ (.bool true)) _)); (fail_if_success (guard_target =~ WLA _ _ _ _ _ _ (put1 _ _ (.bool false)) _)); refine WLA.dec rfl rfl ?_) | refine WLA.pk ?_); first | refine .inl ⟨by first | assumption | omega | with_reducible rfl | (refine fun h => h ?_; first | assumption | with_reducible rfl) | (simp only [lenS] <;> omega) | decide, ?_⟩ | refine .inr ⟨by first | assumption | omega | with_reducible rfl | (refine fun h => h ?_; first | assumption | with_reducible rfl) | (simp only [lenS] <;> omega) | decide, ?_⟩) | ((first | refine WPA.ifBt ?_ ?_ | refine WPA.ifBnf ?_ ?_); assumption) | ((first | refine WPA.ifBnt ?_ ?_ | refine WPA.ifBf ?_ ?_); assumption) | ((first | refine WPA.ifs ?_ ?_ | refine WPA.ifB ?_ ?_) <;> intro hc) | ((fail_if_success (guard_target =~ WLA _ _ _ _ _ _ (put1 _ _ (.bool true)) _)); (fail_if_success (guard_target =~ WLA _ _ _ _ _ _ (put1 _ _ (.bool false)) _)); (first | refine WLA.both rfl rfl ?_ ?_ | refine WLA.bothB rfl rfl ?_ ?_) <;> intro hg) | (guard_target =~ WPA _ _ _ (.region 7 _ true) _ _ _; refine WPA.drawT 26 (.p 0 (.p 1 (.p 2 (.q 3 (.p 4 (.p 5 (.p 6 (.p 7 (.q 8 (.p 9 (.p 10 (.p 11 (.p 12 (.q 13 (.p 14 (.q 15 (.q 16 (.p 17 (.p 18 (.p 19 (.q 20 (.p 21 (.q 22 (.q 23 (.q 24 (.w 25 .fin)))))))))))))))))))))))))) mixed ?_ ?_; kernel_rfl) | (refine WDA.finish (tl := [⟨_, _, _, _, _, _⟩, ⟨_, _, _, _, _, _⟩]) rfl ?_) | (refine WDQ.see rfl ?_) | (refine WDP.see rfl ?_) | (refine WDW.see rfl ?_))
  -- the children, one behind the other: the least so far
  refine WPA.loopS (σ := Nat × Nat) (fun y => [(0, .pointer (some ⟨p, 0, none⟩)), (1, .int .i64 i), (4, .int .i64 y.2), (5, .int .i64 y.1)])
    (fun y => 2 * i + 1 ≤ y.1 ∧ y.1 ≤ 2 * i + 3 ∧ (y.2 = i ∨ (y.2 < y.1 ∧ y.2 < l.length ∧ 0 < y.2 ∧ par y.2 = i ∧ ltE ky (atE l y.2) (atE l i))) ∧ ∀ k, 2 * i + 1 ≤ k → k < y.1 → k < l.length → ¬ ltE ky (atE l k) (atE l y.2))
    (fun y => SL w0 I (PileR p (l, c) :: L')) (fun y => 2 * i + 3 - y.1) (2 * i + 1, i) ⟨rfl, rfl, rfl, congrArg (Value.int .i64) (by omega : (2 * (i : Int) + 1) = ((2 * i + 1 : Nat) : Int)), trivial⟩ ⟨by simp, by simp, .inl rfl, fun k h1 h2 => by dsimp only at h2; omega⟩ (fun _ h => h) ?_
  rintro ⟨k, m⟩ ρ ⟨hk1, hk2, hm, hmin⟩
  dsimp only at hk1 hk2 hm hmin ⊢
  refine WPA.opn fun s => ?_
  by_cases hr : k ≤ 2 * i + 2 ∧ k < l.length
  · obtain ⟨hr1, hr2⟩ := hr
    have hm2 : m < l.length := by omega
    have hpk : par k = i := by unfold par; omega
    repeat' (first | ((first | refine WLA.m rfl rfl ?_ ?_ | refine WDQ.m rfl rfl ?_ ?_ | refine WDP.m rfl rfl ?_ ?_ | refine WLA.st rfl ?_ ?_ | refine WLA.x rfl rfl ?_ (fun x => ?_) | refine WLA.x0 rfl ?_ (fun x => ?_) | refine WDW.x rfl rfl ?_ (fun x => ?_) | refine WDW.st rfl ?_ ?_); first | exact trivial | exact rfl | assumption | omega | (refine ⟨?_, ?_⟩ <;> omega) | (simp only [Room, lenS]; omega) | decide | skip) | (refine Stp.go ?_) | (guard_target =~ WLA _ _ _ _ _ (⟨_, .call ⟨.value (.func 112), _, _⟩, _, _, _, _⟩ :: _) _ _; refine WLA.call rfl rfl (ahead_tr (k : Int) (m : Int) (by omega) (by omega) hgl) ?_; rintro ⟨⟩) | (refine WPA.ifT ?_) | (refine WPA.ifF ?_) | (refine WLA.no rfl rfl ?_) | ((first | refine WPA.dec ?_ | ((fail_if_success (guard_target =~ WLA _ _ _ _ _ _ (put1 _ _ (.bool true)) _)); (fail_if_success (guard_target =~ WLA _ _ _ _ _ _ (put1 _ _ (.bool false)) _)); refine WLA.dec rfl rfl ?_) | refine WLA.pk ?_); first | refine .inl ⟨by first | assumption | omega | with_reducible rfl | (refine fun h => h ?_; first | assumption | with_reducible rfl) | (simp only [lenS] <;> omega) | decide, ?_⟩ | refine .inr ⟨by first | assumption | omega | with_reducible rfl | (refine fun h => h ?_; first | assumption | with_reducible rfl) | (simp only [lenS] <;> omega) | decide, ?_⟩) | ((first | refine WPA.ifBt ?_ ?_ | refine WPA.ifBnf ?_ ?_); assumption) | ((first | refine WPA.ifBnt ?_ ?_ | refine WPA.ifBf ?_ ?_); assumption) | ((first | refine WPA.ifs ?_ ?_ | refine WPA.ifB ?_ ?_) <;> intro hc) | ((fail_if_success (guard_target =~ WLA _ _ _ _ _ _ (put1 _ _ (.bool true)) _)); (fail_if_success (guard_target =~ WLA _ _ _ _ _ _ (put1 _ _ (.bool false)) _)); (first | refine WLA.both rfl rfl ?_ ?_ | refine WLA.bothB rfl rfl ?_ ?_) <;> intro hg) | (guard_target =~ WPA _ _ _ (.region 7 _ true) _ _ _; refine WPA.drawT 26 (.p 0 (.p 1 (.p 2 (.q 3 (.p 4 (.p 5 (.p 6 (.p 7 (.q 8 (.p 9 (.p 10 (.p 11 (.p 12 (.q 13 (.p 14 (.q 15 (.q 16 (.p 17 (.p 18 (.p 19 (.q 20 (.p 21 (.q 22 (.q 23 (.q 24 (.w 25 .fin)))))))))))))))))))))))))) mixed ?_ ?_; kernel_rfl) | (refine WDA.finish (tl := [⟨_, _, _, _, _, _⟩, ⟨_, _, _, _, _, _⟩]) rfl ?_) | (refine WDQ.see rfl ?_) | (refine WDP.see rfl ?_) | (refine WDW.see rfl ?_) | (guard_target =~ WDE _ _ _ _ _ _ _ ⟨_, .call ⟨.value (.func 112), _, _⟩, _, _, _, _⟩ _ _ _; refine WDE.call rfl rfl (ahead_tr (k : Int) (m : Int) (by omega) (by omega) hgl) ?_ ?_; (intro x w h; first | exact h | exact Ent.drop1.sl h | exact SL.unI h | exact SL.to h); rintro ⟨⟩) | (guard_target =~ WDW _ _ _ _ _ _ _ ⟨_, .call ⟨.value (.func 112), _, _⟩, _, _, _, _⟩ _ _ _; refine WDW.call rfl rfl (ahead_tr (k : Int) (m : Int) (by omega) (by omega) hgl) ?_; rintro ⟨⟩))
    · refine QQ.loopS (k + 1, k) ⟨rfl, rfl, rfl, rfl, trivial⟩ ⟨by dsimp only; omega, by dsimp only; omega, .inr ⟨by dsimp only; omega, hr2, by dsimp only; omega, hpk, ?_⟩, fun q h1 h2 h3 => ?_⟩ (by dsimp only; omega) (fun w h => h)
      · rcases hm with rfl | ⟨_, _, _, _, h5⟩
        · exact hc
        · exact ltE_tt hc h5
      · rcases Nat.lt_or_ge q k with h4 | h4
        · have h5 := hmin q h1 h4 h3; exact leE_tr (ltE_as hc) h5
        · have : q = k := by dsimp only at h2; omega
          subst this; exact ltE_irr _
    · refine QQ.loopS (k + 1, m) ⟨rfl, rfl, rfl, rfl, trivial⟩ ⟨by dsimp only; omega, by dsimp only; omega, hm.imp id (fun h => ⟨by dsimp only; omega, h.2⟩), fun q h1 h2 h3 => ?_⟩ (by dsimp only; omega) (fun w h => h)
      rcases Nat.lt_or_ge q k with h4 | h4
      · exact hmin q h1 h4 h3
      · have : q = k := by dsimp only at h2; omega
        subst this; exact hc
  · have hall : ∀ q, 2 * i + 1 ≤ q → q < l.length → par q = i → ¬ ltE ky (atE l q) (atE l m) := fun q h1 h2 h3 => hmin q h1 (by unfold par at h3; omega) h2
    have hch : ∀ q, 0 < q → q < l.length → par q = i → ¬ ltE ky (atE l q) (atE l m) := fun q h0 h1 h2 => hall q (by unfold par at h2; omega) h1 h2
    by_cases hmi : m = i
    · subst hmi
      repeat' (first | ((first | refine WLA.m rfl rfl ?_ ?_ | refine WDQ.m rfl rfl ?_ ?_ | refine WDP.m rfl rfl ?_ ?_ | refine WLA.st rfl ?_ ?_ | refine WLA.x rfl rfl ?_ (fun x => ?_) | refine WLA.x0 rfl ?_ (fun x => ?_) | refine WDW.x rfl rfl ?_ (fun x => ?_) | refine WDW.st rfl ?_ ?_); first | exact trivial | exact rfl | assumption | omega | (refine ⟨?_, ?_⟩ <;> omega) | (simp only [Room, lenS]; omega) | decide | skip) | (refine Stp.go ?_) | (refine WPA.ifT ?_) | (refine WPA.ifF ?_) | (refine WLA.no rfl rfl ?_) | ((first | refine WPA.dec ?_ | ((fail_if_success (guard_target =~ WLA _ _ _ _ _ _ (put1 _ _ (.bool true)) _)); (fail_if_success (guard_target =~ WLA _ _ _ _ _ _ (put1 _ _ (.bool false)) _)); refine WLA.dec rfl rfl ?_) | refine WLA.pk ?_); first | refine .inl ⟨by first | assumption | omega | with_reducible rfl | (refine fun h => h ?_; first | assumption | with_reducible rfl) | (simp only [lenS] <;> omega) | decide, ?_⟩ | refine .inr ⟨by first | assumption | omega | with_reducible rfl | (refine fun h => h ?_; first | assumption | with_reducible rfl) | (simp only [lenS] <;> omega) | decide, ?_⟩) | ((first | refine WPA.ifBt ?_ ?_ | refine WPA.ifBnf ?_ ?_); assumption) | ((first | refine WPA.ifBnt ?_ ?_ | refine WPA.ifBf ?_ ?_); assumption) | ((first | refine WPA.ifs ?_ ?_ | refine WPA.ifB ?_ ?_) <;> intro hc) | ((fail_if_success (guard_target =~ WLA _ _ _ _ _ _ (put1 _ _ (.bool true)) _)); (fail_if_success (guard_target =~ WLA _ _ _ _ _ _ (put1 _ _ (.bool false)) _)); (first | refine WLA.both rfl rfl ?_ ?_ | refine WLA.bothB rfl rfl ?_ ?_) <;> intro hg) | (guard_target =~ WPA _ _ _ (.region 7 _ true) _ _ _; refine WPA.drawT 26 (.p 0 (.p 1 (.p 2 (.q 3 (.p 4 (.p 5 (.p 6 (.p 7 (.q 8 (.p 9 (.p 10 (.p 11 (.p 12 (.q 13 (.p 14 (.q 15 (.q 16 (.p 17 (.p 18 (.p 19 (.q 20 (.p 21 (.q 22 (.q 23 (.q 24 (.w 25 .fin)))))))))))))))))))))))))) mixed ?_ ?_; kernel_rfl) | (refine WDA.finish (tl := [⟨_, _, _, _, _, _⟩, ⟨_, _, _, _, _, _⟩]) rfl ?_) | (refine WDQ.see rfl ?_) | (refine WDP.see rfl ?_) | (refine WDW.see rfl ?_))
      all_goals exact QQ.end_ rfl ⟨l, hp, down_done hu hch⟩ rfl fun w h => h.to
    · obtain ⟨hm1, hm2, hm3, hm4, hm5⟩ := hm.resolve_left hmi
      have him : i < m := by unfold par at hm4; omega
      have hmi2 : ¬ (m : Int) = i := by omega
      have him2 : i ≠ m := by omega
      repeat' (first | ((first | refine WLA.m rfl rfl ?_ ?_ | refine WDQ.m rfl rfl ?_ ?_ | refine WDP.m rfl rfl ?_ ?_ | refine WLA.st rfl ?_ ?_ | refine WLA.x rfl rfl ?_ (fun x => ?_) | refine WLA.x0 rfl ?_ (fun x => ?_) | refine WDW.x rfl rfl ?_ (fun x => ?_) | refine WDW.st rfl ?_ ?_); first | exact trivial | exact rfl | assumption | omega | (refine ⟨?_, ?_⟩ <;> omega) | (simp only [Room, lenS]; omega) | decide | skip) | (refine Stp.go ?_) | (refine WPA.ifT ?_) | (refine WPA.ifF ?_) | (refine WLA.no rfl rfl ?_) | ((first | refine WPA.dec ?_ | ((fail_if_success (guard_target =~ WLA _ _ _ _ _ _ (put1 _ _ (.bool true)) _)); (fail_if_success (guard_target =~ WLA _ _ _ _ _ _ (put1 _ _ (.bool false)) _)); refine WLA.dec rfl rfl ?_) | refine WLA.pk ?_); first | refine .inl ⟨by first | assumption | omega | with_reducible rfl | (refine fun h => h ?_; first | assumption | with_reducible rfl) | (simp only [lenS] <;> omega) | decide, ?_⟩ | refine .inr ⟨by first | assumption | omega | with_reducible rfl | (refine fun h => h ?_; first | assumption | with_reducible rfl) | (simp only [lenS] <;> omega) | decide, ?_⟩) | ((first | refine WPA.ifBt ?_ ?_ | refine WPA.ifBnf ?_ ?_); assumption) | ((first | refine WPA.ifBnt ?_ ?_ | refine WPA.ifBf ?_ ?_); assumption) | ((first | refine WPA.ifs ?_ ?_ | refine WPA.ifB ?_ ?_) <;> intro hc) | ((fail_if_success (guard_target =~ WLA _ _ _ _ _ _ (put1 _ _ (.bool true)) _)); (fail_if_success (guard_target =~ WLA _ _ _ _ _ _ (put1 _ _ (.bool false)) _)); (first | refine WLA.both rfl rfl ?_ ?_ | refine WLA.bothB rfl rfl ?_ ?_) <;> intro hg) | (guard_target =~ WPA _ _ _ (.region 7 _ true) _ _ _; refine WPA.drawT 26 (.p 0 (.p 1 (.p 2 (.q 3 (.p 4 (.p 5 (.p 6 (.p 7 (.q 8 (.p 9 (.p 10 (.p 11 (.p 12 (.q 13 (.p 14 (.q 15 (.q 16 (.p 17 (.p 18 (.p 19 (.q 20 (.p 21 (.q 22 (.q 23 (.q 24 (.w 25 .fin)))))))))))))))))))))))))) mixed ?_ ?_; kernel_rfl) | (refine WDA.finish (tl := [⟨_, _, _, _, _, _⟩, ⟨_, _, _, _, _, _⟩]) rfl ?_) | (refine WDQ.see rfl ?_) | (refine WDP.see rfl ?_) | (refine WDW.see rfl ?_))
      all_goals
        rw [sw_walk _ _ _ him2]
        refine QQ.loopS (m, swL l i m) ⟨rfl, rfl, trivial⟩ ⟨.inl (by rw [swL_len]; exact hm2), (sw_perm (by omega) hm2).trans hp, ?_⟩ (by dsimp only; omega) (fun w h => h.to)
        rw [swL_len, atE_sw (by omega) hm2]
        exact down_step hu hm2 hm3 hm4 hm5 hch
end Go.Proofs.YtamnobjdgjbmbaaGreat
namespace Go.Proofs.YtamnobjdgjbmbaaGreat
open Go Go.Fw Go.RowKit
set_option linter.unusedVariables false
set_option linter.unusedSimpArgs false
set_option maxRecDepth 100000
set_option maxHeartbeats 16000000
set_option synthInstance.maxHeartbeats 200000
set_option synthInstance.maxSize 100000
attribute [local irreducible] WPA WLA WDA WDQ WDE QQ seqQ blockQ loopQ fnQ OpP OpT Tr TrP SL SLd OwnS LitS Bk BkE Ob
theorem atE_get (l : List E) (k : Nat) (h : k < l.length) : atE l k = l[k] := by simp [atE, List.getD_eq_getElem?_getD, h]
section
variable {ky : Cu → List Int}
theorem heap_up {es : List E} (h : HeapL ky es) (a : E) : UpF ky (atE (es ++ [a])) (es.length + 1) es.length := by
  refine ⟨fun k h0 hk hne => ?_, fun k h0 hk hp _ => ?_⟩
  · have hk' : k < es.length := by omega
    have hp : par k < es.length := by unfold par; omega
    have := h k h0 hk'
    have e : ∀ q, q < es.length → atE (es ++ [a]) q = atE es q := fun q hq => by
      simp [atE, List.getD_eq_getElem?_getD, List.getElem?_append, hq]
    rw [e k hk', e _ hp]; exact this
  · unfold par at hp; omega
theorem heap_down {es : List E} (hh : HeapL ky es) (hne : 0 < es.length) : DownF ky (atE ((es.set 0 (atE es (es.length - 1))).take (es.length - 1))) (es.length - 1) 0 := by
  refine ⟨fun k h0 hk hp => ?_, fun k _ _ _ h => by omega⟩
  have hpk : par k < k := by unfold par; omega
  have e : ∀ q, q < es.length - 1 → q ≠ 0 → atE ((es.set 0 (atE es (es.length - 1))).take (es.length - 1)) q = atE es q := fun q hq h0 => by
    simp only [atE, List.getD_eq_getElem?_getD, List.getElem?_take, hq, if_true, List.getElem?_set, show ¬ 0 = q by omega, if_false]
  rw [e k hk (by omega), e _ (by omega) hp]
  exact hh k h0 (by omega)
theorem pop_perm {es : List E} (hne : 0 < es.length) : (atE es 0 :: ((es.set 0 (atE es (es.length - 1))).take (es.length - 1))).Perm es := by
  cases es with
  | nil => simp at hne
  | cons a t =>
    have e0 : atE (a :: t) 0 = a := rfl
    simp only [List.length_cons, Nat.add_sub_cancel, List.set_cons_zero, e0]
    refine List.Perm.cons a ?_
    rcases List.eq_nil_or_concat t with rfl | ⟨t', b, rfl⟩
    · simp
    · have e : atE (a :: (t' ++ [b])) (t' ++ [b]).length = b := by simp [atE, List.getD_eq_getElem?_getD]
      rw [List.concat_eq_append, e]
      simp only [List.length_append, List.length_singleton, List.take_succ_cons]
      rw [List.take_left]
      exact (List.perm_append_singleton b t').symm
end
def PileM (ky : Cu → List Int) (p : Nat) (x : List Cu × Nat) : HP := exH fun es : List E => pureH (HeapL ky es ∧ (es.map Prod.fst).Perm x.1) (PileR p (es, (x.2 : Int)))
instance {ky : Cu → List Int} {p : Nat} {x : List Cu × Nat} : Opn (PileM ky p x) { es : List E // HeapL ky es ∧ (es.map Prod.fst).Perm x.1 } (fun es L => PileR p (es.1, (x.2 : Int)) :: L) := ⟨fun w0 I L w h => by
  obtain ⟨es, h⟩ := h.exH; exact ⟨⟨es, h.pureH.1⟩, h.pureH.2⟩⟩
theorem PileM.fold {ky : Cu → List Int} {p c : Nat} {z : Int} {l : List Cu} {es : List E} {L : List HP} (h : HeapL ky es) (hp : (es.map Prod.fst).Perm l) (hz : z = c) : Ent (PileR p (es, z) :: L) (PileM ky p (l, c) :: L) := by
  subst hz; exact Ent.ex es (Ent.pure ⟨h, hp⟩ Ent.refl)
section
variable {ky : Cu → List Int} {L L' : List HP} {w0 : World} {I : Foot}
theorem New_trM (ky : Cu → List Int) (w0 : World) (I : Foot) (L : List HP) : Tr Tryz.prog 64 #[] (SL w0 I L) (fun p : Nat => .pointer (some ⟨p, 0, none⟩)) (fun p => SL w0 I (PileM ky p ([], 0) :: L)) :=
  (pNew_tr w0 I L).conv (fun _ h => h) fun p w h => ⟨p, rfl, (PileM.fold (fun k h0 hk => by simp at hk) (by simp) rfl).sl h⟩
theorem Push_trM {p c : Nat} {l : List Cu} {a : Cu} [h : FindK L (PileM ky) p (l, c) L'] (hc : c ≤ 100000) (hn : l.length ≤ 100000) (hg : ∀ q ∈ l, CurAt I q (ky q)) (ha : CurAt I a (ky a)) :
    Tr Tryz.prog 65 #[.pointer (some ⟨p, 0, none⟩), .agg #[.slice a.1.a a.1.n a.1.cap, .int .i64 a.2]] (SL w0 I L) (fun _ : Unit => .tuple #[]) (fun _ => SL w0 I (PileM ky p (a :: l, c + 1) :: L')) := by
  refine Tr.at h.out (Tr.opn ?_)
  rintro ⟨es, hh, hp⟩
  dsimp only at hp ⊢
  have hl : es.length = l.length := by have := hp.length_eq; simpa using this
  refine Tr.opn fun s => ?_
  refine Tr.intro Tryz.func65 rfl Tryz.ntmps65 rfl ?_
  have hu := heap_up hh (a, (c : Int))
  have hge : ∀ e ∈ es ++ [(a, (c : Int))], CurAt I e.1 (ky e.1) := by
    intro e he
    rcases List.mem_append.1 he with he | he
    · exact hg _ (hp.subset (List.mem_map.2 ⟨e, he, rfl⟩))
    · rw [List.mem_singleton.1 he]; exact ha
  repeat' (first | ((first | refine WLA.m rfl rfl ?_ ?_ | refine WDQ.m rfl rfl ?_ ?_ | refine WDP.m rfl rfl ?_ ?_ | refine WLA.st rfl ?_ ?_ | refine WLA.x rfl rfl ?_ (fun x => ?_) | refine WLA.x0 rfl ?_ (fun x => ?_) | refine WDW.x rfl rfl ?_ (fun x => ?_) | refine WDW.st rfl ?_ ?_); first | exact trivial | exact rfl | assumption | omega | (refine ⟨?_, ?_⟩ <;> omega) | (simp only [Room, lenS]; omega) | decide | skip) | (refine Stp.go ?_) | (guard_target =~ WLA _ _ _ _ _ (⟨_, .call ⟨.value (.func 93), _, _⟩, _, _, _, _⟩ :: _) _ _; refine WLA.call rfl rfl (up_tr es.length (by simp only [List.length_append, List.length_singleton]; omega) (by simp) (by simp; omega) hge (by simpa using hu)) ?_; rintro ⟨es', hp', hh'⟩) | (refine WPA.ifT ?_) | (refine WPA.ifF ?_) | ((first | refine WPA.dec ?_); first | refine .inl ⟨by first | assumption | omega | with_reducible rfl | (refine fun h => h ?_; first | assumption | with_reducible rfl) | (simp only [lenS] <;> omega) | decide, ?_⟩ | refine .inr ⟨by first | assumption | omega | with_reducible rfl | (refine fun h => h ?_; first | assumption | with_reducible rfl) | (simp only [lenS] <;> omega) | decide, ?_⟩) | ((first | refine WPA.ifBt ?_ ?_ | refine WPA.ifBnf ?_ ?_); assumption) | ((first | refine WPA.ifBnt ?_ ?_ | refine WPA.ifBf ?_ ?_); assumption) | ((first | refine WPA.ifs ?_ ?_ | refine WPA.ifB ?_ ?_) <;> intro hc) | (guard_target =~ WPA _ _ _ (.region 2 _ true) _ _ _; refine WPA.drawT 13 (.p 0 (.p 1 (.p 2 (.p 3 (.q 4 (.q 5 (.p 6 (.p 7 (.p 8 (.q 9 (.p 10 (.e 11 (.w 12 .fin))))))))))))) mixed ?_ ?_; kernel_rfl) | (refine WDA.finish (tl := [⟨_, _, _, _, _, _⟩, ⟨_, _, _, _, _, _⟩, ⟨_, _, _, _, _, _⟩]) rfl ?_) | (refine WDQ.see rfl ?_) | (refine WDP.see rfl ?_) | (refine WDW.see rfl ?_) | (refine WDE.see rfl ?_) | (refine WDE.alloc rfl rfl (fun w h => h) (fun x => ?_)) | (refine WDE.stE rfl ?_) | (refine WDE.x rfl rfl ?_ ?_ (fun x => ?_); rotate_left 1; (intro x w h; first | exact h | exact Ent.drop1.sl h | exact SL.unI h | exact SL.to h); rotate_left 1; first | exact trivial | exact rfl | assumption | omega | (refine ⟨?_, ?_⟩ <;> omega) | (simp only [Room, lenS]; omega) | decide | skip) | (guard_target =~ WDE _ _ _ _ _ _ _ ⟨_, .call ⟨.value (.func 93), _, _⟩, _, _, _, _⟩ _ _ _; refine WDE.call rfl rfl (up_tr es.length (by simp only [List.length_append, List.length_singleton]; omega) (by simp) (by simp; omega) hge (by simpa using hu)) ?_ ?_; (intro x w h; first | exact h | exact Ent.drop1.sl h | exact SL.unI h | exact SL.to h); rintro ⟨es', hp', hh'⟩) | (guard_target =~ WDW _ _ _ _ _ _ _ ⟨_, .call ⟨.value (.func 93), _, _⟩, _, _, _, _⟩ _ _ _; refine WDW.call rfl rfl (up_tr es.length (by simp only [List.length_append, List.length_singleton]; omega) (by simp) (by simp; omega) hge (by simpa using hu)) ?_; rintro ⟨es', hp', hh'⟩))
  refine QQ.endn rfl () rfl fun w h => (PileM.fold (z := (c : Int) + 1) hh' ?_ (by omega)).sl h.to
  have h1 := hp'.map Prod.fst
  rw [List.map_append] at h1
  exact h1.trans ((List.perm_append_singleton a _).trans (hp.cons a))
theorem Top_trR {p : Nat} {es : List E} {c : Int} [h : FindK L PileR p (es, c) L'] (hn : es.length ≤ 1000000) (h0 : es ≠ []) :
    Tr Tryz.prog 113 #[.pointer (some ⟨p, 0, none⟩)] (SL w0 I L) (fun _ : Unit => .tuple #[.agg #[.slice (at_ es 0).1.1.a (at_ es 0).1.1.n (at_ es 0).1.1.cap, .int .i64 (at_ es 0).1.2], .bool true]) (fun _ => SL w0 I (PileR p (es, c) :: L')) := by
  refine Tr.at h.out ?_
  refine Tr.intro Tryz.func113 rfl Tryz.ntmps113 rfl ?_
  have hpos : 0 < es.length := List.length_pos_iff.2 h0
  have he : ¬ (es.length : Int) = 0 := by omega
  refine WPA.opn fun s => ?_
  repeat' (first | ((first | refine WLA.m rfl rfl ?_ ?_ | refine WLA.st rfl ?_ ?_ | refine WLA.x rfl rfl ?_ (fun x => ?_) | refine WLA.x0 rfl ?_ (fun x => ?_)); first | exact trivial | exact rfl | assumption | omega | (refine ⟨?_, ?_⟩ <;> omega) | (simp only [Room, lenS]; omega) | decide | skip) | (refine Stp.go ?_) | (guard_target =~ WLA _ _ _ _ _ (⟨_, .call ⟨.value (.func 122), _, _⟩, _, _, _, _⟩ :: _) _ _; refine WLA.cq rfl rfl (Len_tr) ?_) | (refine WPA.ifT ?_) | (refine WPA.ifF ?_) | ((first | refine WPA.dec ?_); first | refine .inl ⟨by first | assumption | omega | with_reducible rfl | (refine fun h => h ?_; first | assumption | with_reducible rfl) | (simp only [lenS] <;> omega) | decide, ?_⟩ | refine .inr ⟨by first | assumption | omega | with_reducible rfl | (refine fun h => h ?_; first | assumption | with_reducible rfl) | (simp only [lenS] <;> omega) | decide, ?_⟩) | ((first | refine WPA.ifBt ?_ ?_ | refine WPA.ifBnf ?_ ?_); assumption) | ((first | refine WPA.ifBnt ?_ ?_ | refine WPA.ifBf ?_ ?_); assumption) | ((first | refine WPA.ifs ?_ ?_ | refine WPA.ifB ?_ ?_) <;> intro hc))
  exact QQ.endc rfl () rfl fun w h => h.to
theorem Top_trN {p : Nat} {c : Int} [h : FindK L PileR p (([] : List E), c) L'] :
    Tr Tryz.prog 113 #[.pointer (some ⟨p, 0, none⟩)] (SL w0 I L) (fun _ : Unit => .tuple #[.agg #[.slice none 0 0, .int .i64 0], .bool false]) (fun _ => SL w0 I (PileR p ([], c) :: L')) := by
  refine Tr.at h.out ?_
  refine Tr.intro Tryz.func113 rfl Tryz.ntmps113 rfl ?_
  have he : (([] : List E).length : Int) = 0 := rfl
  repeat' (first | ((first | refine WLA.m rfl rfl ?_ ?_ | refine WLA.st rfl ?_ ?_ | refine WLA.x rfl rfl ?_ (fun x => ?_) | refine WLA.x0 rfl ?_ (fun x => ?_)); first | exact trivial | exact rfl | assumption | omega | (refine ⟨?_, ?_⟩ <;> omega) | (simp only [Room, lenS]; omega) | decide | skip) | (refine Stp.go ?_) | (guard_target =~ WLA _ _ _ _ _ (⟨_, .call ⟨.value (.func 122), _, _⟩, _, _, _, _⟩ :: _) _ _; refine WLA.cq rfl rfl (Len_tr) ?_) | (refine WPA.ifT ?_) | (refine WPA.ifF ?_) | ((first | refine WPA.dec ?_); first | refine .inl ⟨by first | assumption | omega | with_reducible rfl | (refine fun h => h ?_; first | assumption | with_reducible rfl) | (simp only [lenS] <;> omega) | decide, ?_⟩ | refine .inr ⟨by first | assumption | omega | with_reducible rfl | (refine fun h => h ?_; first | assumption | with_reducible rfl) | (simp only [lenS] <;> omega) | decide, ?_⟩) | ((first | refine WPA.ifBt ?_ ?_ | refine WPA.ifBnf ?_ ?_); assumption) | ((first | refine WPA.ifBnt ?_ ?_ | refine WPA.ifBf ?_ ?_); assumption) | ((first | refine WPA.ifs ?_ ?_ | refine WPA.ifB ?_ ?_) <;> intro hc))
  exact QQ.endc rfl () rfl fun w h => h.to
theorem Pop_trN {p c : Nat} [h : FindK L (PileM ky) p (([] : List Cu), c) L'] :
    Tr Tryz.prog 95 #[.pointer (some ⟨p, 0, none⟩)] (SL w0 I L) (fun _ : Unit => .tuple #[.agg #[.slice none 0 0, .int .i64 0], .bool false]) (fun _ => SL w0 I (PileM ky p ([], c) :: L')) := by
  refine Tr.at h.out (Tr.opn ?_)
  rintro ⟨es, hh, hp⟩
  dsimp only at hp ⊢
  have he : es = [] := by have := hp.length_eq; exact List.eq_nil_of_length_eq_zero (by simpa using this)
  subst he
  refine Tr.intro Tryz.func95 rfl Tryz.ntmps95 rfl ?_
  repeat' (first | ((first | refine WLA.m rfl rfl ?_ ?_ | refine WDQ.m rfl rfl ?_ ?_ | refine WLA.st rfl ?_ ?_ | refine WLA.x rfl rfl ?_ (fun x => ?_) | refine WLA.x0 rfl ?_ (fun x => ?_)); first | exact trivial | exact rfl | assumption | omega | (refine ⟨?_, ?_⟩ <;> omega) | (simp only [Room, lenS]; omega) | decide | skip) | (refine Stp.go ?_) | (guard_target =~ WLA _ _ _ _ _ (⟨_, .call ⟨.value (.func 113), _, _⟩, _, _, _, _⟩ :: _) _ _; refine WLA.call rfl rfl (Top_trN) ?_; rintro ⟨⟩) | (refine WPA.ifT ?_) | (refine WPA.ifF ?_) | ((first | refine WPA.dec ?_); first | refine .inl ⟨by first | assumption | omega | with_reducible rfl | (refine fun h => h ?_; first | assumption | with_reducible rfl) | (simp only [lenS] <;> omega) | decide, ?_⟩ | refine .inr ⟨by first | assumption | omega | with_reducible rfl | (refine fun h => h ?_; first | assumption | with_reducible rfl) | (simp only [lenS] <;> omega) | decide, ?_⟩) | ((first | refine WPA.ifBt ?_ ?_ | refine WPA.ifBnf ?_ ?_); assumption) | ((first | refine WPA.ifBnt ?_ ?_ | refine WPA.ifBf ?_ ?_); assumption) | ((first | refine WPA.ifs ?_ ?_ | refine WPA.ifB ?_ ?_) <;> intro hc) | (guard_target =~ WPA _ _ _ (.region 5 _ true) _ _ _; refine WPA.drawT 11 (.q 0 (.q 1 (.q 2 (.q 3 (.q 4 (.q 5 (.q 6 (.q 7 (.q 8 (.q 9 (.q 10 .fin))))))))))) mixed ?_ ?_; kernel_rfl) | (refine WDA.finish (tl := [⟨_, _, _, _, _, _⟩, ⟨_, _, _, _, _, _⟩]) rfl ?_) | (refine WDQ.see rfl ?_) | (guard_target =~ WDE _ _ _ _ _ _ _ ⟨_, .call ⟨.value (.func 113), _, _⟩, _, _, _, _⟩ _ _ _; refine WDE.call rfl rfl (Top_trN) ?_ ?_; (intro x w h; first | exact h | exact Ent.drop1.sl h | exact SL.unI h | exact SL.to h); rintro ⟨⟩) | (guard_target =~ WDW _ _ _ _ _ _ _ ⟨_, .call ⟨.value (.func 113), _, _⟩, _, _, _, _⟩ _ _ _; refine WDW.call rfl rfl (Top_trN) ?_; rintro ⟨⟩))
  exact QQ.endc rfl () rfl fun w h => (PileM.fold (l := []) hh hp rfl).sl h.to
theorem Pop_trM {p c : Nat} {l : List Cu} [h : FindK L (PileM ky) p (l, c) L'] (hn : l.length ≤ 100000) (h0 : l ≠ []) (hg : ∀ q ∈ l, CurAt I q (ky q)) :
    Tr Tryz.prog 95 #[.pointer (some ⟨p, 0, none⟩)] (SL w0 I L) (fun x : Cu × List Cu => .tuple #[.agg #[.slice x.1.1.a x.1.1.n x.1.1.cap, .int .i64 x.1.2], .bool true])
      (fun x w => ((x.1 :: x.2).Perm l ∧ ∀ y ∈ x.2, ¬ ltL (ky y) (ky x.1)) ∧ SL w0 I (PileM ky p (x.2, c) :: L') w) := by
  refine Tr.at h.out (Tr.opn ?_)
  rintro ⟨es, hh, hp⟩
  dsimp only at hp ⊢
  have hl : es.length = l.length := by have := hp.length_eq; simpa using this
  have hpos : 0 < l.length := List.length_pos_iff.2 h0
  have hne : es ≠ [] := List.length_pos_iff.1 (by omega)
  refine Tr.intro Tryz.func95 rfl Tryz.ntmps95 rfl ?_
  repeat' (first | ((first | refine WLA.m rfl rfl ?_ ?_ | refine WDQ.m rfl rfl ?_ ?_ | refine WLA.st rfl ?_ ?_ | refine WLA.x rfl rfl ?_ (fun x => ?_) | refine WLA.x0 rfl ?_ (fun x => ?_)); first | exact trivial | exact rfl | assumption | omega | (refine ⟨?_, ?_⟩ <;> omega) | (simp only [Room, lenS]; omega) | decide | skip) | (refine Stp.go ?_) | (guard_target =~ WLA _ _ _ _ _ (⟨_, .call ⟨.value (.func 113), _, _⟩, _, _, _, _⟩ :: _) _ _; refine WLA.call rfl rfl (Top_trR (by omega) hne) ?_; rintro ⟨⟩; refine WLA.opn fun s => ?_) | (refine WPA.ifT ?_) | (refine WPA.ifF ?_) | ((first | refine WPA.dec ?_); first | refine .inl ⟨by first | assumption | omega | with_reducible rfl | (refine fun h => h ?_; first | assumption | with_reducible rfl) | (simp only [lenS] <;> omega) | decide, ?_⟩ | refine .inr ⟨by first | assumption | omega | with_reducible rfl | (refine fun h => h ?_; first | assumption | with_reducible rfl) | (simp only [lenS] <;> omega) | decide, ?_⟩) | ((first | refine WPA.ifBt ?_ ?_ | refine WPA.ifBnf ?_ ?_); assumption) | ((first | refine WPA.ifBnt ?_ ?_ | refine WPA.ifBf ?_ ?_); assumption) | ((first | refine WPA.ifs ?_ ?_ | refine WPA.ifB ?_ ?_) <;> intro hc) | (guard_target =~ WPA _ _ _ (.region 5 _ true) _ _ _; refine WPA.drawT 11 (.q 0 (.q 1 (.q 2 (.q 3 (.q 4 (.q 5 (.q 6 (.q 7 (.q 8 (.q 9 (.q 10 .fin))))))))))) mixed ?_ ?_; kernel_rfl) | (refine WDA.finish (tl := [⟨_, _, _, _, _, _⟩, ⟨_, _, _, _, _, _⟩]) rfl ?_) | (refine WDQ.see rfl ?_) | (guard_target =~ WDE _ _ _ _ _ _ _ ⟨_, .call ⟨.value (.func 113), _, _⟩, _, _, _, _⟩ _ _ _; refine WDE.call rfl rfl (Top_trR (by omega) hne) ?_ ?_; (intro x w h; first | exact h | exact Ent.drop1.sl h | exact SL.unI h | exact SL.to h); rintro ⟨⟩; refine WLA.opn fun s => ?_) | (guard_target =~ WDW _ _ _ _ _ _ _ ⟨_, .call ⟨.value (.func 113), _, _⟩, _, _, _, _⟩ _ _ _; refine WDW.call rfl rfl (Top_trR (by omega) hne) ?_; rintro ⟨⟩; refine WLA.opn fun s => ?_))
  have hes : 0 < es.length := by omega
  have ez : ((es.length : Int) - 1).toNat = es.length - 1 := by omega
  refine WLA.ent (Ent.swap.trans ((Ent.ownCut (sz := 3) ((es.length : Int) - 1) (by simp; omega)).trans Ent.swap)) ?_
  have el : ((es.set (Int.toNat 0) (((at_ es ((es.length : Int) - 1)).1.1, (at_ es ((es.length : Int) - 1)).1.2), (at_ es ((es.length : Int) - 1)).2)).set ((es.length : Int) - 1).toNat ((SV.nil, 0), 0)).take ((es.length : Int) - 1).toNat = (es.set 0 (atE es (es.length - 1))).take (es.length - 1) := by
    rw [List.take_set, List.set_eq_of_length_le (by rw [List.length_take, List.length_set]; omega), ez]
    have ea : at_ es ((es.length : Int) - 1) = atE es (es.length - 1) := by unfold at_ atE; rw [ez]; rfl
    rw [ea]; rfl
  rw [el]
  have hd := heap_down hh hes
  have hpp := pop_perm hes
  have hlen : ((es.set 0 (atE es (es.length - 1))).take (es.length - 1)).length = es.length - 1 := by rw [List.length_take, List.length_set]; omega
  generalize hrest : (es.set 0 (atE es (es.length - 1))).take (es.length - 1) = rest at hd hpp hlen
  have hgr : ∀ e ∈ rest, CurAt I e.1 (ky e.1) := fun e he => hg _ (hp.subset (List.mem_map.2 ⟨e, hpp.subset (List.mem_cons_of_mem _ he), rfl⟩))
  repeat' (first | ((first | refine WLA.m rfl rfl ?_ ?_ | refine WDQ.m rfl rfl ?_ ?_ | refine WLA.st rfl ?_ ?_ | refine WLA.x rfl rfl ?_ (fun x => ?_) | refine WLA.x0 rfl ?_ (fun x => ?_)); first | exact trivial | exact rfl | assumption | omega | (refine ⟨?_, ?_⟩ <;> omega) | (simp only [Room, lenS]; omega) | decide | skip) | (refine Stp.go ?_) | (guard_target =~ WLA _ _ _ _ _ (⟨_, .call ⟨.value (.func 114), _, _⟩, _, _, _, _⟩ :: _) _ _; refine WLA.call rfl rfl (down_tr (by rw [hlen]; omega) hgr (by rw [hlen]; exact hd)) ?_; rintro ⟨es', hp', hh'⟩) | (refine WPA.ifT ?_) | (refine WPA.ifF ?_) | ((first | refine WPA.dec ?_); first | refine .inl ⟨by first | assumption | omega | with_reducible rfl | (refine fun h => h ?_; first | assumption | with_reducible rfl) | (simp only [lenS] <;> omega) | decide, ?_⟩ | refine .inr ⟨by first | assumption | omega | with_reducible rfl | (refine fun h => h ?_; first | assumption | with_reducible rfl) | (simp only [lenS] <;> omega) | decide, ?_⟩) | ((first | refine WPA.ifBt ?_ ?_ | refine WPA.ifBnf ?_ ?_); assumption) | ((first | refine WPA.ifBnt ?_ ?_ | refine WPA.ifBf ?_ ?_); assumption) | ((first | refine WPA.ifs ?_ ?_ | refine WPA.ifB ?_ ?_) <;> intro hc) | (guard_target =~ WPA _ _ _ (.region 5 _ true) _ _ _; refine WPA.drawT 11 (.q 0 (.q 1 (.q 2 (.q 3 (.q 4 (.q 5 (.q 6 (.q 7 (.q 8 (.q 9 (.q 10 .fin))))))))))) mixed ?_ ?_; kernel_rfl) | (refine WDA.finish (tl := [⟨_, _, _, _, _, _⟩, ⟨_, _, _, _, _, _⟩]) rfl ?_) | (refine WDQ.see rfl ?_) | (guard_target =~ WDE _ _ _ _ _ _ _ ⟨_, .call ⟨.value (.func 114), _, _⟩, _, _, _, _⟩ _ _ _; refine WDE.call rfl rfl (down_tr (by rw [hlen]; omega) hgr (by rw [hlen]; exact hd)) ?_ ?_; (intro x w h; first | exact h | exact Ent.drop1.sl h | exact SL.unI h | exact SL.to h); rintro ⟨es', hp', hh'⟩) | (guard_target =~ WDW _ _ _ _ _ _ _ ⟨_, .call ⟨.value (.func 114), _, _⟩, _, _, _, _⟩ _ _ _; refine WDW.call rfl rfl (down_tr (by rw [hlen]; omega) hgr (by rw [hlen]; exact hd)) ?_; rintro ⟨es', hp', hh'⟩))
  have ha0 : at_ es 0 = atE es 0 := rfl
  refine QQ.endc rfl ((at_ es 0).1, es'.map Prod.fst) rfl fun w h => ⟨⟨?_, ?_⟩, (PileM.fold (z := c) hh' (List.Perm.refl _) rfl).sl h.to⟩
  · dsimp only
    rw [ha0]
    have h1 := (hp'.cons (atE es 0)).trans hpp
    exact (h1.map Prod.fst).trans hp
  · intro y hy
    dsimp only at hy ⊢
    obtain ⟨e, he, rfl⟩ := List.mem_map.1 hy
    have hm : e ∈ es := hpp.subset (List.mem_cons_of_mem _ (hp'.subset he))
    obtain ⟨j, hj, e1⟩ := List.getElem_of_mem hm
    have := heap_least hh j hj
    rw [atE_get _ _ hj, e1] at this
    rw [ha0]
    exact fun hlt => this (.inl hlt)
theorem Drain_tr {v : Value} (w0 : World) (I : Foot) [CellsV v [v]] : Tr Tryz.prog 66 #[v] (SL w0 I L) (fun b : Nat => .func (.func 94) #[] #[.pointer (some ⟨b, 0, none⟩)]) (fun b => SL w0 I (Bk b 133 [v] :: L)) := by
  refine Tr.intro Tryz.func66 rfl Tryz.ntmps66 rfl ?_
  repeat' (first | ((first | refine WLA.m rfl rfl ?_ ?_ | refine WLA.st rfl ?_ ?_ | refine WLA.x rfl rfl ?_ (fun x => ?_) | refine WLA.x0 rfl ?_ (fun x => ?_)); first | exact trivial | exact rfl | assumption | omega | (refine ⟨?_, ?_⟩ <;> omega) | (simp only [Room, lenS]; omega) | decide | skip) | (refine Stp.go ?_) | (refine WPA.ifT ?_) | (refine WPA.ifF ?_) | ((first | refine WPA.dec ?_); first | refine .inl ⟨by first | assumption | omega | with_reducible rfl | (refine fun h => h ?_; first | assumption | with_reducible rfl) | (simp only [lenS] <;> omega) | decide, ?_⟩ | refine .inr ⟨by first | assumption | omega | with_reducible rfl | (refine fun h => h ?_; first | assumption | with_reducible rfl) | (simp only [lenS] <;> omega) | decide, ?_⟩) | ((first | refine WPA.ifBt ?_ ?_ | refine WPA.ifBnf ?_ ?_); assumption) | ((first | refine WPA.ifBnt ?_ ?_ | refine WPA.ifBf ?_ ?_); assumption) | ((first | refine WPA.ifs ?_ ?_ | refine WPA.ifB ?_ ?_) <;> intro hc))
  exact QQ.end_ rfl _ rfl fun w h => h.to
theorem Drain1_tr {p Bx lb : Nat} {τ ω : Type} (Lk : τ → List HP) (ls : τ → List Cu × Nat) (m : τ → Nat) (C : τ → Prop) (B : ω → World → Prop) (hfew : ∀ x, C x → (ls x).1.length ≤ 100000 ∧ ∀ q ∈ (ls x).1, CurAt I q (ky q))
    (hy : ∀ x q l', C x → (q :: l').Perm (ls x).1 → (∀ y ∈ l', ¬ ltL (ky y) (ky q)) → YTr Tryz.prog lb #[.agg #[.slice q.1.a q.1.n q.1.cap, .int .i64 q.2]] (SL w0 I (PileM ky p (l', (ls x).2) :: Bk Bx 133 [.pointer (some ⟨p, 0, none⟩)] :: Lk x)) (fun y : τ ⊕ ω => .bool y.isLeft)
      (fun y w => match y with | .inl x' => (C x' ∧ m x' < m x) ∧ SL w0 I (PileM ky p (ls x') :: Bk Bx 133 [.pointer (some ⟨p, 0, none⟩)] :: Lk x') w | .inr z => B z w))
    (x0 : τ) (hC : C x0) :
    Tr Tryz.prog 94 #[.func (.yield lb) #[] #[], .pointer (some ⟨Bx, 0, none⟩)] (SL w0 I (PileM ky p (ls x0) :: Bk Bx 133 [.pointer (some ⟨p, 0, none⟩)] :: Lk x0)) (fun _ : τ ⊕ ω => .tuple #[])
      (fun y w => match y with | .inl x' => (C x' ∧ (ls x').1 = []) ∧ SL w0 I (PileM ky p (ls x') :: Bk Bx 133 [.pointer (some ⟨p, 0, none⟩)] :: Lk x') w | .inr z => B z w) := by
  refine Tr.intro Tryz.func94 rfl Tryz.ntmps94 rfl ?_
  repeat' (first | ((first | refine WLA.m rfl rfl ?_ ?_ | refine WLA.st rfl ?_ ?_ | refine WLA.x rfl rfl ?_ (fun x => ?_) | refine WLA.x0 rfl ?_ (fun x => ?_)); first | exact trivial | exact rfl | assumption | omega | (refine ⟨?_, ?_⟩ <;> omega) | (simp only [Room, lenS]; omega) | decide | skip) | (refine Stp.go ?_) | (refine WPA.ifT ?_) | (refine WPA.ifF ?_) | (refine WLA.no rfl rfl ?_) | ((first | refine WPA.dec ?_ | ((fail_if_success (guard_target =~ WLA _ _ _ _ _ _ (put1 _ _ (.bool true)) _)); (fail_if_success (guard_target =~ WLA _ _ _ _ _ _ (put1 _ _ (.bool false)) _)); refine WLA.dec rfl rfl ?_) | refine WLA.pk ?_); first | refine .inl ⟨by first | assumption | omega | with_reducible rfl | (refine fun h => h ?_; first | assumption | with_reducible rfl) | (simp only [lenS] <;> omega) | decide, ?_⟩ | refine .inr ⟨by first | assumption | omega | with_reducible rfl | (refine fun h => h ?_; first | assumption | with_reducible rfl) | (simp only [lenS] <;> omega) | decide, ?_⟩) | ((first | refine WPA.ifBt ?_ ?_ | refine WPA.ifBnf ?_ ?_); assumption) | ((first | refine WPA.ifBnt ?_ ?_ | refine WPA.ifBf ?_ ?_); assumption) | ((first | refine WPA.ifs ?_ ?_ | refine WPA.ifB ?_ ?_) <;> intro hc) | ((fail_if_success (guard_target =~ WLA _ _ _ _ _ _ (put1 _ _ (.bool true)) _)); (fail_if_success (guard_target =~ WLA _ _ _ _ _ _ (put1 _ _ (.bool false)) _)); (first | refine WLA.both rfl rfl ?_ ?_ | refine WLA.bothB rfl rfl ?_ ?_) <;> intro hg))
  refine WPA.loopS (σ := τ) (fun x => [(0, .func (.yield lb) #[] #[]), (1, .pointer (some ⟨Bx, 0, none⟩))]) C
    (fun x => SL w0 I (PileM ky p (ls x) :: Bk Bx 133 [.pointer (some ⟨p, 0, none⟩)] :: Lk x)) m x0 ⟨rfl, rfl, trivial⟩ hC (fun w h => h) ?_
  intro u ρ hCx
  refine WPA.mono (A := SL w0 I (PileM ky p (ls u) :: Bk Bx 133 [.pointer (some ⟨p, 0, none⟩)] :: Lk u)) (fun w h => h) ?_
  obtain ⟨hn, hg⟩ := hfew u hCx
  have hyu := hy u
  generalize hls : ls u = lu at hn hg hyu
  obtain ⟨l, c⟩ := lu
  dsimp only at hn hg hyu
  by_cases h0 : l = []
  · subst h0
    repeat' (first | ((first | refine WLA.m rfl rfl ?_ ?_ | refine WLA.st rfl ?_ ?_ | refine WLA.x rfl rfl ?_ (fun x => ?_) | refine WLA.x0 rfl ?_ (fun x => ?_)); first | exact trivial | exact rfl | assumption | omega | (refine ⟨?_, ?_⟩ <;> omega) | (simp only [Room, lenS]; omega) | decide | skip) | (refine Stp.go ?_) | (guard_target =~ WLA _ _ _ _ _ (⟨_, .call ⟨.value (.func 95), _, _⟩, _, _, _, _⟩ :: _) _ _; refine WLA.call rfl rfl (Pop_trN (ky := ky)) ?_; rintro ⟨⟩) | (refine WPA.ifT ?_) | (refine WPA.ifF ?_) | (refine WLA.no rfl rfl ?_) | ((first | refine WPA.dec ?_ | ((fail_if_success (guard_target =~ WLA _ _ _ _ _ _ (put1 _ _ (.bool true)) _)); (fail_if_success (guard_target =~ WLA _ _ _ _ _ _ (put1 _ _ (.bool false)) _)); refine WLA.dec rfl rfl ?_) | refine WLA.pk ?_); first | refine .inl ⟨by first | assumption | omega | with_reducible rfl | (refine fun h => h ?_; first | assumption | with_reducible rfl) | (simp only [lenS] <;> omega) | decide, ?_⟩ | refine .inr ⟨by first | assumption | omega | with_reducible rfl | (refine fun h => h ?_; first | assumption | with_reducible rfl) | (simp only [lenS] <;> omega) | decide, ?_⟩) | ((first | refine WPA.ifBt ?_ ?_ | refine WPA.ifBnf ?_ ?_); assumption) | ((first | refine WPA.ifBnt ?_ ?_ | refine WPA.ifBf ?_ ?_); assumption) | ((first | refine WPA.ifs ?_ ?_ | refine WPA.ifB ?_ ?_) <;> intro hc) | ((fail_if_success (guard_target =~ WLA _ _ _ _ _ _ (put1 _ _ (.bool true)) _)); (fail_if_success (guard_target =~ WLA _ _ _ _ _ _ (put1 _ _ (.bool false)) _)); (first | refine WLA.both rfl rfl ?_ ?_ | refine WLA.bothB rfl rfl ?_ ?_) <;> intro hg))
    refine QQ.end_ rfl (.inl u) rfl fun w h => ⟨⟨hCx, by rw [hls]⟩, ?_⟩
    rw [hls]
    exact h.to
  · skip
    repeat' (first | ((first | refine WLA.m rfl rfl ?_ ?_ | refine WLA.st rfl ?_ ?_ | refine WLA.x rfl rfl ?_ (fun x => ?_) | refine WLA.x0 rfl ?_ (fun x => ?_)); first | exact trivial | exact rfl | assumption | omega | (refine ⟨?_, ?_⟩ <;> omega) | (simp only [Room, lenS]; omega) | decide | skip) | (refine Stp.go ?_) | (guard_target =~ WLA _ _ _ _ _ (⟨_, .call ⟨.value (.func 95), _, _⟩, _, _, _, _⟩ :: _) _ _; refine WLA.call rfl rfl (Pop_trM hn h0 hg) ?_; rintro ⟨q, l'⟩; refine WLA.pure fun hq => ?_; dsimp only at hq ⊢) | (guard_target =~ WLA _ _ _ _ _ (⟨_, .call ⟨.value (.tmp _), _, _⟩, _, _, _, _⟩ :: _) _ _; refine WLA.yield rfl rfl ((hyu q l' hCx hq.1 hq.2).ent) ?_; rintro (x' | z)) | (refine WPA.ifT ?_) | (refine WPA.ifF ?_) | (refine WLA.no rfl rfl ?_) | ((first | refine WPA.dec ?_ | ((fail_if_success (guard_target =~ WLA _ _ _ _ _ _ (put1 _ _ (.bool true)) _)); (fail_if_success (guard_target =~ WLA _ _ _ _ _ _ (put1 _ _ (.bool false)) _)); refine WLA.dec rfl rfl ?_) | refine WLA.pk ?_); first | refine .inl ⟨by first | assumption | omega | with_reducible rfl | (refine fun h => h ?_; first | assumption | with_reducible rfl) | (simp only [lenS] <;> omega) | decide, ?_⟩ | refine .inr ⟨by first | assumption | omega | with_reducible rfl | (refine fun h => h ?_; first | assumption | with_reducible rfl) | (simp only [lenS] <;> omega) | decide, ?_⟩) | ((first | refine WPA.ifBt ?_ ?_ | refine WPA.ifBnf ?_ ?_); assumption) | ((first | refine WPA.ifBnt ?_ ?_ | refine WPA.ifBf ?_ ?_); assumption) | ((first | refine WPA.ifs ?_ ?_ | refine WPA.ifB ?_ ?_) <;> intro hc) | ((fail_if_success (guard_target =~ WLA _ _ _ _ _ _ (put1 _ _ (.bool true)) _)); (fail_if_success (guard_target =~ WLA _ _ _ _ _ _ (put1 _ _ (.bool false)) _)); (first | refine WLA.both rfl rfl ?_ ?_ | refine WLA.bothB rfl rfl ?_ ?_) <;> intro hg))
    · refine QQ.pre fun hC' => ?_
      exact QQ.loopS x' ⟨rfl, rfl, trivial⟩ hC'.1 hC'.2 (fun w h => h)
    · exact QQ.end_ rfl (.inr z) rfl fun w h => h
end
end Go.Proofs.YtamnobjdgjbmbaaGreat
