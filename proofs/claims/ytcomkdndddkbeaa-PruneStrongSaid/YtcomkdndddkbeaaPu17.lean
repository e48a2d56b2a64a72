/- Texts that PruneStrong_law leans on, part 17. Conditions: none. -/
import Derived.Test.YtcomkdndddkbeaaPu16
namespace Go.Proofs.Ytcomkdndddkbeaa
open Go Go.Fw Go.RowKit
set_option linter.unusedVariables false
set_option linter.unusedSimpArgs false
set_option maxRecDepth 100000
set_option maxHeartbeats 16000000
set_option synthInstance.maxHeartbeats 200000
set_option synthInstance.maxSize 100000
attribute [local irreducible] WPA WLA WDA WDQ WDE QQ seqQ blockQ loopQ fnQ OpP OpT Tr TrP SL SLd OwnS LitS Bk BkE Ob
attribute [local irreducible] TblH VocH GridH RowH
def stV (kg : SV → List Int) (re : SV → List En) (gr : List SV) (k : Nat) (xs : List Int) : Int := bckN kg re gr (xs.take k) + prbN kg re gr (at_ xs (k : Int)) ((xs.take k).drop 1)
def stP (least p b v : Int) : Prop := b ≠ 0 ∨ least < max p v - min p v
instance (least p b v : Int) : Decidable (stP least p b v) := inferInstanceAs (Decidable (_ ∨ _))
def stK (kg : SV → List Int) (re : SV → List En) (gr : List SV) (least : Int) (k i : Nat) : Bool :=
  decide (stP least (at_ (re (at_ gr (k : Int))) (i : Int)).2.1 (at_ (re (at_ gr (k : Int))) (i : Int)).2.2 (stV kg re gr k (kg (at_ (re (at_ gr (k : Int))) (i : Int)).1)))
section
variable {L : List HP} {w0 : World} {I : Foot}
theorem gap_tr {a b : Int} (h : -2305843009213693952 ≤ a ∧ a ≤ 2305843009213693952) (k : -2305843009213693952 ≤ b ∧ b ≤ 2305843009213693952) : TrP Try.prog 38 #[.int .i64 a, .int .i64 b] (SL w0 I L) (.int .i64 (max a b - min a b)) := by
  refine TrP.ofD fun u => Tr.intro Try.func38 rfl Try.ntmps38 rfl ?_
  have hs : -9223372036854775808 ≤ max a b - min a b ∧ max a b - min a b ≤ 9223372036854775807 := by omega
  repeat' (first | ((first | refine WLA.m rfl rfl ?_ ?_ | refine WLA.st rfl ?_ ?_ | refine WLA.x rfl rfl ?_ (fun x => ?_) | refine WLA.x0 rfl ?_ (fun x => ?_)); first | exact trivial | exact rfl | assumption | omega | (refine ⟨?_, ?_⟩ <;> omega) | (simp only [Room, List.length_set, List.length_append, List.length_cons, List.length_nil, List.length_replicate]; omega) | decide | skip) | (refine Stp.go ?_) | (refine WPA.ifT ?_) | (refine WPA.ifF ?_) | ((first | refine WPA.dec ?_); first | refine .inl ⟨by first | assumption | omega | with_reducible rfl | (refine fun h => h ?_; first | assumption | with_reducible rfl) | (simp only [List.length_append, List.length_cons, List.length_nil, List.length_set] <;> omega) | decide, ?_⟩ | refine .inr ⟨by first | assumption | omega | with_reducible rfl | (refine fun h => h ?_; first | assumption | with_reducible rfl) | (simp only [List.length_append, List.length_cons, List.length_nil, List.length_set] <;> omega) | decide, ?_⟩) | ((first | refine WPA.ifBt ?_ ?_ | refine WPA.ifBnf ?_ ?_); assumption) | ((first | refine WPA.ifBnt ?_ ?_ | refine WPA.ifBf ?_ ?_); assumption) | ((first | refine WPA.ifs ?_ ?_ | refine WPA.ifB ?_ ?_) <;> intro hc))
  exact QQ.end_ rfl () rfl fun w h => h
end
section
variable {kg : SV → List Int} {re : SV → List En} {L : List HP} {w0 : World} {I : Foot}
theorem Find_any {fr : Int} {w g s : SV} {ws : List ByteArray} {gr : List SV} {gs : List Int} [hr : RdS I L s Int inferInstance gs] (hM : MdI I kg re w g ws gr) (hS : ∀ h ∈ gr, RisE kg (re h)) (hl : gs.length ≤ 1000000) :
    Tr Try.prog 37 #[.agg #[.int .i64 fr, .slice w.a w.n w.cap, .slice g.a g.n g.cap], .slice s.a s.n s.cap] (SL w0 I L) (fun r : { r : SV × Int × Bool × List Int // CodesP re gr → CodeP (bckN kg re gr gs) } => .tuple #[.agg #[.slice r.1.1.a r.1.1.n r.1.1.cap, .int .i64 r.1.2.1, .int .i64 (bckN kg re gr gs)], .bool r.1.2.2.1]) (fun r => SL w0 I (OwnS 3 r.1.1 r.1.2.2.2 :: L)) := by
  by_cases hF : FndP kg re gr gs
  · have hb : bckN kg re gr gs = (cdsG kg re gr gs).2 := if_pos hF
    exact (Find_y hM hS hl hF).conv (fun w h => h) (fun r w h => ⟨⟨(r, (cdsG kg re gr gs).1, true, gs), fun hC => bck_code hC⟩, by dsimp only; rw [hb], h⟩)
  · have hb : bckN kg re gr gs = 0 := if_neg hF
    exact (Find_n hM hS hl hF).conv (fun w h => h) (fun _ w h => ⟨⟨(SV.nil, 0, false, []), fun hC => bck_code hC⟩, by dsimp only; rw [hb], h.to⟩)
theorem rFind_any {fr : Int} {w g s : SV} {ws : List ByteArray} {gr : List SV} {gs : List Int} [hr : RdS I L s Int inferInstance gs] (hM : MdI I kg re w g ws gr) (hl : gs.length ≤ 1000000) :
    Tr Try.prog 42 #[.agg #[.int .i64 fr, .slice w.a w.n w.cap, .slice g.a g.n g.cap], .slice s.a s.n s.cap] (SL w0 I L) (fun r : { r : SV × Int × Bool // CodesP re gr → CodeP (bckN kg re gr gs) } => .tuple #[.agg #[.slice r.1.1.a r.1.1.n r.1.1.cap, .int .i64 r.1.2.1, .int .i64 (bckN kg re gr gs)], .bool r.1.2.2]) (fun r => SL w0 I L) := by
  by_cases hF : FndP kg re gr gs
  · have hb : bckN kg re gr gs = (entG kg re gr gs).2.2 := if_pos hF
    exact (rFind_y hM hl hF).conv (fun w h => h) (fun _ w h => ⟨⟨((entG kg re gr gs).1, (entG kg re gr gs).2.1, true), fun hC => bck_code hC⟩, by dsimp only; rw [hb], h⟩)
  · have hb : bckN kg re gr gs = 0 := if_neg hF
    exact (rFind_n hM hl hF).conv (fun w h => h) (fun _ w h => ⟨⟨(SV.nil, 0, false), fun hC => bck_code hC⟩, by dsimp only; rw [hb], h⟩)
theorem chkM_few {fr : Int} {ws : List ByteArray} {gr : List SV} (h : chkM kg re fr ws gr = 0) : gr.length ≤ 8 := by
  unfold chkM at h
  split at h
  · cases h
  · rename_i h1; omega
theorem Strong1_tr {fr least : Int} {w g : SV} {ws : List ByteArray} {gr : List SV} {b1 b2 : Nat} {k i : Nat} [hb1 : InI I b1 25 [.int .i64 fr, .slice w.a w.n w.cap, .slice g.a g.n g.cap]] [hb2 : InI I b2 3 [.int .i64 least]] (hM : MdI I kg re w g ws gr) (hck : chkM kg re fr ws gr = 0) (h0 : 0 < k) (hk : k < gr.length) (hi : i < (re (at_ gr (k : Int))).length) :
    Tr Try.prog 36 #[.int .i64 k, .int .i64 i, .agg #[.slice (at_ (re (at_ gr (k : Int))) (i : Int)).1.a (at_ (re (at_ gr (k : Int))) (i : Int)).1.n (at_ (re (at_ gr (k : Int))) (i : Int)).1.cap, .int .i64 (at_ (re (at_ gr (k : Int))) (i : Int)).2.1, .int .i64 (at_ (re (at_ gr (k : Int))) (i : Int)).2.2], .pointer (some ⟨b1, 0, none⟩), .pointer (some ⟨b2, 0, none⟩)] (SL w0 I L) (fun _ : Unit => .bool (stK kg re gr least k i)) (fun _ => SL w0 I L) := by
  refine Tr.intro Try.func36 rfl Try.ntmps36 rfl ?_
  obtain ⟨z1, z2, z3⟩ := chkM_zero hck
  obtain ⟨y1, y2, y3⟩ := chkM_words hck
  have hg8 := chkM_few hck
  have hme : at_ gr (k : Int) ∈ gr := by rw [at_nat gr k hk]; exact List.getElem_mem _
  have hmi : at_ (re (at_ gr (k : Int))) (i : Int) ∈ re (at_ gr (k : Int)) := by rw [at_nat _ i hi]; exact List.getElem_mem _
  have hG := hM.elems _ hme _ hmi
  have hxl := y1 k hk _ hmi
  have hcp := z3 _ hme _ hmi
  unfold stK
  generalize at_ (re (at_ gr (k : Int))) (i : Int) = e at hG hxl hcp
  obtain ⟨eg, ep, eb⟩ := e
  dsimp only at hG hxl hcp ⊢
  generalize kg eg = xs at hG hxl
  have hkx : (0 : Int) ≤ k ∧ (k : Int) < xs.length := by omega
  have hs1 : SlI I (eg.cut 1 0 (k : Int)) Int inferInstance (xs.take k) := by
    have hci : SlI I (eg.cut 1 0 (k : Int)) Int inferInstance (cutL xs 0 (k : Int)) := inferInstance
    rwa [cut_take (by omega)] at hci
  have htl : (xs.take k).length = k := by rw [List.length_take]; omega
  have htl2 : (xs.take k).length ≤ 1000000 := by omega
  have hs2 : SlI I ((eg.cut 1 0 (k : Int)).cut 1 1 ((cutL xs 0 (k : Int)).length : Int)) Int inferInstance ((xs.take k).drop 1) := by
    have hci : SlI I ((eg.cut 1 0 (k : Int)).cut 1 1 ((cutL xs 0 (k : Int)).length : Int)) Int inferInstance (cutL (xs.take k) 1 ((cutL xs 0 (k : Int)).length : Int)) := inferInstance
    rw [cut_take (by omega)] at hci ⊢
    rwa [show (1 : Int) = ((1 : Nat) : Int) from rfl, cut_drop (by omega)] at hci
  have h1k : (1 : Int) ≤ ((cutL xs 0 (k : Int)).length : Int) := by rw [cut_take (by omega)]; omega
  have hdl : ((xs.take k).drop 1).length ≤ 8 := by rw [List.length_drop]; omega
  have htr : truL gr.length ((xs.take k).drop 1) = (xs.take k).drop 1 := if_neg (by rw [List.length_drop]; omega)
  have hPt := fun {L : List HP} => Prob_tr (w0 := w0) (L := L) (fr := fr) (w := at_ xs (k : Int)) (s := (eg.cut 1 0 (k : Int)).cut 1 1 ((cutL xs 0 (k : Int)).length : Int)) (hs := (xs.take k).drop 1) hM z2 z3 (by omega) z1
  rw [htr] at hPt
  have hbd := prb_bd (kg := kg) (w := at_ xs (k : Int)) z3 ((xs.take k).drop 1)
  unfold stV
  generalize prbN kg re gr (at_ xs (k : Int)) ((xs.take k).drop 1) = pv at hPt hbd
  repeat' (first | ((first | refine WLA.m rfl rfl ?_ ?_ | refine WDQ.m rfl rfl ?_ ?_ | refine WLA.st rfl ?_ ?_ | refine WLA.x rfl rfl ?_ (fun x => ?_) | refine WLA.x0 rfl ?_ (fun x => ?_)); first | exact trivial | exact rfl | assumption | omega | (refine ⟨?_, ?_⟩ <;> omega) | (simp only [Room, List.length_set, List.length_append, List.length_cons, List.length_nil, List.length_replicate]; omega) | decide | skip) | (refine Stp.go ?_) | (guard_target =~ WLA _ _ _ _ _ (⟨_, .call ⟨.value (.func 37), _, _⟩, _, _, _, _⟩ :: _) _ _; first | (refine WLA.call rfl rfl (Find_any (hr := RdS.imm (h := hs1)) hM z2 htl2) ?_; rintro ⟨⟨r, cp, fb, fs⟩, hbc⟩; dsimp only; have hbc := hbc z3) | (refine WLA.call0 rfl (Find_any (hr := RdS.imm (h := hs1)) hM z2 htl2) ?_; rintro ⟨⟨r, cp, fb, fs⟩, hbc⟩; dsimp only; have hbc := hbc z3)) | (refine WPA.ifT ?_) | (refine WPA.ifF ?_) | ((first | refine WPA.dec ?_); first | refine .inl ⟨by first | assumption | omega | with_reducible rfl | (refine fun h => h ?_; first | assumption | with_reducible rfl) | (simp only [List.length_append, List.length_cons, List.length_nil, List.length_set] <;> omega) | decide, ?_⟩ | refine .inr ⟨by first | assumption | omega | with_reducible rfl | (refine fun h => h ?_; first | assumption | with_reducible rfl) | (simp only [List.length_append, List.length_cons, List.length_nil, List.length_set] <;> omega) | decide, ?_⟩) | ((first | refine WPA.ifBt ?_ ?_ | refine WPA.ifBnf ?_ ?_); assumption) | ((first | refine WPA.ifBnt ?_ ?_ | refine WPA.ifBf ?_ ?_); assumption) | ((first | refine WPA.ifs ?_ ?_ | refine WPA.ifB ?_ ?_) <;> intro hc) | (guard_target =~ WPA _ _ _ (.region 1 _ true) _ _ _; refine WPA.drawT 10 (.q 0 (.q 1 (.q 2 (.q 3 (.q 4 (.q 5 (.q 6 (.q 7 (.q 8 (.q 9 .fin)))))))))) mixed ?_ ?_; kernel_rfl) | (refine WDA.finish (tl := [⟨_, _, _, _, _, _⟩]) rfl ?_) | (refine WDQ.see rfl ?_) | (guard_target =~ WDE _ _ _ _ _ _ _ ⟨_, .call ⟨.value (.func 37), _, _⟩, _, _, _, _⟩ _ _ _; refine WDE.call rfl rfl (Find_any (hr := RdS.imm (h := hs1)) hM z2 htl2) ?_ ?_; (intro x w h; first | exact h | exact Ent.drop1.sl h | exact SL.unI h | exact SL.to h); rintro ⟨⟨r, cp, fb, fs⟩, hbc⟩; dsimp only; have hbc := hbc z3) | (guard_target =~ WDW _ _ _ _ _ _ _ ⟨_, .call ⟨.value (.func 37), _, _⟩, _, _, _, _⟩ _ _ _; refine WDW.call rfl rfl (Find_any (hr := RdS.imm (h := hs1)) hM z2 htl2) ?_; rintro ⟨⟨r, cp, fb, fs⟩, hbc⟩; dsimp only; have hbc := hbc z3))
  generalize bckN kg re gr (xs.take k) = bv at hbc
  have hsm : -9223372036854775808 ≤ bv + pv ∧ bv + pv ≤ 9223372036854775807 := by omega
  have hga : -2305843009213693952 ≤ ep ∧ ep ≤ 2305843009213693952 := by omega
  have hgb : -2305843009213693952 ≤ bv + pv ∧ bv + pv ≤ 2305843009213693952 := by omega
  by_cases hb : eb ≠ 0
  · skip
    repeat' (first | ((first | refine WLA.m rfl rfl ?_ ?_ | refine WDQ.m rfl rfl ?_ ?_ | refine WLA.st rfl ?_ ?_ | refine WLA.x rfl rfl ?_ (fun x => ?_) | refine WLA.x0 rfl ?_ (fun x => ?_)); first | exact trivial | exact rfl | assumption | omega | (refine ⟨?_, ?_⟩ <;> omega) | (simp only [Room, List.length_set, List.length_append, List.length_cons, List.length_nil, List.length_replicate]; omega) | decide | skip) | (refine Stp.go ?_) | (guard_target =~ WLA _ _ _ _ _ (⟨_, .call ⟨.value (.func 38), _, _⟩, _, _, _, _⟩ :: _) _ _; refine WLA.cq rfl rfl (gap_tr hga hgb) ?_) | (refine WPA.ifT ?_) | (refine WPA.ifF ?_) | (refine WLA.no rfl rfl ?_) | (refine WDQ.no rfl rfl ?_) | ((first | refine WPA.dec ?_ | ((fail_if_success (guard_target =~ WLA _ _ _ _ _ _ (put1 _ _ (.bool true)) _)); (fail_if_success (guard_target =~ WLA _ _ _ _ _ _ (put1 _ _ (.bool false)) _)); refine WLA.dec rfl rfl ?_) | refine WLA.pk ?_ | refine WDQ.dec rfl rfl ?_); first | refine .inl ⟨by first | assumption | omega | with_reducible rfl | (refine fun h => h ?_; first | assumption | with_reducible rfl) | (simp only [List.length_append, List.length_cons, List.length_nil, List.length_set] <;> omega) | decide, ?_⟩ | refine .inr ⟨by first | assumption | omega | with_reducible rfl | (refine fun h => h ?_; first | assumption | with_reducible rfl) | (simp only [List.length_append, List.length_cons, List.length_nil, List.length_set] <;> omega) | decide, ?_⟩) | ((first | refine WPA.ifBt ?_ ?_ | refine WPA.ifBnf ?_ ?_); assumption) | ((first | refine WPA.ifBnt ?_ ?_ | refine WPA.ifBf ?_ ?_); assumption) | ((first | refine WPA.ifs ?_ ?_ | refine WPA.ifB ?_ ?_) <;> intro hc) | ((fail_if_success (guard_target =~ WLA _ _ _ _ _ _ (put1 _ _ (.bool true)) _)); (fail_if_success (guard_target =~ WLA _ _ _ _ _ _ (put1 _ _ (.bool false)) _)); (first | refine WLA.both rfl rfl ?_ ?_ | refine WLA.bothB rfl rfl ?_ ?_) <;> intro hg) | (guard_target =~ WPA _ _ _ (.region 3 _ true) _ _ _; refine WPA.drawT 16 (.q 0 (.q 1 (.q 2 (.q 3 (.q 4 (.q 5 (.q 6 (.q 7 (.q 8 (.q 9 (.q 10 (.q 11 (.q 12 (.q 13 (.q 14 (.q 15 .fin)))))))))))))))) mixed ?_ ?_; kernel_rfl) | (refine WDA.finish (tl := [⟨_, _, _, _, _, _⟩, ⟨_, _, _, _, _, _⟩, ⟨_, _, _, _, _, _⟩]) rfl ?_) | (refine WDQ.see rfl ?_) | (guard_target =~ WDQ _ _ _ _ _ _ _ ⟨_, .call ⟨.value (.func 38), _, _⟩, _, _, _, _⟩ _ _ _; refine WDQ.cq rfl rfl (gap_tr hga hgb) ?_) | ((first | refine WDQ.both rfl rfl ?_ ?_) <;> intro hg))
    all_goals exact QQ.end_ rfl () (congrArg Value.bool (decide_eq_true (Or.inl hb)).symm) fun w h => h.to
  · have hbx : eb = 0 := Classical.byContradiction hb
    repeat' (first | ((first | refine WLA.m rfl rfl ?_ ?_ | refine WDQ.m rfl rfl ?_ ?_ | refine WLA.st rfl ?_ ?_ | refine WLA.x rfl rfl ?_ (fun x => ?_) | refine WLA.x0 rfl ?_ (fun x => ?_)); first | exact trivial | exact rfl | assumption | omega | (refine ⟨?_, ?_⟩ <;> omega) | (simp only [Room, List.length_set, List.length_append, List.length_cons, List.length_nil, List.length_replicate]; omega) | decide | skip) | (refine Stp.go ?_) | (guard_target =~ WLA _ _ _ _ _ (⟨_, .call ⟨.value (.func 39), _, _⟩, _, _, _, _⟩ :: _) _ _; first | (refine WLA.call rfl rfl (hPt) ?_; rintro ⟨⟩) | (refine WLA.call0 rfl (hPt) ?_; rintro ⟨⟩)) | (guard_target =~ WLA _ _ _ _ _ (⟨_, .call ⟨.value (.func 38), _, _⟩, _, _, _, _⟩ :: _) _ _; refine WLA.cq rfl rfl (gap_tr hga hgb) ?_) | (refine WPA.ifT ?_) | (refine WPA.ifF ?_) | (refine WLA.no rfl rfl ?_) | (refine WDQ.no rfl rfl ?_) | ((first | refine WPA.dec ?_ | ((fail_if_success (guard_target =~ WLA _ _ _ _ _ _ (put1 _ _ (.bool true)) _)); (fail_if_success (guard_target =~ WLA _ _ _ _ _ _ (put1 _ _ (.bool false)) _)); refine WLA.dec rfl rfl ?_) | refine WLA.pk ?_ | refine WDQ.dec rfl rfl ?_); first | refine .inl ⟨by first | assumption | omega | with_reducible rfl | (refine fun h => h ?_; first | assumption | with_reducible rfl) | (simp only [List.length_append, List.length_cons, List.length_nil, List.length_set] <;> omega) | decide, ?_⟩ | refine .inr ⟨by first | assumption | omega | with_reducible rfl | (refine fun h => h ?_; first | assumption | with_reducible rfl) | (simp only [List.length_append, List.length_cons, List.length_nil, List.length_set] <;> omega) | decide, ?_⟩) | ((first | refine WPA.ifBt ?_ ?_ | refine WPA.ifBnf ?_ ?_); assumption) | ((first | refine WPA.ifBnt ?_ ?_ | refine WPA.ifBf ?_ ?_); assumption) | ((first | refine WPA.ifs ?_ ?_ | refine WPA.ifB ?_ ?_) <;> intro hc) | ((fail_if_success (guard_target =~ WLA _ _ _ _ _ _ (put1 _ _ (.bool true)) _)); (fail_if_success (guard_target =~ WLA _ _ _ _ _ _ (put1 _ _ (.bool false)) _)); (first | refine WLA.both rfl rfl ?_ ?_ | refine WLA.bothB rfl rfl ?_ ?_) <;> intro hg) | (guard_target =~ WPA _ _ _ (.region 3 _ true) _ _ _; refine WPA.drawT 16 (.q 0 (.q 1 (.q 2 (.q 3 (.q 4 (.q 5 (.q 6 (.q 7 (.q 8 (.q 9 (.q 10 (.q 11 (.q 15 (.e 12 (.q 13 (.q 14 .fin)))))))))))))))) mixed ?_ ?_; kernel_rfl) | (refine WDA.finish (tl := [⟨_, _, _, _, _, _⟩, ⟨_, _, _, _, _, _⟩, ⟨_, _, _, _, _, _⟩]) rfl ?_) | (refine WDQ.see rfl ?_) | (refine WDE.see rfl ?_) | (refine WDE.alloc rfl rfl (fun w h => h) (fun x => ?_)) | (refine WDE.stE rfl ?_) | (refine WDE.x rfl rfl ?_ ?_ (fun x => ?_); rotate_left 1; (intro x w h; first | exact h | exact Ent.drop1.sl h | exact SL.unI h | exact SL.to h); rotate_left 1; first | exact trivial | exact rfl | assumption | omega | (refine ⟨?_, ?_⟩ <;> omega) | (simp only [Room, List.length_set, List.length_append, List.length_cons, List.length_nil, List.length_replicate]; omega) | decide | skip) | (guard_target =~ WDE _ _ _ _ _ _ _ ⟨_, .call ⟨.value (.func 39), _, _⟩, _, _, _, _⟩ _ _ _; refine WDE.call rfl rfl (hPt) ?_ ?_; (intro x w h; first | exact h | exact Ent.drop1.sl h | exact SL.unI h | exact SL.to h); rintro ⟨⟩) | (guard_target =~ WDW _ _ _ _ _ _ _ ⟨_, .call ⟨.value (.func 39), _, _⟩, _, _, _, _⟩ _ _ _; refine WDW.call rfl rfl (hPt) ?_; rintro ⟨⟩) | (guard_target =~ WDQ _ _ _ _ _ _ _ ⟨_, .call ⟨.value (.func 38), _, _⟩, _, _, _, _⟩ _ _ _; refine WDQ.cq rfl rfl (gap_tr hga hgb) ?_) | ((first | refine WDQ.both rfl rfl ?_ ?_) <;> intro hg))
    all_goals exact QQ.end_ rfl () (congrArg Value.bool (decide_eq_decide.2 ⟨Or.inr, fun h => h.resolve_left hb⟩)) fun w h => h.to
theorem Strong_bad {fr least : Int} {wv g : SV} {ws : List ByteArray} {gr : List SV} (hM : MdI I kg re wv g ws gr) (hck : chkM kg re fr ws gr ≠ 0) :
    Tr Try.prog 15 #[.agg #[.int .i64 fr, .slice wv.a wv.n wv.cap, .slice g.a g.n g.cap], .int .i64 least] (SL w0 I L) (fun _ : Unit => .tuple #[.slice SV.nil.a SV.nil.n SV.nil.cap, .int .i64 (chkM kg re fr ws gr)]) (fun _ => SL w0 I L) := by
  refine Tr.intro Try.func15 rfl Try.ntmps15 rfl ?_
  repeat' (first | ((first | refine WLA.m rfl rfl ?_ ?_ | refine WLA.st rfl ?_ ?_ | refine WLA.x rfl rfl ?_ (fun x => ?_) | refine WLA.x0 rfl ?_ (fun x => ?_)); first | exact trivial | exact rfl | assumption | omega | (refine ⟨?_, ?_⟩ <;> omega) | (simp only [Room, List.length_set, List.length_append, List.length_cons, List.length_nil, List.length_replicate]; omega) | decide | skip) | (refine Stp.go ?_) | (guard_target =~ WLA _ _ _ _ _ (⟨_, .call ⟨.value (.func 23), _, _⟩, _, _, _, _⟩ :: _) _ _; first | (refine WLA.call rfl rfl (Check_tr hM) ?_; rintro ⟨⟩) | (refine WLA.call0 rfl (Check_tr hM) ?_; rintro ⟨⟩)) | (refine WPA.ifT ?_) | (refine WPA.ifF ?_) | ((first | refine WPA.dec ?_); first | refine .inl ⟨by first | assumption | omega | with_reducible rfl | (refine fun h => h ?_; first | assumption | with_reducible rfl) | (simp only [List.length_append, List.length_cons, List.length_nil, List.length_set] <;> omega) | decide, ?_⟩ | refine .inr ⟨by first | assumption | omega | with_reducible rfl | (refine fun h => h ?_; first | assumption | with_reducible rfl) | (simp only [List.length_append, List.length_cons, List.length_nil, List.length_set] <;> omega) | decide, ?_⟩) | ((first | refine WPA.ifBt ?_ ?_ | refine WPA.ifBnf ?_ ?_); assumption) | ((first | refine WPA.ifBnt ?_ ?_ | refine WPA.ifBf ?_ ?_); assumption) | ((first | refine WPA.ifs ?_ ?_ | refine WPA.ifB ?_ ?_) <;> intro hc))
  exact QQ.end_ rfl () rfl fun w h => h.to
theorem Strong_neg {fr least : Int} {wv g : SV} {ws : List ByteArray} {gr : List SV} (hM : MdI I kg re wv g ws gr) (hck : chkM kg re fr ws gr = 0) (hl : least < 0) :
    Tr Try.prog 15 #[.agg #[.int .i64 fr, .slice wv.a wv.n wv.cap, .slice g.a g.n g.cap], .int .i64 least] (SL w0 I L) (fun _ : Unit => .tuple #[.slice SV.nil.a SV.nil.n SV.nil.cap, .int .i64 1]) (fun _ => SL w0 I L) := by
  refine Tr.intro Try.func15 rfl Try.ntmps15 rfl ?_
  have hck' : ¬ chkM kg re fr ws gr ≠ 0 := fun h => h hck
  repeat' (first | ((first | refine WLA.m rfl rfl ?_ ?_ | refine WLA.st rfl ?_ ?_ | refine WLA.x rfl rfl ?_ (fun x => ?_) | refine WLA.x0 rfl ?_ (fun x => ?_)); first | exact trivial | exact rfl | assumption | omega | (refine ⟨?_, ?_⟩ <;> omega) | (simp only [Room, List.length_set, List.length_append, List.length_cons, List.length_nil, List.length_replicate]; omega) | decide | skip) | (refine Stp.go ?_) | (guard_target =~ WLA _ _ _ _ _ (⟨_, .call ⟨.value (.func 23), _, _⟩, _, _, _, _⟩ :: _) _ _; first | (refine WLA.call rfl rfl (Check_tr hM) ?_; rintro ⟨⟩) | (refine WLA.call0 rfl (Check_tr hM) ?_; rintro ⟨⟩)) | (refine WPA.ifT ?_) | (refine WPA.ifF ?_) | ((first | refine WPA.dec ?_); first | refine .inl ⟨by first | assumption | omega | with_reducible rfl | (refine fun h => h ?_; first | assumption | with_reducible rfl) | (simp only [List.length_append, List.length_cons, List.length_nil, List.length_set] <;> omega) | decide, ?_⟩ | refine .inr ⟨by first | assumption | omega | with_reducible rfl | (refine fun h => h ?_; first | assumption | with_reducible rfl) | (simp only [List.length_append, List.length_cons, List.length_nil, List.length_set] <;> omega) | decide, ?_⟩) | ((first | refine WPA.ifBt ?_ ?_ | refine WPA.ifBnf ?_ ?_); assumption) | ((first | refine WPA.ifBnt ?_ ?_ | refine WPA.ifBf ?_ ?_); assumption) | ((first | refine WPA.ifs ?_ ?_ | refine WPA.ifB ?_ ?_) <;> intro hc))
  exact QQ.end_ rfl () rfl fun w h => h.to
theorem Strong_ok {fr least : Int} {wv g : SV} {ws : List ByteArray} {gr : List SV} (hM : MdI I kg re wv g ws gr) (hck : chkM kg re fr ws gr = 0) (hl : ¬ least < 0) :
    Tr Try.prog 15 #[.agg #[.int .i64 fr, .slice wv.a wv.n wv.cap, .slice g.a g.n g.cap], .int .i64 least] (SL w0 I L) (fun x : SV => .tuple #[.slice x.a x.n x.cap, .int .i64 0]) (fun x => SL w0 I (GridH x (chS re gr (stK kg re gr least)) :: L)) := by
  refine Tr.intro Try.func15 rfl Try.ntmps15 rfl ?_
  have hck' : ¬ chkM kg re fr ws gr ≠ 0 := fun h => h hck
  repeat' ((fail_if_success (guard_target =~ WPA _ _ _ (.region 6 _ _) _ _ _)); first | ((first | refine WLA.m rfl rfl ?_ ?_ | refine WLA.st rfl ?_ ?_ | refine WLA.x rfl rfl ?_ (fun x => ?_) | refine WLA.x0 rfl ?_ (fun x => ?_)); first | exact trivial | exact rfl | assumption | omega | (refine ⟨?_, ?_⟩ <;> omega) | (simp only [Room, List.length_set, List.length_append, List.length_cons, List.length_nil, List.length_replicate]; omega) | decide | skip) | (refine Stp.go ?_) | (guard_target =~ WLA _ _ _ _ _ (⟨_, .call ⟨.value (.func 23), _, _⟩, _, _, _, _⟩ :: _) _ _; first | (refine WLA.call rfl rfl (Check_tr hM) ?_; rintro ⟨⟩) | (refine WLA.call0 rfl (Check_tr hM) ?_; rintro ⟨⟩)) | (refine WPA.ifT ?_) | (refine WPA.ifF ?_) | ((first | refine WPA.dec ?_); first | refine .inl ⟨by first | assumption | omega | with_reducible rfl | (refine fun h => h ?_; first | assumption | with_reducible rfl) | (simp only [List.length_append, List.length_cons, List.length_nil, List.length_set] <;> omega) | decide, ?_⟩ | refine .inr ⟨by first | assumption | omega | with_reducible rfl | (refine fun h => h ?_; first | assumption | with_reducible rfl) | (simp only [List.length_append, List.length_cons, List.length_nil, List.length_set] <;> omega) | decide, ?_⟩) | ((first | refine WPA.ifBt ?_ ?_ | refine WPA.ifBnf ?_ ?_); assumption) | ((first | refine WPA.ifBnt ?_ ?_ | refine WPA.ifBf ?_ ?_); assumption) | ((first | refine WPA.ifs ?_ ?_ | refine WPA.ifB ?_ ?_) <;> intro hc))
  rename_i t3
  revert x; intro t4
  refine WPA.freezeBk (b := t3) ?_
  refine WPA.freezeBk (b := t4) ?_
  have hg := hM.grams
  repeat' (first | ((first | refine WLA.m rfl rfl ?_ ?_ | refine WLA.st rfl ?_ ?_ | refine WLA.x rfl rfl ?_ (fun x => ?_) | refine WLA.x0 rfl ?_ (fun x => ?_)); first | exact trivial | exact rfl | assumption | omega | (refine ⟨?_, ?_⟩ <;> omega) | (simp only [Room, List.length_set, List.length_append, List.length_cons, List.length_nil, List.length_replicate]; omega) | decide | skip) | (refine Stp.go ?_) | (guard_target =~ WLA _ _ _ _ _ (⟨_, .call ⟨.value (.func 25), _, _⟩, _, _, _, _⟩ :: _) _ _; first | (refine WLA.call rfl rfl (choice_tr (fid := 36) (caps := [.pointer (some ⟨t3, 0, none⟩), .pointer (some ⟨t4, 0, none⟩)]) (K := stK kg re gr least) (SlI.sub (h := hg)) (fun h hh ↦ (hM.rows h hh).sub) hM.gln hM.rln (fun k i L h0 hk hi ↦ Strong1_tr hM.sub hck h0 hk hi)) ?_; rintro x) | (refine WLA.call0 rfl (choice_tr (fid := 36) (caps := [.pointer (some ⟨t3, 0, none⟩), .pointer (some ⟨t4, 0, none⟩)]) (K := stK kg re gr least) (SlI.sub (h := hg)) (fun h hh ↦ (hM.rows h hh).sub) hM.gln hM.rln (fun k i L h0 hk hi ↦ Strong1_tr hM.sub hck h0 hk hi)) ?_; rintro x)) | (refine WPA.ifT ?_) | (refine WPA.ifF ?_) | ((first | refine WPA.dec ?_); first | refine .inl ⟨by first | assumption | omega | with_reducible rfl | (refine fun h => h ?_; first | assumption | with_reducible rfl) | (simp only [List.length_append, List.length_cons, List.length_nil, List.length_set] <;> omega) | decide, ?_⟩ | refine .inr ⟨by first | assumption | omega | with_reducible rfl | (refine fun h => h ?_; first | assumption | with_reducible rfl) | (simp only [List.length_append, List.length_cons, List.length_nil, List.length_set] <;> omega) | decide, ?_⟩) | ((first | refine WPA.ifBt ?_ ?_ | refine WPA.ifBnf ?_ ?_); assumption) | ((first | refine WPA.ifBnt ?_ ?_ | refine WPA.ifBf ?_ ?_); assumption) | ((first | refine WPA.ifs ?_ ?_ | refine WPA.ifB ?_ ?_) <;> intro hc))
  exact QQ.end_ rfl x rfl fun w h => h.unI.unI.to
theorem rStrong_tr {fr least : Int} {wv g : SV} {ws : List ByteArray} {gr : List SV} (hM : MdI I kg re wv g ws gr) (hck : chkM kg re fr ws gr = 0) (hlw : -9223372036854775808 ≤ least) :
    Tr Try.prog 18 #[.agg #[.int .i64 fr, .slice wv.a wv.n wv.cap, .slice g.a g.n g.cap], .int .i64 least] (SL w0 I L) (fun x : SV => .slice x.a x.n x.cap) (fun x => SL w0 I (GridH x (chS re gr (stK kg re gr least)) :: L)) := by
  refine Tr.intro Try.func18 rfl Try.ntmps18 rfl ?_
  obtain ⟨z1, z2, z3⟩ := chkM_zero hck
  obtain ⟨y1, y2, y3⟩ := chkM_words hck
  have hg8 := chkM_few hck
  have hg := hM.grams
  repeat' ((fail_if_success (guard_target =~ WPA _ _ _ (.region 1 _ _) _ _ _)); first | ((first | refine WLA.m rfl rfl ?_ ?_ | refine WLA.st rfl ?_ ?_ | refine WLA.x rfl rfl ?_ (fun x => ?_) | refine WLA.x0 rfl ?_ (fun x => ?_)); first | exact trivial | exact rfl | assumption | omega | (refine ⟨?_, ?_⟩ <;> omega) | (simp only [Room, List.length_set, List.length_append, List.length_cons, List.length_nil, List.length_replicate]; omega) | decide | skip) | (refine Stp.go ?_) | (refine WPA.ifT ?_) | (refine WPA.ifF ?_) | ((first | refine WPA.dec ?_); first | refine .inl ⟨by first | assumption | omega | with_reducible rfl | (refine fun h => h ?_; first | assumption | with_reducible rfl) | (simp only [List.length_append, List.length_cons, List.length_nil, List.length_set] <;> omega) | decide, ?_⟩ | refine .inr ⟨by first | assumption | omega | with_reducible rfl | (refine fun h => h ?_; first | assumption | with_reducible rfl) | (simp only [List.length_append, List.length_cons, List.length_nil, List.length_set] <;> omega) | decide, ?_⟩) | ((first | refine WPA.ifBt ?_ ?_ | refine WPA.ifBnf ?_ ?_); assumption) | ((first | refine WPA.ifBnt ?_ ?_ | refine WPA.ifBf ?_ ?_); assumption) | ((first | refine WPA.ifs ?_ ?_ | refine WPA.ifB ?_ ?_) <;> intro hc))
  revert x; intro t2
  refine WPA.freezeBk (b := t2) ?_
  have hM2 : MdI (BkI t2 25 [.int .i64 fr, .slice wv.a wv.n wv.cap, .slice g.a g.n g.cap] ++ I) kg re wv g ws gr := hM.sub
  have hJ : SubI (BkI t2 25 [.int .i64 fr, .slice wv.a wv.n wv.cap, .slice g.a g.n g.cap] ++ I) I := inferInstance
  have hI2 : InI (BkI t2 25 [.int .i64 fr, .slice wv.a wv.n wv.cap, .slice g.a g.n g.cap] ++ I) t2 25 [.int .i64 fr, .slice wv.a wv.n wv.cap, .slice g.a g.n g.cap] := inferInstance
  generalize BkI t2 25 [.int .i64 fr, .slice wv.a wv.n wv.cap, .slice g.a g.n g.cap] ++ I = J at hM2 hJ hI2
  have hg := hM2.grams
  repeat' (first | ((first | refine WLA.m rfl rfl ?_ ?_ | refine WLA.st rfl ?_ ?_ | refine WLA.x rfl rfl ?_ (fun x => ?_) | refine WLA.x0 rfl ?_ (fun x => ?_)); first | exact trivial | exact rfl | assumption | omega | (refine ⟨?_, ?_⟩ <;> omega) | (simp only [Room, List.length_set, List.length_append, List.length_cons, List.length_nil, List.length_replicate]; omega) | decide | skip) | (refine Stp.go ?_) | (refine WPA.ifT ?_) | (refine WPA.ifF ?_) | ((first | refine WPA.dec ?_); first | refine .inl ⟨by first | assumption | omega | with_reducible rfl | (refine fun h => h ?_; first | assumption | with_reducible rfl) | (simp only [List.length_append, List.length_cons, List.length_nil, List.length_set] <;> omega) | decide, ?_⟩ | refine .inr ⟨by first | assumption | omega | with_reducible rfl | (refine fun h => h ?_; first | assumption | with_reducible rfl) | (simp only [List.length_append, List.length_cons, List.length_nil, List.length_set] <;> omega) | decide, ?_⟩) | ((first | refine WPA.ifBt ?_ ?_ | refine WPA.ifBnf ?_ ?_); assumption) | ((first | refine WPA.ifBnt ?_ ?_ | refine WPA.ifBf ?_ ?_); assumption) | ((first | refine WPA.ifs ?_ ?_ | refine WPA.ifB ?_ ?_) <;> intro hc))
  refine WPA.loopS (σ := GS) (fun y => [(1, .int .i64 least), (2, .pointer (some ⟨t2, 0, none⟩)), (5, .slice y.o.a y.o.n y.o.cap), (6, .int .i64 y.k)]) (fun y => y.k ≤ gr.length ∧ y.vs.length = y.k)
    (fun y => SL w0 J (OwnS 35 y.o y.vs :: RowH 4 y.vs ((chS re gr (stK kg re gr least)).take y.k) :: L)) (fun y => gr.length - y.k) ⟨0, SV.nil, []⟩ ⟨rfl, rfl, rfl, rfl, trivial⟩ ⟨Nat.zero_le _, rfl⟩ (fun w h => ?_) ?_
  · have h2 := (RowH.nil (α := Bool) (e := 4)).sl h
    show SL w0 J (OwnS 35 SV.nil ([] : List SV) :: RowH 4 [] ([] : List (List Bool)) :: L) w
    exact h2.to
  rintro ⟨k, o, vs⟩ ρ ⟨hk, hvl⟩
  dsimp only at hk hvl ⊢
  by_cases hkl : k < gr.length
  · have hkl' : (k : Int) < gr.length := by omega
    have hme : at_ gr (k : Int) ∈ gr := by rw [at_nat gr k hkl]; exact List.getElem_mem _
    have hRk := hM2.rows _ hme
    have hEk := hM2.elems _ hme
    have hlk := hM.rln _ hme
    have hzk := z3 _ hme
    have hyk := y1 k hkl
    have hget := chS_get (re := re) (K := stK kg re gr least) hkl
    have hst : ∀ i : Nat, stK kg re gr least k i = decide (stP least (at_ (re (at_ gr (k : Int))) (i : Int)).2.1 (at_ (re (at_ gr (k : Int))) (i : Int)).2.2 (stV kg re gr k (kg (at_ (re (at_ gr (k : Int))) (i : Int)).1))) := fun i => rfl
    generalize stK kg re gr least k = Kk at hget hst
    generalize hes : re (at_ gr (k : Int)) = es at hRk hEk hlk hzk hyk hget hst
    repeat' (first | ((first | refine WLA.m rfl rfl ?_ ?_ | refine WLA.st rfl ?_ ?_ | refine WLA.x rfl rfl ?_ (fun x => ?_) | refine WLA.x0 rfl ?_ (fun x => ?_)); first | exact trivial | exact rfl | assumption | omega | (refine ⟨?_, ?_⟩ <;> omega) | (simp only [Room, List.length_set, List.length_append, List.length_cons, List.length_nil, List.length_replicate]; omega) | decide | skip) | (refine Stp.go ?_) | (refine WPA.ifT ?_) | (refine WPA.ifF ?_) | ((first | refine WPA.dec ?_); first | refine .inl ⟨by first | assumption | omega | with_reducible rfl | (refine fun h => h ?_; first | assumption | with_reducible rfl) | (simp only [List.length_append, List.length_cons, List.length_nil, List.length_set] <;> omega) | decide, ?_⟩ | refine .inr ⟨by first | assumption | omega | with_reducible rfl | (refine fun h => h ?_; first | assumption | with_reducible rfl) | (simp only [List.length_append, List.length_cons, List.length_nil, List.length_set] <;> omega) | decide, ?_⟩) | ((first | refine WPA.ifBt ?_ ?_ | refine WPA.ifBnf ?_ ?_); assumption) | ((first | refine WPA.ifBnt ?_ ?_ | refine WPA.ifBf ?_ ?_); assumption) | ((first | refine WPA.ifs ?_ ?_ | refine WPA.ifB ?_ ?_) <;> intro hc))
    refine WPA.loopS (σ := RS) (fun y => [(1, .int .i64 least), (2, .pointer (some ⟨t2, 0, none⟩)), (5, .slice o.a o.n o.cap), (6, .int .i64 k), (7, .slice y.c.a y.c.n y.c.cap), (8, .int .i64 y.i)]) (fun y => y.i ≤ es.length ∧ y.bs = (chR es.length Kk k).take y.i)
      (fun y => SL w0 J (OwnS 4 y.c y.bs :: OwnS 35 o vs :: RowH 4 vs ((chS re gr (stK kg re gr least)).take k) :: L)) (fun y => es.length - y.i) ⟨0, SV.nil, []⟩ ⟨rfl, rfl, rfl, rfl, rfl, rfl, trivial⟩ ⟨Nat.zero_le _, rfl⟩ (fun w h => h.to) ?_
    rintro ⟨i, cur, bs⟩ ρ ⟨hi, hb⟩
    dsimp only at hi hb ⊢
    have hbl : bs.length = i := by rw [hb, List.length_take]; simp [chR]; omega
    by_cases hil : i < es.length
    · have hil' : (i : Int) < es.length := by omega
      have hnew := take_one (chR_get (K := Kk) (k := k) hil)
      rw [← hb] at hnew
      have hmi : at_ es (i : Int) ∈ es := by rw [at_nat _ i hil]; exact List.getElem_mem _
      have hG := hEk _ hmi
      have hxl := hyk _ hmi
      have hcp := hzk _ hmi
      have hsi := hst i
      generalize hee : at_ es (i : Int) = e at hG hxl hcp hsi
      by_cases h0 : k = 0
      · have h0' : (k : Int) = 0 := by omega
        have h0'' : ¬ (0 : Int) < k := by omega
        repeat' (first | ((first | refine WLA.m rfl rfl ?_ ?_ | refine WLA.st rfl ?_ ?_ | refine WLA.x rfl rfl ?_ (fun x => ?_) | refine WLA.x0 rfl ?_ (fun x => ?_)); first | exact trivial | exact rfl | assumption | omega | (refine ⟨?_, ?_⟩ <;> omega) | (simp only [Room, List.length_set, List.length_append, List.length_cons, List.length_nil, List.length_replicate]; omega) | decide | skip) | (refine Stp.go ?_) | (refine WPA.ifT ?_) | (refine WPA.ifF ?_) | (refine WLA.no rfl rfl ?_) | ((first | refine WPA.dec ?_ | ((fail_if_success (guard_target =~ WLA _ _ _ _ _ _ (put1 _ _ (.bool true)) _)); (fail_if_success (guard_target =~ WLA _ _ _ _ _ _ (put1 _ _ (.bool false)) _)); refine WLA.dec rfl rfl ?_) | refine WLA.pk ?_); first | refine .inl ⟨by first | assumption | omega | with_reducible rfl | (refine fun h => h ?_; first | assumption | with_reducible rfl) | (simp only [List.length_append, List.length_cons, List.length_nil, List.length_set] <;> omega) | decide, ?_⟩ | refine .inr ⟨by first | assumption | omega | with_reducible rfl | (refine fun h => h ?_; first | assumption | with_reducible rfl) | (simp only [List.length_append, List.length_cons, List.length_nil, List.length_set] <;> omega) | decide, ?_⟩) | ((first | refine WPA.ifBt ?_ ?_ | refine WPA.ifBnf ?_ ?_); assumption) | ((first | refine WPA.ifBnt ?_ ?_ | refine WPA.ifBf ?_ ?_); assumption) | ((first | refine WPA.ifs ?_ ?_ | refine WPA.ifB ?_ ?_) <;> intro hc) | ((fail_if_success (guard_target =~ WLA _ _ _ _ _ _ (put1 _ _ (.bool true)) _)); (fail_if_success (guard_target =~ WLA _ _ _ _ _ _ (put1 _ _ (.bool false)) _)); (first | refine WLA.both rfl rfl ?_ ?_ | refine WLA.bothB rfl rfl ?_ ?_) <;> intro hg))
        exact QQ.loopS ⟨i + 1, x, bs ++ [true]⟩ ⟨rfl, rfl, rfl, rfl, rfl, rfl, trivial⟩ ⟨hil, by dsimp only; rw [hnew, h0]; rfl⟩ (by dsimp only; omega) (fun w h => h.to)
      · have h0' : ¬ (k : Int) = 0 := by omega
        have h0'' : (0 : Int) < k := by omega
        obtain ⟨eg, ep, eb⟩ := e
        dsimp only at hG hxl hcp hsi
        generalize kg eg = xs at hG hxl hsi
        have hkx : (0 : Int) ≤ k ∧ (k : Int) < xs.length := by omega
        have hk1 : (1 : Int) ≤ k ∧ (k : Int) ≤ xs.length := by omega
        have hs1 : SlI J (eg.cut 1 0 (k : Int)) Int inferInstance (xs.take k) := by
          have hci : SlI J (eg.cut 1 0 (k : Int)) Int inferInstance (cutL xs 0 (k : Int)) := inferInstance
          rwa [cut_take (by omega)] at hci
        have htl : (xs.take k).length = k := by rw [List.length_take]; omega
        have htl2 : (xs.take k).length ≤ 1000000 := by omega
        have hs2 : SlI J (eg.cut 1 1 (k : Int)) Int inferInstance ((xs.take k).drop 1) := by
          have hci : SlI J (eg.cut 1 1 (k : Int)) Int inferInstance (cutL xs 1 (k : Int)) := inferInstance
          have : cutL xs 1 (k : Int) = (xs.take k).drop 1 := by
            unfold cutL
            rw [if_pos (by omega), show (1 : Int).toNat = 1 from rfl, show ((k : Int) - 1).toNat = k - 1 by omega, List.drop_take]
          rwa [this] at hci
        have hdl : ((xs.take k).drop 1).length ≤ 8 := by rw [List.length_drop]; omega
        have hdn : ((xs.take k).drop 1).length < 9 := by omega
        have htr : truL gr.length ((xs.take k).drop 1) = (xs.take k).drop 1 := if_neg (by rw [List.length_drop]; omega)
        have hPt := fun {L : List HP} => rProb_tr (w0 := w0) (L := L) (fr := fr) (w := at_ xs (k : Int)) z2 z3 z1 9 hM2 (s := eg.cut 1 1 (k : Int)) (hs := (xs.take k).drop 1) hdn (by omega)
        rw [htr] at hPt
        have hbd := prb_bd (kg := kg) (w := at_ xs (k : Int)) z3 ((xs.take k).drop 1)
        unfold stV at hsi
        generalize prbN kg re gr (at_ xs (k : Int)) ((xs.take k).drop 1) = pv at hPt hbd hsi
        repeat' ((fail_if_success (guard_target =~ WPA _ _ _ (.region 13 _ _) _ _ _)); first | ((rw [hee]; dsimp only)) | ((first | refine WLA.m rfl rfl ?_ ?_ | refine WDQ.m rfl rfl ?_ ?_ | refine WLA.st rfl ?_ ?_ | refine WLA.x rfl rfl ?_ (fun x => ?_) | refine WLA.x0 rfl ?_ (fun x => ?_)); first | exact trivial | exact rfl | assumption | omega | (refine ⟨?_, ?_⟩ <;> omega) | (simp only [Room, List.length_set, List.length_append, List.length_cons, List.length_nil, List.length_replicate]; omega) | decide | skip) | (refine Stp.go ?_) | (guard_target =~ WLA _ _ _ _ _ (⟨_, .call ⟨.value (.func 42), _, _⟩, _, _, _, _⟩ :: _) _ _; first | (refine WLA.call rfl rfl (rFind_any (hr := RdS.imm (h := hs1)) hM2 htl2) ?_; rintro ⟨⟨rf, cp, fb⟩, hbc⟩; dsimp only; have hbc := hbc z3) | (refine WLA.call0 rfl (rFind_any (hr := RdS.imm (h := hs1)) hM2 htl2) ?_; rintro ⟨⟨rf, cp, fb⟩, hbc⟩; dsimp only; have hbc := hbc z3)) | (refine WPA.ifT ?_) | (refine WPA.ifF ?_) | (refine WLA.no rfl rfl ?_) | ((first | refine WPA.dec ?_ | ((fail_if_success (guard_target =~ WLA _ _ _ _ _ _ (put1 _ _ (.bool true)) _)); (fail_if_success (guard_target =~ WLA _ _ _ _ _ _ (put1 _ _ (.bool false)) _)); refine WLA.dec rfl rfl ?_) | refine WLA.pk ?_); first | refine .inl ⟨by first | assumption | omega | with_reducible rfl | (refine fun h => h ?_; first | assumption | with_reducible rfl) | (simp only [List.length_append, List.length_cons, List.length_nil, List.length_set] <;> omega) | decide, ?_⟩ | refine .inr ⟨by first | assumption | omega | with_reducible rfl | (refine fun h => h ?_; first | assumption | with_reducible rfl) | (simp only [List.length_append, List.length_cons, List.length_nil, List.length_set] <;> omega) | decide, ?_⟩) | ((first | refine WPA.ifBt ?_ ?_ | refine WPA.ifBnf ?_ ?_); assumption) | ((first | refine WPA.ifBnt ?_ ?_ | refine WPA.ifBf ?_ ?_); assumption) | ((first | refine WPA.ifs ?_ ?_ | refine WPA.ifB ?_ ?_) <;> intro hc) | ((fail_if_success (guard_target =~ WLA _ _ _ _ _ _ (put1 _ _ (.bool true)) _)); (fail_if_success (guard_target =~ WLA _ _ _ _ _ _ (put1 _ _ (.bool false)) _)); (first | refine WLA.both rfl rfl ?_ ?_ | refine WLA.bothB rfl rfl ?_ ?_) <;> intro hg) | (guard_target =~ WPA _ _ _ (.region 12 _ true) _ _ _; refine WPA.drawT 11 (.q 0 (.q 1 (.q 2 (.q 3 (.q 4 (.b false 5 (.q 6 (.q 7 (.q 8 (.e 9 (.e 10 .fin))))) false 9 (.e 5 (.q 6 (.q 7 (.q 8 (.e 10 .fin))))))))))) mixed ?_ ?_; kernel_rfl) | (refine WDA.finish (tl := [⟨_, _, _, _, _, _⟩]) rfl ?_) | (refine WDQ.see rfl ?_) | (first | (refine WDA.two rfl rfl ?_ ?_) | (refine WDA.twoL rfl rfl ?_ ?_) | (refine WDA.twoR rfl rfl ?_ ?_) | (refine WDA.twoW rfl rfl ?_ ?_)) | (refine WDE.see rfl ?_) | (refine WDE.alloc rfl rfl (fun w h => h) (fun x => ?_)) | (refine WDE.stE rfl ?_) | (refine WDE.x rfl rfl ?_ ?_ (fun x => ?_); rotate_left 1; (intro x w h; first | exact h | exact Ent.drop1.sl h | exact SL.unI h | exact SL.to h); rotate_left 1; first | exact trivial | exact rfl | assumption | omega | (refine ⟨?_, ?_⟩ <;> omega) | (simp only [Room, List.length_set, List.length_append, List.length_cons, List.length_nil, List.length_replicate]; omega) | decide | skip) | (guard_target =~ WDE _ _ _ _ _ _ _ ⟨_, .call ⟨.value (.func 42), _, _⟩, _, _, _, _⟩ _ _ _; refine WDE.call rfl rfl (rFind_any (hr := RdS.imm (h := hs1)) hM2 htl2) ?_ ?_; (intro x w h; first | exact h | exact Ent.drop1.sl h | exact SL.unI h | exact SL.to h); rintro ⟨⟨rf, cp, fb⟩, hbc⟩; dsimp only; have hbc := hbc z3) | (guard_target =~ WDW _ _ _ _ _ _ _ ⟨_, .call ⟨.value (.func 42), _, _⟩, _, _, _, _⟩ _ _ _; refine WDW.call rfl rfl (rFind_any (hr := RdS.imm (h := hs1)) hM2 htl2) ?_; rintro ⟨⟨rf, cp, fb⟩, hbc⟩; dsimp only; have hbc := hbc z3))
        all_goals
          generalize bckN kg re gr (xs.take k) = bv at hbc hsi
          have hsm : -9223372036854775808 ≤ ep - bv ∧ ep - bv ≤ 9223372036854775807 := by omega
          have hsm2 : -9223372036854775808 ≤ ep - bv - pv ∧ ep - bv - pv ≤ 9223372036854775807 := by omega
          have hsm3 : -9223372036854775808 ≤ 0 - (ep - bv - pv) ∧ 0 - (ep - bv - pv) ≤ 9223372036854775807 := by omega
          have hfin : ∀ b : Bool, (b = true ↔ stP least ep eb (bv + pv)) → bs ++ [b] = (chR es.length Kk k).take (i + 1) := fun b h => by
            rw [hnew, hsi, decide_eq_false h0]
            congr 2
            rw [Bool.false_or]
            cases b
            · exact (decide_eq_false fun hp => by have := h.2 hp; cases this).symm
            · exact (decide_eq_true (h.1 rfl)).symm
          by_cases hb0 : eb ≠ 0
          · skip
            repeat' (first | ((first | refine WLA.m rfl rfl ?_ ?_ | refine WDQ.m rfl rfl ?_ ?_ | refine WLA.st rfl ?_ ?_ | refine WLA.x rfl rfl ?_ (fun x => ?_) | refine WLA.x0 rfl ?_ (fun x => ?_)); first | exact trivial | exact rfl | assumption | omega | (refine ⟨?_, ?_⟩ <;> omega) | (simp only [Room, List.length_set, List.length_append, List.length_cons, List.length_nil, List.length_replicate]; omega) | decide | skip) | (refine Stp.go ?_) | (guard_target =~ WLA _ _ _ _ _ (⟨_, .call ⟨.value (.func 21), _, _⟩, _, _, _, _⟩ :: _) _ _; first | (refine WLA.call rfl rfl (hPt) ?_; rintro ⟨⟩) | (refine WLA.call0 rfl (hPt) ?_; rintro ⟨⟩)) | (refine WPA.ifT ?_) | (refine WPA.ifF ?_) | (refine WLA.no rfl rfl ?_) | ((first | refine WPA.dec ?_ | ((fail_if_success (guard_target =~ WLA _ _ _ _ _ _ (put1 _ _ (.bool true)) _)); (fail_if_success (guard_target =~ WLA _ _ _ _ _ _ (put1 _ _ (.bool false)) _)); refine WLA.dec rfl rfl ?_) | refine WLA.pk ?_); first | refine .inl ⟨by first | assumption | omega | with_reducible rfl | (refine fun h => h ?_; first | assumption | with_reducible rfl) | (simp only [List.length_append, List.length_cons, List.length_nil, List.length_set] <;> omega) | decide, ?_⟩ | refine .inr ⟨by first | assumption | omega | with_reducible rfl | (refine fun h => h ?_; first | assumption | with_reducible rfl) | (simp only [List.length_append, List.length_cons, List.length_nil, List.length_set] <;> omega) | decide, ?_⟩) | ((first | refine WPA.ifBt ?_ ?_ | refine WPA.ifBnf ?_ ?_); assumption) | ((first | refine WPA.ifBnt ?_ ?_ | refine WPA.ifBf ?_ ?_); assumption) | ((first | refine WPA.ifs ?_ ?_ | refine WPA.ifB ?_ ?_) <;> intro hc) | ((fail_if_success (guard_target =~ WLA _ _ _ _ _ _ (put1 _ _ (.bool true)) _)); (fail_if_success (guard_target =~ WLA _ _ _ _ _ _ (put1 _ _ (.bool false)) _)); (first | refine WLA.both rfl rfl ?_ ?_ | refine WLA.bothB rfl rfl ?_ ?_) <;> intro hg) | (guard_target =~ WPA _ _ _ (.region 13 _ true) _ _ _; refine WPA.drawT 16 (.q 0 (.q 1 (.q 2 (.q 3 (.q 4 (.q 5 (.q 6 (.q 7 (.q 8 (.q 9 (.q 10 (.q 11 (.q 12 (.q 13 (.q 14 (.e 15 .fin)))))))))))))))) mixed ?_ ?_; kernel_rfl) | (refine WDA.finish (tl := [⟨_, _, _, _, _, _⟩, ⟨_, _, _, _, _, _⟩]) rfl ?_) | (refine WDQ.see rfl ?_) | (refine WDE.see rfl ?_) | (refine WDE.alloc rfl rfl (fun w h => h) (fun x => ?_)) | (refine WDE.stE rfl ?_) | (refine WDE.x rfl rfl ?_ ?_ (fun x => ?_); rotate_left 1; (intro x w h; first | exact h | exact Ent.drop1.sl h | exact SL.unI h | exact SL.to h); rotate_left 1; first | exact trivial | exact rfl | assumption | omega | (refine ⟨?_, ?_⟩ <;> omega) | (simp only [Room, List.length_set, List.length_append, List.length_cons, List.length_nil, List.length_replicate]; omega) | decide | skip) | (guard_target =~ WDE _ _ _ _ _ _ _ ⟨_, .call ⟨.value (.func 21), _, _⟩, _, _, _, _⟩ _ _ _; refine WDE.call rfl rfl (hPt) ?_ ?_; (intro x w h; first | exact h | exact Ent.drop1.sl h | exact SL.unI h | exact SL.to h); rintro ⟨⟩) | (guard_target =~ WDW _ _ _ _ _ _ _ ⟨_, .call ⟨.value (.func 21), _, _⟩, _, _, _, _⟩ _ _ _; refine WDW.call rfl rfl (hPt) ?_; rintro ⟨⟩))
            all_goals exact QQ.loopS ⟨i + 1, x, bs ++ [true]⟩ ⟨rfl, rfl, rfl, rfl, rfl, rfl, trivial⟩ ⟨hil, hfin true ⟨fun _ => .inl hb0, fun _ => rfl⟩⟩ (by dsimp only; omega) (fun w h => h.to)
          · by_cases hd : least < ep - bv - pv
            · skip
              repeat' (first | ((first | refine WLA.m rfl rfl ?_ ?_ | refine WDQ.m rfl rfl ?_ ?_ | refine WLA.st rfl ?_ ?_ | refine WLA.x rfl rfl ?_ (fun x => ?_) | refine WLA.x0 rfl ?_ (fun x => ?_)); first | exact trivial | exact rfl | assumption | omega | (refine ⟨?_, ?_⟩ <;> omega) | (simp only [Room, List.length_set, List.length_append, List.length_cons, List.length_nil, List.length_replicate]; omega) | decide | skip) | (refine Stp.go ?_) | (guard_target =~ WLA _ _ _ _ _ (⟨_, .call ⟨.value (.func 21), _, _⟩, _, _, _, _⟩ :: _) _ _; first | (refine WLA.call rfl rfl (hPt) ?_; rintro ⟨⟩) | (refine WLA.call0 rfl (hPt) ?_; rintro ⟨⟩)) | (refine WPA.ifT ?_) | (refine WPA.ifF ?_) | (refine WLA.no rfl rfl ?_) | ((first | refine WPA.dec ?_ | ((fail_if_success (guard_target =~ WLA _ _ _ _ _ _ (put1 _ _ (.bool true)) _)); (fail_if_success (guard_target =~ WLA _ _ _ _ _ _ (put1 _ _ (.bool false)) _)); refine WLA.dec rfl rfl ?_) | refine WLA.pk ?_); first | refine .inl ⟨by first | assumption | omega | with_reducible rfl | (refine fun h => h ?_; first | assumption | with_reducible rfl) | (simp only [List.length_append, List.length_cons, List.length_nil, List.length_set] <;> omega) | decide, ?_⟩ | refine .inr ⟨by first | assumption | omega | with_reducible rfl | (refine fun h => h ?_; first | assumption | with_reducible rfl) | (simp only [List.length_append, List.length_cons, List.length_nil, List.length_set] <;> omega) | decide, ?_⟩) | ((first | refine WPA.ifBt ?_ ?_ | refine WPA.ifBnf ?_ ?_); assumption) | ((first | refine WPA.ifBnt ?_ ?_ | refine WPA.ifBf ?_ ?_); assumption) | ((first | refine WPA.ifs ?_ ?_ | refine WPA.ifB ?_ ?_) <;> intro hc) | ((fail_if_success (guard_target =~ WLA _ _ _ _ _ _ (put1 _ _ (.bool true)) _)); (fail_if_success (guard_target =~ WLA _ _ _ _ _ _ (put1 _ _ (.bool false)) _)); (first | refine WLA.both rfl rfl ?_ ?_ | refine WLA.bothB rfl rfl ?_ ?_) <;> intro hg) | (guard_target =~ WPA _ _ _ (.region 13 _ true) _ _ _; refine WPA.drawT 16 (.q 0 (.q 1 (.q 2 (.q 3 (.q 4 (.q 5 (.q 6 (.q 7 (.q 8 (.q 9 (.q 10 (.q 11 (.q 12 (.q 13 (.q 14 (.e 15 .fin)))))))))))))))) mixed ?_ ?_; kernel_rfl) | (refine WDA.finish (tl := [⟨_, _, _, _, _, _⟩, ⟨_, _, _, _, _, _⟩]) rfl ?_) | (refine WDQ.see rfl ?_) | (refine WDE.see rfl ?_) | (refine WDE.alloc rfl rfl (fun w h => h) (fun x => ?_)) | (refine WDE.stE rfl ?_) | (refine WDE.x rfl rfl ?_ ?_ (fun x => ?_); rotate_left 1; (intro x w h; first | exact h | exact Ent.drop1.sl h | exact SL.unI h | exact SL.to h); rotate_left 1; first | exact trivial | exact rfl | assumption | omega | (refine ⟨?_, ?_⟩ <;> omega) | (simp only [Room, List.length_set, List.length_append, List.length_cons, List.length_nil, List.length_replicate]; omega) | decide | skip) | (guard_target =~ WDE _ _ _ _ _ _ _ ⟨_, .call ⟨.value (.func 21), _, _⟩, _, _, _, _⟩ _ _ _; refine WDE.call rfl rfl (hPt) ?_ ?_; (intro x w h; first | exact h | exact Ent.drop1.sl h | exact SL.unI h | exact SL.to h); rintro ⟨⟩) | (guard_target =~ WDW _ _ _ _ _ _ _ ⟨_, .call ⟨.value (.func 21), _, _⟩, _, _, _, _⟩ _ _ _; refine WDW.call rfl rfl (hPt) ?_; rintro ⟨⟩))
              all_goals exact QQ.loopS ⟨i + 1, x, bs ++ [true]⟩ ⟨rfl, rfl, rfl, rfl, rfl, rfl, trivial⟩ ⟨hil, hfin true ⟨fun _ => .inr (by omega), fun _ => rfl⟩⟩ (by dsimp only; omega) (fun w h => h.to)
            · skip
              repeat' (first | ((first | refine WLA.m rfl rfl ?_ ?_ | refine WDQ.m rfl rfl ?_ ?_ | refine WLA.st rfl ?_ ?_ | refine WLA.x rfl rfl ?_ (fun x => ?_) | refine WLA.x0 rfl ?_ (fun x => ?_)); first | exact trivial | exact rfl | assumption | omega | (refine ⟨?_, ?_⟩ <;> omega) | (simp only [Room, List.length_set, List.length_append, List.length_cons, List.length_nil, List.length_replicate]; omega) | decide | skip) | (refine Stp.go ?_) | (guard_target =~ WLA _ _ _ _ _ (⟨_, .call ⟨.value (.func 21), _, _⟩, _, _, _, _⟩ :: _) _ _; first | (refine WLA.call rfl rfl (hPt) ?_; rintro ⟨⟩) | (refine WLA.call0 rfl (hPt) ?_; rintro ⟨⟩)) | (refine WPA.ifT ?_) | (refine WPA.ifF ?_) | (refine WLA.no rfl rfl ?_) | ((first | refine WPA.dec ?_ | ((fail_if_success (guard_target =~ WLA _ _ _ _ _ _ (put1 _ _ (.bool true)) _)); (fail_if_success (guard_target =~ WLA _ _ _ _ _ _ (put1 _ _ (.bool false)) _)); refine WLA.dec rfl rfl ?_) | refine WLA.pk ?_); first | refine .inl ⟨by first | assumption | omega | with_reducible rfl | (refine fun h => h ?_; first | assumption | with_reducible rfl) | (simp only [List.length_append, List.length_cons, List.length_nil, List.length_set] <;> omega) | decide, ?_⟩ | refine .inr ⟨by first | assumption | omega | with_reducible rfl | (refine fun h => h ?_; first | assumption | with_reducible rfl) | (simp only [List.length_append, List.length_cons, List.length_nil, List.length_set] <;> omega) | decide, ?_⟩) | ((first | refine WPA.ifBt ?_ ?_ | refine WPA.ifBnf ?_ ?_); assumption) | ((first | refine WPA.ifBnt ?_ ?_ | refine WPA.ifBf ?_ ?_); assumption) | ((first | refine WPA.ifs ?_ ?_ | refine WPA.ifB ?_ ?_) <;> intro hc) | ((fail_if_success (guard_target =~ WLA _ _ _ _ _ _ (put1 _ _ (.bool true)) _)); (fail_if_success (guard_target =~ WLA _ _ _ _ _ _ (put1 _ _ (.bool false)) _)); (first | refine WLA.both rfl rfl ?_ ?_ | refine WLA.bothB rfl rfl ?_ ?_) <;> intro hg) | (guard_target =~ WPA _ _ _ (.region 13 _ true) _ _ _; refine WPA.drawT 16 (.q 0 (.q 1 (.q 2 (.q 3 (.q 4 (.q 5 (.q 6 (.q 7 (.q 8 (.q 9 (.q 10 (.q 11 (.q 12 (.q 13 (.q 14 (.e 15 .fin)))))))))))))))) mixed ?_ ?_; kernel_rfl) | (refine WDA.finish (tl := [⟨_, _, _, _, _, _⟩, ⟨_, _, _, _, _, _⟩]) rfl ?_) | (refine WDQ.see rfl ?_) | (refine WDE.see rfl ?_) | (refine WDE.alloc rfl rfl (fun w h => h) (fun x => ?_)) | (refine WDE.stE rfl ?_) | (refine WDE.x rfl rfl ?_ ?_ (fun x => ?_); rotate_left 1; (intro x w h; first | exact h | exact Ent.drop1.sl h | exact SL.unI h | exact SL.to h); rotate_left 1; first | exact trivial | exact rfl | assumption | omega | (refine ⟨?_, ?_⟩ <;> omega) | (simp only [Room, List.length_set, List.length_append, List.length_cons, List.length_nil, List.length_replicate]; omega) | decide | skip) | (guard_target =~ WDE _ _ _ _ _ _ _ ⟨_, .call ⟨.value (.func 21), _, _⟩, _, _, _, _⟩ _ _ _; refine WDE.call rfl rfl (hPt) ?_ ?_; (intro x w h; first | exact h | exact Ent.drop1.sl h | exact SL.unI h | exact SL.to h); rintro ⟨⟩) | (guard_target =~ WDW _ _ _ _ _ _ _ ⟨_, .call ⟨.value (.func 21), _, _⟩, _, _, _, _⟩ _ _ _; refine WDW.call rfl rfl (hPt) ?_; rintro ⟨⟩))
              all_goals exact QQ.loopS ⟨i + 1, x, bs ++ [decide (least < 0 - (ep - bv - pv))]⟩ ⟨rfl, rfl, rfl, rfl, rfl, rfl, trivial⟩ ⟨hil, hfin _ ⟨fun h => .inr (by have := of_decide_eq_true h; omega), fun h => decide_eq_true (by have := h.resolve_left hb0; omega)⟩⟩ (by dsimp only; omega) (fun w h => h.to)
    · have hil' : ¬ (i : Int) < es.length := by omega
      rw [List.take_of_length_le (by simp [chR]; omega)] at hb
      rw [← hb] at hget
      repeat' (first | ((first | refine WLA.m rfl rfl ?_ ?_ | refine WLA.st rfl ?_ ?_ | refine WLA.x rfl rfl ?_ (fun x => ?_) | refine WLA.x0 rfl ?_ (fun x => ?_)); first | exact trivial | exact rfl | assumption | omega | (refine ⟨?_, ?_⟩ <;> omega) | (simp only [Room, List.length_set, List.length_append, List.length_cons, List.length_nil, List.length_replicate]; omega) | decide | skip) | (refine Stp.go ?_) | (refine WPA.ifT ?_) | (refine WPA.ifF ?_) | ((first | refine WPA.dec ?_); first | refine .inl ⟨by first | assumption | omega | with_reducible rfl | (refine fun h => h ?_; first | assumption | with_reducible rfl) | (simp only [List.length_append, List.length_cons, List.length_nil, List.length_set] <;> omega) | decide, ?_⟩ | refine .inr ⟨by first | assumption | omega | with_reducible rfl | (refine fun h => h ?_; first | assumption | with_reducible rfl) | (simp only [List.length_append, List.length_cons, List.length_nil, List.length_set] <;> omega) | decide, ?_⟩) | ((first | refine WPA.ifBt ?_ ?_ | refine WPA.ifBnf ?_ ?_); assumption) | ((first | refine WPA.ifBnt ?_ ?_ | refine WPA.ifBf ?_ ?_); assumption) | ((first | refine WPA.ifs ?_ ?_ | refine WPA.ifB ?_ ?_) <;> intro hc))
      refine QQ.loopS ⟨k + 1, x, vs ++ [cur]⟩ ⟨rfl, rfl, rfl, rfl, trivial⟩ ⟨by dsimp only; omega, by simp [hvl]⟩ (by dsimp only; omega) (fun w h => ?_)
      dsimp only
      rw [take_one hget]
      have h2 := (EntC.out (L' := OwnS 4 cur bs :: RowH 4 vs ((chS re gr (stK kg re gr least)).take k) :: OwnS 35 x (vs ++ [cur]) :: L)).sl h
      exact ((RowH.snoc (by rw [List.length_take, chS_len]; omega)).sl h2).to
  · have hkl' : ¬ (k : Int) < gr.length := by omega
    rw [List.take_of_length_le (by rw [chS_len]; omega)]
    repeat' (first | ((first | refine WLA.m rfl rfl ?_ ?_ | refine WLA.st rfl ?_ ?_ | refine WLA.x rfl rfl ?_ (fun x => ?_) | refine WLA.x0 rfl ?_ (fun x => ?_)); first | exact trivial | exact rfl | assumption | omega | (refine ⟨?_, ?_⟩ <;> omega) | (simp only [Room, List.length_set, List.length_append, List.length_cons, List.length_nil, List.length_replicate]; omega) | decide | skip) | (refine Stp.go ?_) | (refine WPA.ifT ?_) | (refine WPA.ifF ?_) | ((first | refine WPA.dec ?_); first | refine .inl ⟨by first | assumption | omega | with_reducible rfl | (refine fun h => h ?_; first | assumption | with_reducible rfl) | (simp only [List.length_append, List.length_cons, List.length_nil, List.length_set] <;> omega) | decide, ?_⟩ | refine .inr ⟨by first | assumption | omega | with_reducible rfl | (refine fun h => h ?_; first | assumption | with_reducible rfl) | (simp only [List.length_append, List.length_cons, List.length_nil, List.length_set] <;> omega) | decide, ?_⟩) | ((first | refine WPA.ifBt ?_ ?_ | refine WPA.ifBnf ?_ ?_); assumption) | ((first | refine WPA.ifBnt ?_ ?_ | refine WPA.ifBf ?_ ?_); assumption) | ((first | refine WPA.ifs ?_ ?_ | refine WPA.ifB ?_ ?_) <;> intro hc))
    exact QQ.end_ rfl o rfl fun w h => (((GridH.fold (by rw [chS_len]; omega)).sl h).sub hJ.out).to
end
end Go.Proofs.Ytcomkdndddkbeaa
namespace Go.Proofs.Ytcomkdndddkbeaa
open Go Go.Fw Go.RowKit
set_option linter.unusedVariables false
set_option linter.unusedSimpArgs false
set_option maxRecDepth 100000
set_option maxHeartbeats 16000000
set_option synthInstance.maxHeartbeats 200000
set_option synthInstance.maxSize 100000
attribute [local irreducible] WPA WLA WDA WDQ WDE QQ seqQ blockQ loopQ fnQ OpP OpT Tr TrP SL SLd OwnS LitS Bk BkE Ob
section
abbrev EV := (Int × Int) × List Int
end
section
def LstE (J : Foot) (v : SV) (es : List EV) : Prop := ∃ cs : List En, SlI J v En inferInstance cs ∧ cs.map Prod.snd = es.map Prod.fst ∧ ∀ i : Nat, i < cs.length → SlI J (at_ cs (i : Int)).1 Int inferInstance (es.getD i ((0, 0), [])).2
end
section
def MdL (J : Foot) (w g : SV) (ws : List ByteArray) (A : List (List EV)) : Prop := SlI J w ByteArray inferInstance ws ∧ ∃ gr : List SV, SlI J g SV inferInstance gr ∧ gr.length = A.length ∧ ∀ k : Nat, k < A.length → LstE J (at_ gr (k : Int)) (A.getD k [])
end
section
theorem LstE.sub {J J' : Foot} {v : SV} {es : List EV} (h : LstE J v es) (hs : SubI J' J) : LstE J' v es := by
  obtain ⟨cs, h1, h2, h3⟩ := h
  exact ⟨cs, h1.sub, h2, fun i hi => (h3 i hi).sub⟩
end
section
theorem MdL.sub {J J' : Foot} {w g : SV} {ws : List ByteArray} {A : List (List EV)} (h : MdL J w g ws A) (hs : SubI J' J) : MdL J' w g ws A := by
  obtain ⟨h0, gr, h1, h2, h3⟩ := h
  exact ⟨h0.sub, gr, h1.sub, h2, fun i hi => (h3 i hi).sub hs⟩
end
section
structure MdQ (J : Foot) (w g : SV) (ws : List ByteArray) (gr : List SV) (A : List (List EV)) : Prop where
  words : SlI J w ByteArray inferInstance ws
  grams : SlI J g SV inferInstance gr
  rows : ∀ h ∈ gr, SlI J h En inferInstance (rd En J h) ∧ EnG J (rd Int J) (rd En J h)
  cont : gr.map (fun h => enV (rd Int J) (rd En J h)) = A
end
section
theorem LstE.nst {J : Foot} {v : SV} {es : List EV} (h : LstE J v es) {w0 : World} {L : List HP} {w : World} (hw : SL w0 J L w) : (SlI J v En inferInstance (rd En J v) ∧ EnG J (rd Int J) (rd En J v)) ∧ enV (rd Int J) (rd En J v) = es := by
  obtain ⟨cs, k1, k2, k3⟩ := h
  have e := k1.rd.det k1 hw
  have e1 : cs.length = es.length := by have := congrArg List.length k2; simpa using this
  rw [e]
  refine ⟨⟨k1, fun p hp => ?_⟩, List.ext_getElem (by simp [enV, e1]) fun j j1 j2 => ?_⟩
  · obtain ⟨j, hj, rfl⟩ := List.getElem_of_mem hp
    have := k3 j hj
    rw [at_nat cs j hj] at this
    exact this.rd
  · unfold enV at j1 ⊢
    rw [List.length_map] at j1
    have q := k3 j j1
    rw [at_nat cs j j1, List.getD_eq_getElem?_getD, List.getElem?_eq_getElem j2, Option.getD_some] at q
    have q2 := congrArg (fun l => l[j]?) k2
    simp only [List.getElem?_map, List.getElem?_eq_getElem j1, List.getElem?_eq_getElem j2, Option.map_some] at q2
    rw [List.getElem_map]
    exact Prod.ext (by injection q2) (q.rd.det q hw)
end
section
theorem MdL.nst {J : Foot} {w g : SV} {ws : List ByteArray} {A : List (List EV)} (h : MdL J w g ws A) {w0 : World} {L : List HP} {u : World} (hw : SL w0 J L u) : ∃ gr, MdQ J w g ws gr A := by
  obtain ⟨h0, gr, h1, h2, h3⟩ := h
  refine ⟨gr, h0, h1, fun v hv => ?_, List.ext_getElem (by simp [h2]) fun i i1 i2 => ?_⟩
  · obtain ⟨i, hi, rfl⟩ := List.getElem_of_mem hv
    have := (h3 i (by omega)).nst hw
    rw [at_nat gr i hi] at this
    exact this.1
  · rw [List.length_map] at i1
    have := (h3 i (by omega)).nst hw
    rw [at_nat gr i i1, List.getD_eq_getElem?_getD, List.getElem?_eq_getElem i2, Option.getD_some] at this
    rw [List.getElem_map]
    exact this.2
end
section
theorem MdR.toL {J : Foot} {kg : SV → List Int} {re : SV → List En} {w g : SV} {ws : List ByteArray} {gr : List SV} (h : MdR J kg re w g ws gr) : MdL J w g ws (gr.map fun h => enV kg (re h)) := by
  refine ⟨h.words, gr, h.grams, by simp, fun k hk => ?_⟩
  rw [List.length_map] at hk
  have hm : at_ gr (k : Int) ∈ gr := by rw [at_nat gr k hk]; exact List.getElem_mem _
  rw [List.getD_eq_getElem?_getD, List.getElem?_map, List.getElem?_eq_getElem hk, ← at_nat gr k hk]
  refine ⟨re (at_ gr (k : Int)), h.rows _ hm, by unfold enV; simp [List.map_map, Function.comp_def], fun i hi => ?_⟩
  have hp := h.elems _ hm _ (List.getElem_mem hi)
  show SlI J _ Int _ ((enV kg (re (at_ gr (k : Int)))).getD i ((0, 0), [])).2
  unfold enV
  rw [List.getD_eq_getElem?_getD, List.getElem?_map, List.getElem?_eq_getElem hi, at_nat _ i hi]
  exact hp
end
section
def FewA (ws : List ByteArray) (A : List (List EV)) : Prop := (ws.length ≤ 1000000 ∧ A.length ≤ 1000000) ∧ ∀ es ∈ A, es.length ≤ 1000000 ∧ ∀ e ∈ es, e.2.length ≤ 1000000
end
section
variable {L : List HP} {w0 : World} {I : Foot}
theorem MdQ.at {w g : SV} {ws : List ByteArray} {gr : List SV} {A : List (List EV)} (h : MdQ I w g ws gr A) (f : FewA ws A) {i : Nat} (hi : i < gr.length) :
    (SlI I (at_ gr (i : Int)) En inferInstance (rd En I (at_ gr (i : Int))) ∧ EnG I (rd Int I) (rd En I (at_ gr (i : Int)))) ∧ A[i]? = some (enV (rd Int I) (rd En I (at_ gr (i : Int)))) ∧ (rd En I (at_ gr (i : Int))).length ≤ 1000000 ∧ ∀ p ∈ rd En I (at_ gr (i : Int)), (rd Int I p.1).length ≤ 1000000 := by
  have hm : at_ gr (i : Int) ∈ gr := by rw [at_nat gr i hi]; exact List.getElem_mem _
  have hc : A[i]? = some (enV (rd Int I) (rd En I (at_ gr (i : Int)))) := by rw [← h.cont, List.getElem?_map, List.getElem?_eq_getElem hi, at_nat gr i hi]; rfl
  obtain ⟨f1, f2⟩ := f.2 _ (List.mem_of_getElem? hc)
  refine ⟨h.rows _ hm, hc, by simpa [enV] using f1, fun p hp => ?_⟩
  exact f2 (p.2, rd Int I p.1) (List.mem_map.2 ⟨p, hp, rfl⟩)
end
section
variable {L : List HP} {w0 : World} {I : Foot}
theorem MdQ.len {w g : SV} {ws : List ByteArray} {gr : List SV} {A : List (List EV)} (h : MdQ I w g ws gr A) : gr.length = A.length := by rw [← h.cont, List.length_map]
end
section
theorem WPA.know {ro : Option Nat} {P : Program} {n : Nat} {Q : Hnd} {ρ : Env} {A : World → Prop} {c : Code} {φ : Prop} (h : ∀ w, A w → φ) (k : φ → WPA ro P n c Q ρ A) : WPA ro P n c Q ρ A := by
  unfold WPA at k ⊢; exact fun m a w ha hA => k (h w hA) m a w ha hA
end
section
def RowE (v : SV) (es : List EV) : HP := exH fun cs : List En => pureH (cs.map Prod.snd = es.map Prod.fst) (star (OwnS 54 v cs) (RowH 3 (cs.map Prod.fst) (es.map Prod.snd)))
end
section
def RowsE : List SV → List (List EV) → HP
  | v :: vs, es :: A => star (RowE v es) (RowsE vs A)
  | _, _ => fun R => R = []
end
section
def ClM (w : SV) (x : SV × List ByteArray × List (List EV)) : HP := exH fun vs : List SV => pureH (vs.length = x.2.2.length) (star (OwnS 9 w x.2.1) (star (OwnS 36 x.1 vs) (RowsE vs x.2.2)))
end
section
theorem RowE.fold {v : SV} {es : List EV} {cs : List En} {ks : List (List Int)} {L : List HP} (h1 : cs.map Prod.snd = es.map Prod.fst) (h2 : ks = es.map Prod.snd) : Ent (OwnS 54 v cs :: RowH 3 (cs.map Prod.fst) ks :: L) (RowE v es :: L) := by
  subst h2; exact Ent.ex cs (Ent.pure h1 (Ent.star Ent.refl))
end
section
theorem RowsE.nil {L : List HP} : Ent L (RowsE [] [] :: L) := Ent.intro1 rfl
end
section
theorem RowsE.snoc {v : SV} {es : List EV} : ∀ {vs : List SV} {A : List (List EV)} {L : List HP}, vs.length = A.length → Ent (RowE v es :: RowsE vs A :: L) (RowsE (vs ++ [v]) (A ++ [es]) :: L)
  | [], [], L, _ => Ent.star (Ent.cons Ent.drop1 |>.trans (Ent.cons RowsE.nil))
  | u :: vs, t :: A, L, h => by
    simp only [List.cons_append, RowsE]
    exact (Ent.cons Ent.unstar).trans (Ent.swap.trans ((Ent.cons (RowsE.snoc (by simpa using h))).trans (Ent.star Ent.refl)))
  | [], t :: A, L, h => by simp at h
  | u :: vs, [], L, h => by simp at h
end
section
theorem ClM.fold {w g : SV} {ws : List ByteArray} {A : List (List EV)} {vs : List SV} {L : List HP} (h : vs.length = A.length) : Ent (OwnS 9 w ws :: OwnS 36 g vs :: RowsE vs A :: L) (ClM w (g, ws, A) :: L) :=
  Ent.ex vs (Ent.pure h (Ent.star (Ent.cons (Ent.star Ent.refl))))
end
section
theorem RowE.lst {v : SV} {es : List EV} {R J : Foot} (h : RowE v es R) (hs : SubI J R) : LstE J v es := by
  obtain ⟨cs, h1, R1, R2, h2, h3, rfl⟩ := h
  have e1 : cs.length = es.length := by have := congrArg List.length h1; simpa using this
  have s1 : SubI J R1 := ⟨fun x hx => hs.out (List.mem_append_left _ hx)⟩
  have s2 : SubI J R2 := ⟨fun x hx => hs.out (List.mem_append_right _ hx)⟩
  refine ⟨cs, (SlI.ofOwn h2).sub, h1, fun i hi => ?_⟩
  have h := RowH.frozen h3 i (by rw [List.length_map]; exact hi) (by rw [List.length_map]; omega)
  rw [List.getD_eq_getElem?_getD, List.getD_eq_getElem?_getD, List.getElem?_map, List.getElem?_map, List.getElem?_eq_getElem hi, List.getElem?_eq_getElem (show i < es.length by omega)] at h
  rw [at_nat cs i hi, List.getD_eq_getElem?_getD, List.getElem?_eq_getElem (show i < es.length by omega)]
  exact h.sub
end
section
theorem RowsE.lst : ∀ {vs : List SV} {A : List (List EV)} {R J : Foot}, RowsE vs A R → vs.length = A.length → SubI J R → ∀ k (hk : k < vs.length) (hk2 : k < A.length), LstE J vs[k] A[k]
  | v :: vs, es :: A, R, J, h, hl, hs, k, hk, hk2 => by
    obtain ⟨R1, R2, h1, h2, rfl⟩ := h
    cases k with
    | zero => exact h1.lst ⟨fun x hx => hs.out (List.mem_append_left _ hx)⟩
    | succ k => exact RowsE.lst h2 (by simpa using hl) ⟨fun x hx => hs.out (List.mem_append_right _ hx)⟩ k (by simpa using hk) (by simpa using hk2)
end
section
theorem ClM.md {w g : SV} {ws : List ByteArray} {A : List (List EV)} {R J : Foot} (h : ClM w (g, ws, A) R) (hs : SubI J R) : MdL J w g ws A := by
  obtain ⟨vs, hl, R1, R2, h1, ⟨R3, R4, h2, h3, rfl⟩, rfl⟩ := h
  dsimp only at hl h1 h2 h3
  have s1 : SubI J R1 := ⟨fun x hx => hs.out (List.mem_append_left _ hx)⟩
  have s3 : SubI J R3 := ⟨fun x hx => hs.out (List.mem_append_right _ (List.mem_append_left _ hx))⟩
  have s4 : SubI J R4 := ⟨fun x hx => hs.out (List.mem_append_right _ (List.mem_append_right _ hx))⟩
  refine ⟨(SlI.ofOwn h1).sub, vs, (SlI.ofOwn h2).sub, hl, fun k hk => ?_⟩
  have := RowsE.lst h3 hl s4 k (by omega) hk
  rw [at_nat vs k (by omega), List.getD_eq_getElem?_getD, List.getElem?_eq_getElem hk]
  exact this
end
section
variable {L : List HP} {w0 : World} {I : Foot}
theorem CloneS_tr {a : SV} {xs : List ByteArray} [ha : RdS I L a ByteArray inferInstance xs] (hn : xs.length ≤ 1000000) : Tr Try.prog 48 #[.slice a.a a.n a.cap] (SL w0 I L) (fun r : SV => .slice r.a r.n r.cap) (fun r => SL w0 I (OwnS 9 r xs :: L)) := by
  refine Tr.intro Try.func48 rfl Try.ntmps48 rfl ?_
  repeat' (first | ((first | refine WLA.m rfl rfl ?_ ?_ | refine WLA.st rfl ?_ ?_ | refine WLA.x rfl rfl ?_ (fun x => ?_) | refine WLA.x0 rfl ?_ (fun x => ?_)); first | exact trivial | exact rfl | assumption | omega | (refine ⟨?_, ?_⟩ <;> omega) | (simp only [Room, List.length_set, List.length_append, List.length_cons, List.length_nil, List.length_replicate]; omega) | decide | skip) | (refine Stp.go ?_) | (refine WPA.ifT ?_) | (refine WPA.ifF ?_) | ((first | refine WPA.dec ?_); first | refine .inl ⟨by first | assumption | omega | with_reducible rfl | (refine fun h => h ?_; first | assumption | with_reducible rfl) | (simp only [List.length_append, List.length_cons, List.length_nil, List.length_set] <;> omega) | decide, ?_⟩ | refine .inr ⟨by first | assumption | omega | with_reducible rfl | (refine fun h => h ?_; first | assumption | with_reducible rfl) | (simp only [List.length_append, List.length_cons, List.length_nil, List.length_set] <;> omega) | decide, ?_⟩) | ((first | refine WPA.ifBt ?_ ?_ | refine WPA.ifBnf ?_ ?_); assumption) | ((first | refine WPA.ifBnt ?_ ?_ | refine WPA.ifBf ?_ ?_); assumption) | ((first | refine WPA.ifs ?_ ?_ | refine WPA.ifB ?_ ?_) <;> intro hc))
  · refine QQ.end_ rfl SV.nil rfl fun w h => ?_
    have hr := ha.out w0 w h
    have h0 : xs = [] := by
      have hn := hr.len
      rcases hr.plain with h0 | ⟨b, o, e⟩
      · exact List.eq_nil_of_length_eq_zero (by omega)
      · rw [e] at hc; cases hc
    rw [h0]
    exact h.to
  · exact QQ.end_ rfl x rfl fun w h => h.to
end
section
variable {ro : Option Nat} {P : Program} {n : Nat} {Q : Hnd} {ρ : Env} {L : List HP} {w0 : World} {I : Foot} {c : Code}
theorem WPA.clm {w g : SV} {ws : List ByteArray} {A : List (List EV)} (k : ∀ vs : List SV, vs.length = A.length → WPA ro P n c Q ρ (SL w0 I (OwnS 9 w ws :: OwnS 36 g vs :: RowsE vs A :: L))) : WPA ro P n c Q ρ (SL w0 I (ClM w (g, ws, A) :: L)) :=
  WPA.exH fun vs => WPA.pureH fun h => WPA.star (WPA.ent (Ent.cons Ent.unstar) (k vs h))
end
section
variable {ro : Option Nat} {P : Program} {n : Nat} {Q : Hnd} {ρ : Env} {L : List HP} {w0 : World} {I : Foot} {c : Code}
theorem RowsE.uncons {v : SV} {vs : List SV} {es : List EV} {A : List (List EV)} : Ent (RowsE (v :: vs) (es :: A) :: L) (RowE v es :: RowsE vs A :: L) := Ent.unstar
end
section
variable {ro : Option Nat} {P : Program} {n : Nat} {Q : Hnd} {ρ : Env} {L : List HP} {w0 : World} {I : Foot} {c : Code}
theorem RowH.uncons {e : TypeId} {s : SV} {ss : List SV} {t : List Int} {ts : List (List Int)} : Ent (RowH e (s :: ss) (t :: ts) :: L) (OwnS e s t :: RowH e ss ts :: L) := Ent.unstar
end
section
theorem FewP.fewA {kg : SV → List Int} {re : SV → List En} {ws : List ByteArray} {gr : List SV} (f : FewP kg re ws gr) : FewA ws (gr.map fun h => enV kg (re h)) := by
  obtain ⟨⟨f1, f2⟩, f3⟩ := f
  refine ⟨⟨by omega, by rw [List.length_map]; omega⟩, fun es hes => ?_⟩
  obtain ⟨h, hh, rfl⟩ := List.mem_map.1 hes
  obtain ⟨g1, g2⟩ := f3 h hh
  refine ⟨by unfold enV; rw [List.length_map]; omega, fun e he => ?_⟩
  unfold enV at he
  obtain ⟨p, hp, rfl⟩ := List.mem_map.1 he
  have := g2 p hp
  dsimp only; omega
end
end Go.Proofs.Ytcomkdndddkbeaa
