/- An n-gram's codes: the program and the reference. Conditions: none. -/
import Derived.Test.YtfhelnalegochaaMo6
namespace Go.Proofs.Ytfhelnalegochaa
open Go Go.Fw Go.RowKit
set_option linter.unusedVariables false
set_option linter.unusedSimpArgs false
set_option maxRecDepth 100000
set_option maxHeartbeats 16000000
set_option synthInstance.maxHeartbeats 200000
set_option synthInstance.maxSize 100000
attribute [local irreducible] WPA WLA WDA WDQ WDE QQ seqQ blockQ loopQ fnQ OpP OpT Tr TrP SL SLd OwnS LitS Bk BkE Ob
attribute [local irreducible] TblH VocH
/-- An n-gram is in a model. -/
def FndP (kg : SV → List Int) (re : SV → List En) (gr : List SV) (g : List Int) : Prop := (1 ≤ g.length ∧ g.length ≤ gr.length) ∧ g ∈ (re (at_ gr ((g.length : Int) - 1))).map fun p => kg p.1
instance {kg : SV → List Int} {re : SV → List En} {gr : List SV} {g : List Int} : Decidable (FndP kg re gr g) := inferInstanceAs (Decidable (_ ∧ _))
/-- Its codes. -/
def entG (kg : SV → List Int) (re : SV → List En) (gr : List SV) (g : List Int) : En := at_ (re (at_ gr ((g.length : Int) - 1))) (hasN kg (re (at_ gr ((g.length : Int) - 1))) g)
def cdsG (kg : SV → List Int) (re : SV → List En) (gr : List SV) (g : List Int) : Int × Int := (entG kg re gr g).2
theorem hasN_uni {kg : SV → List Int} {es : List En} {g : List Int} (hR : RisE kg es) {k : Nat} (hk : k < es.length) (he : kg (at_ es (k : Int)).1 = g) : hasN kg es g = k := by
  have hkl : k < (es.map fun p => kg p.1).length := by rw [List.length_map]; exact hk
  have hke : (es.map fun p => kg p.1)[k] = g := by rw [List.getElem_map, ← at_nat es k hk]; exact he
  have hm : g ∈ es.map (fun p => kg p.1) := by rw [← hke]; exact List.getElem_mem _
  unfold hasN
  rw [if_pos hm]
  refine congrArg Nat.cast (idxOf_first hkl hke fun hx => ?_)
  obtain ⟨j, hj, hje⟩ := List.mem_take_iff_getElem.1 hx
  have hp := List.pairwise_iff_getElem.1 hR j k (by omega) hkl (by omega)
  rw [hje, hke] at hp
  exact ltL_irr _ hp
theorem hasN_lt {kg : SV → List Int} {es : List En} {g : List Int} (h : g ∈ es.map fun p => kg p.1) : 0 ≤ hasN kg es g ∧ hasN kg es g < es.length := by
  unfold hasN; rw [if_pos h]
  have := List.idxOf_lt_length_iff.2 h
  rw [List.length_map] at this
  omega
section
variable {kg : SV → List Int} {re : SV → List En} {L : List HP} {w0 : World} {I : Foot}
theorem Find_y {fr : Int} {w g s : SV} {ws : List ByteArray} {gr : List SV} {gs : List Int} [hr : RdS I L s Int inferInstance gs] (hM : MdI I kg re w g ws gr) (hS : ∀ h ∈ gr, RisE kg (re h)) (hl : gs.length ≤ 1000000) (hF : FndP kg re gr gs) :
    Tr Try.prog 43 #[.agg #[.int .i64 fr, .slice w.a w.n w.cap, .slice g.a g.n g.cap], .slice s.a s.n s.cap] (SL w0 I L) (fun r : SV => .tuple #[.agg #[.slice r.a r.n r.cap, .int .i64 (cdsG kg re gr gs).1, .int .i64 (cdsG kg re gr gs).2], .bool true]) (fun r => SL w0 I (OwnS 3 r gs :: L)) := by
  refine Tr.intro Try.func43 rfl Try.ntmps43 rfl ?_
  obtain ⟨hW, hg, hR, hE, hz, hwn, hgn, hrn, hkn⟩ := hM
  obtain ⟨⟨f1, f2⟩, f3⟩ := hF
  have f1' : ¬ (gs.length : Int) < 1 := by omega
  have f2' : ¬ (gr.length : Int) < gs.length := by omega
  have hir : 0 ≤ (gs.length : Int) - 1 ∧ (gs.length : Int) - 1 < gr.length := by omega
  have hm : at_ gr ((gs.length : Int) - 1) ∈ gr := by rw [show (gs.length : Int) - 1 = ((gs.length - 1 : Nat) : Int) by omega, at_nat gr (gs.length - 1) (by omega)]; exact List.getElem_mem _
  have hRk := hR _ hm
  have hEk := hE _ hm
  have hrk := hrn _ hm
  have hkk := hkn _ hm
  have hSk := hS _ hm
  have hc : cdsG kg re gr gs = (at_ (re (at_ gr ((gs.length : Int) - 1))) (hasN kg (re (at_ gr ((gs.length : Int) - 1))) gs)).2 := rfl
  rw [hc]
  generalize re (at_ gr ((gs.length : Int) - 1)) = es at hRk hEk hrk hkk hSk f3
  have hkk2 : ∀ p ∈ es, (kg p.1).length ≤ 1000000000 := fun p hp => by have := hkk p hp; omega
  repeat' ((fail_if_success (guard_target =~ WPA _ _ _ (.region 7 _ _) _ _ _)); first | ((first | refine WLA.m rfl rfl ?_ ?_ | refine WLA.st rfl ?_ ?_ | refine WLA.x rfl rfl ?_ (fun x => ?_) | refine WLA.x0 rfl ?_ (fun x => ?_)); first | exact trivial | exact rfl | assumption | omega | (refine ⟨?_, ?_⟩ <;> omega) | (simp only [Room, List.length_set, List.length_append, List.length_cons, List.length_nil, List.length_replicate]; omega) | decide | skip) | (refine Stp.go ?_) | (guard_target =~ WLA _ _ _ _ _ (⟨_, .call ⟨.value (.func 85), _, _⟩, _, _, _, _⟩ :: _) _ _; first | (refine WLA.call rfl rfl (findM_tr hEk hSk (by omega) hkk2 (by omega)) ?_; rintro ⟨k, hk⟩) | (refine WLA.call0 rfl (findM_tr hEk hSk (by omega) hkk2 (by omega)) ?_; rintro ⟨k, hk⟩)) | (refine WPA.ifT ?_) | (refine WPA.ifF ?_) | (refine WLA.no rfl rfl ?_) | ((first | refine WPA.dec ?_ | ((fail_if_success (guard_target =~ WLA _ _ _ _ _ _ (put1 _ _ (.bool true)) _)); (fail_if_success (guard_target =~ WLA _ _ _ _ _ _ (put1 _ _ (.bool false)) _)); refine WLA.dec rfl rfl ?_) | refine WLA.pk ?_); first | refine .inl ⟨by first | assumption | omega | with_reducible rfl | (refine fun h => h ?_; assumption) | (simp only [List.length_append, List.length_cons, List.length_nil, List.length_set] <;> omega) | decide, ?_⟩ | refine .inr ⟨by first | assumption | omega | with_reducible rfl | (refine fun h => h ?_; assumption) | (simp only [List.length_append, List.length_cons, List.length_nil, List.length_set] <;> omega) | decide, ?_⟩) | ((first | refine WPA.ifBt ?_ ?_ | refine WPA.ifBnf ?_ ?_); assumption) | ((first | refine WPA.ifBnt ?_ ?_ | refine WPA.ifBf ?_ ?_); assumption) | ((first | refine WPA.ifs ?_ ?_ | refine WPA.ifB ?_ ?_) <;> intro hc) | ((fail_if_success (guard_target =~ WLA _ _ _ _ _ _ (put1 _ _ (.bool true)) _)); (fail_if_success (guard_target =~ WLA _ _ _ _ _ _ (put1 _ _ (.bool false)) _)); (first | refine WLA.both rfl rfl ?_ ?_ | refine WLA.bothB rfl rfl ?_ ?_) <;> intro hg))
  obtain ⟨hk1, hk2⟩ := hk f3
  have hk1' : (k : Int) < es.length := by omega
  rw [hasN_uni hSk hk1 hk2]
  have hxg := hEk.at hk1
  rw [hk2] at hxg
  repeat' (first | ((first | refine WLA.m rfl rfl ?_ ?_ | refine WDQ.m rfl rfl ?_ ?_ | refine WLA.st rfl ?_ ?_ | refine WLA.x rfl rfl ?_ (fun x => ?_) | refine WLA.x0 rfl ?_ (fun x => ?_)); first | exact trivial | exact rfl | assumption | omega | (refine ⟨?_, ?_⟩ <;> omega) | (simp only [Room, List.length_set, List.length_append, List.length_cons, List.length_nil, List.length_replicate]; omega) | decide | skip) | (refine Stp.go ?_) | (guard_target =~ WLA _ _ _ _ _ (⟨_, .call ⟨.value (.func 72), _, _⟩, _, _, _, _⟩ :: _) _ _; first | (refine WLA.call rfl rfl (Clone_tr (by omega)) ?_; rintro r) | (refine WLA.call0 rfl (Clone_tr (by omega)) ?_; rintro r)) | (refine WPA.ifT ?_) | (refine WPA.ifF ?_) | ((first | refine WPA.dec ?_); first | refine .inl ⟨by first | assumption | omega | with_reducible rfl | (refine fun h => h ?_; assumption) | (simp only [List.length_append, List.length_cons, List.length_nil, List.length_set] <;> omega) | decide, ?_⟩ | refine .inr ⟨by first | assumption | omega | with_reducible rfl | (refine fun h => h ?_; assumption) | (simp only [List.length_append, List.length_cons, List.length_nil, List.length_set] <;> omega) | decide, ?_⟩) | ((first | refine WPA.ifBt ?_ ?_ | refine WPA.ifBnf ?_ ?_); assumption) | ((first | refine WPA.ifBnt ?_ ?_ | refine WPA.ifBf ?_ ?_); assumption) | ((first | refine WPA.ifs ?_ ?_ | refine WPA.ifB ?_ ?_) <;> intro hc) | (guard_target =~ WPA _ _ _ (.region 7 _ true) _ _ _; refine WPA.drawT 16 (.q 0 (.q 1 (.q 2 (.q 3 (.q 4 (.q 6 (.q 7 (.q 8 (.q 9 (.q 10 (.q 11 (.q 12 (.q 13 (.q 14 (.q 15 (.e 5 .fin)))))))))))))))) mixed ?_ ?_; kernel_rfl) | (refine WDA.finish (tl := [⟨_, _, _, _, _, _⟩, ⟨_, _, _, _, _, _⟩, ⟨_, _, _, _, _, _⟩]) rfl ?_) | (refine WDQ.see rfl ?_) | (refine WDE.see rfl ?_) | (refine WDE.alloc rfl rfl (fun w h => h) (fun x => ?_)) | (refine WDE.stE rfl ?_) | (refine WDE.x rfl rfl ?_ ?_ (fun x => ?_); rotate_left 1; (intro x w h; first | exact h | exact Ent.drop1.sl h | exact SL.unI h | exact SL.to h); rotate_left 1; first | exact trivial | exact rfl | assumption | omega | (refine ⟨?_, ?_⟩ <;> omega) | (simp only [Room, List.length_set, List.length_append, List.length_cons, List.length_nil, List.length_replicate]; omega) | decide | skip) | (guard_target =~ WDE _ _ _ _ _ _ _ ⟨_, .call ⟨.value (.func 72), _, _⟩, _, _, _, _⟩ _ _ _; refine WDE.call rfl rfl (Clone_tr (by omega)) ?_ ?_; (intro x w h; first | exact h | exact Ent.drop1.sl h | exact SL.unI h | exact SL.to h); rintro r) | (guard_target =~ WDW _ _ _ _ _ _ _ ⟨_, .call ⟨.value (.func 72), _, _⟩, _, _, _, _⟩ _ _ _; refine WDW.call rfl rfl (Clone_tr (by omega)) ?_; rintro r))
  exact QQ.endc rfl r rfl fun w h => h.to
theorem Find_n {fr : Int} {w g s : SV} {ws : List ByteArray} {gr : List SV} {gs : List Int} [hr : RdS I L s Int inferInstance gs] (hM : MdI I kg re w g ws gr) (hS : ∀ h ∈ gr, RisE kg (re h)) (hl : gs.length ≤ 1000000) (hF : ¬ FndP kg re gr gs) :
    Tr Try.prog 43 #[.agg #[.int .i64 fr, .slice w.a w.n w.cap, .slice g.a g.n g.cap], .slice s.a s.n s.cap] (SL w0 I L) (fun _ : Unit => .tuple #[.agg #[.slice SV.nil.a SV.nil.n SV.nil.cap, .int .i64 0, .int .i64 0], .bool false]) (fun _ => SL w0 I L) := by
  refine Tr.intro Try.func43 rfl Try.ntmps43 rfl ?_
  obtain ⟨hW, hg, hR, hE, hz, hwn, hgn, hrn, hkn⟩ := hM
  by_cases g1 : gs.length < 1
  · have g1' : (gs.length : Int) < 1 := by omega
    repeat' (first | ((first | refine WLA.m rfl rfl ?_ ?_ | refine WLA.st rfl ?_ ?_ | refine WLA.x rfl rfl ?_ (fun x => ?_) | refine WLA.x0 rfl ?_ (fun x => ?_)); first | exact trivial | exact rfl | assumption | omega | (refine ⟨?_, ?_⟩ <;> omega) | (simp only [Room, List.length_set, List.length_append, List.length_cons, List.length_nil, List.length_replicate]; omega) | decide | skip) | (refine Stp.go ?_) | (refine WPA.ifT ?_) | (refine WPA.ifF ?_) | (refine WLA.no rfl rfl ?_) | ((first | refine WPA.dec ?_ | ((fail_if_success (guard_target =~ WLA _ _ _ _ _ _ (put1 _ _ (.bool true)) _)); (fail_if_success (guard_target =~ WLA _ _ _ _ _ _ (put1 _ _ (.bool false)) _)); refine WLA.dec rfl rfl ?_) | refine WLA.pk ?_); first | refine .inl ⟨by first | assumption | omega | with_reducible rfl | (refine fun h => h ?_; assumption) | (simp only [List.length_append, List.length_cons, List.length_nil, List.length_set] <;> omega) | decide, ?_⟩ | refine .inr ⟨by first | assumption | omega | with_reducible rfl | (refine fun h => h ?_; assumption) | (simp only [List.length_append, List.length_cons, List.length_nil, List.length_set] <;> omega) | decide, ?_⟩) | ((first | refine WPA.ifBt ?_ ?_ | refine WPA.ifBnf ?_ ?_); assumption) | ((first | refine WPA.ifBnt ?_ ?_ | refine WPA.ifBf ?_ ?_); assumption) | ((first | refine WPA.ifs ?_ ?_ | refine WPA.ifB ?_ ?_) <;> intro hc) | ((fail_if_success (guard_target =~ WLA _ _ _ _ _ _ (put1 _ _ (.bool true)) _)); (fail_if_success (guard_target =~ WLA _ _ _ _ _ _ (put1 _ _ (.bool false)) _)); (first | refine WLA.both rfl rfl ?_ ?_ | refine WLA.bothB rfl rfl ?_ ?_) <;> intro hg))
    exact QQ.endc rfl () rfl fun w h => h.to
  by_cases g2 : gr.length < gs.length
  · have g1' : ¬ (gs.length : Int) < 1 := by omega
    have g2' : (gr.length : Int) < gs.length := by omega
    repeat' (first | ((first | refine WLA.m rfl rfl ?_ ?_ | refine WLA.st rfl ?_ ?_ | refine WLA.x rfl rfl ?_ (fun x => ?_) | refine WLA.x0 rfl ?_ (fun x => ?_)); first | exact trivial | exact rfl | assumption | omega | (refine ⟨?_, ?_⟩ <;> omega) | (simp only [Room, List.length_set, List.length_append, List.length_cons, List.length_nil, List.length_replicate]; omega) | decide | skip) | (refine Stp.go ?_) | (refine WPA.ifT ?_) | (refine WPA.ifF ?_) | (refine WLA.no rfl rfl ?_) | ((first | refine WPA.dec ?_ | ((fail_if_success (guard_target =~ WLA _ _ _ _ _ _ (put1 _ _ (.bool true)) _)); (fail_if_success (guard_target =~ WLA _ _ _ _ _ _ (put1 _ _ (.bool false)) _)); refine WLA.dec rfl rfl ?_) | refine WLA.pk ?_); first | refine .inl ⟨by first | assumption | omega | with_reducible rfl | (refine fun h => h ?_; assumption) | (simp only [List.length_append, List.length_cons, List.length_nil, List.length_set] <;> omega) | decide, ?_⟩ | refine .inr ⟨by first | assumption | omega | with_reducible rfl | (refine fun h => h ?_; assumption) | (simp only [List.length_append, List.length_cons, List.length_nil, List.length_set] <;> omega) | decide, ?_⟩) | ((first | refine WPA.ifBt ?_ ?_ | refine WPA.ifBnf ?_ ?_); assumption) | ((first | refine WPA.ifBnt ?_ ?_ | refine WPA.ifBf ?_ ?_); assumption) | ((first | refine WPA.ifs ?_ ?_ | refine WPA.ifB ?_ ?_) <;> intro hc) | ((fail_if_success (guard_target =~ WLA _ _ _ _ _ _ (put1 _ _ (.bool true)) _)); (fail_if_success (guard_target =~ WLA _ _ _ _ _ _ (put1 _ _ (.bool false)) _)); (first | refine WLA.both rfl rfl ?_ ?_ | refine WLA.bothB rfl rfl ?_ ?_) <;> intro hg))
    exact QQ.endc rfl () rfl fun w h => h.to
  have f1' : ¬ (gs.length : Int) < 1 := by omega
  have f2' : ¬ (gr.length : Int) < gs.length := by omega
  have hir : 0 ≤ (gs.length : Int) - 1 ∧ (gs.length : Int) - 1 < gr.length := by omega
  have hm : at_ gr ((gs.length : Int) - 1) ∈ gr := by rw [show (gs.length : Int) - 1 = ((gs.length - 1 : Nat) : Int) by omega, at_nat gr (gs.length - 1) (by omega)]; exact List.getElem_mem _
  have hRk := hR _ hm
  have hEk := hE _ hm
  have hrk := hrn _ hm
  have hkk := hkn _ hm
  have hSk := hS _ hm
  have f3 : ¬ (gs ∈ (re (at_ gr ((gs.length : Int) - 1))).map fun p => kg p.1) := fun h => hF ⟨⟨by omega, by omega⟩, h⟩
  generalize re (at_ gr ((gs.length : Int) - 1)) = es at hRk hEk hrk hkk hSk f3
  have hkk2 : ∀ p ∈ es, (kg p.1).length ≤ 1000000000 := fun p hp => by have := hkk p hp; omega
  repeat' (first | ((first | refine WLA.m rfl rfl ?_ ?_ | refine WLA.st rfl ?_ ?_ | refine WLA.x rfl rfl ?_ (fun x => ?_) | refine WLA.x0 rfl ?_ (fun x => ?_)); first | exact trivial | exact rfl | assumption | omega | (refine ⟨?_, ?_⟩ <;> omega) | (simp only [Room, List.length_set, List.length_append, List.length_cons, List.length_nil, List.length_replicate]; omega) | decide | skip) | (refine Stp.go ?_) | (guard_target =~ WLA _ _ _ _ _ (⟨_, .call ⟨.value (.func 85), _, _⟩, _, _, _, _⟩ :: _) _ _; first | (refine WLA.call rfl rfl (findM_tr hEk hSk (by omega) hkk2 (by omega)) ?_; rintro ⟨k, hk⟩) | (refine WLA.call0 rfl (findM_tr hEk hSk (by omega) hkk2 (by omega)) ?_; rintro ⟨k, hk⟩)) | (refine WPA.ifT ?_) | (refine WPA.ifF ?_) | (refine WLA.no rfl rfl ?_) | ((first | refine WPA.dec ?_ | ((fail_if_success (guard_target =~ WLA _ _ _ _ _ _ (put1 _ _ (.bool true)) _)); (fail_if_success (guard_target =~ WLA _ _ _ _ _ _ (put1 _ _ (.bool false)) _)); refine WLA.dec rfl rfl ?_) | refine WLA.pk ?_); first | refine .inl ⟨by first | assumption | omega | with_reducible rfl | (refine fun h => h ?_; assumption) | (simp only [List.length_append, List.length_cons, List.length_nil, List.length_set] <;> omega) | decide, ?_⟩ | refine .inr ⟨by first | assumption | omega | with_reducible rfl | (refine fun h => h ?_; assumption) | (simp only [List.length_append, List.length_cons, List.length_nil, List.length_set] <;> omega) | decide, ?_⟩) | ((first | refine WPA.ifBt ?_ ?_ | refine WPA.ifBnf ?_ ?_); assumption) | ((first | refine WPA.ifBnt ?_ ?_ | refine WPA.ifBf ?_ ?_); assumption) | ((first | refine WPA.ifs ?_ ?_ | refine WPA.ifB ?_ ?_) <;> intro hc) | ((fail_if_success (guard_target =~ WLA _ _ _ _ _ _ (put1 _ _ (.bool true)) _)); (fail_if_success (guard_target =~ WLA _ _ _ _ _ _ (put1 _ _ (.bool false)) _)); (first | refine WLA.both rfl rfl ?_ ?_ | refine WLA.bothB rfl rfl ?_ ?_) <;> intro hg))
  exact QQ.endc rfl () rfl fun w h => h.to
theorem rFind_y {fr : Int} {w g s : SV} {ws : List ByteArray} {gr : List SV} {gs : List Int} [hr : RdS I L s Int inferInstance gs] (hM : MdI I kg re w g ws gr) (hl : gs.length ≤ 1000000) (hF : FndP kg re gr gs) :
    Tr Try.prog 44 #[.agg #[.int .i64 fr, .slice w.a w.n w.cap, .slice g.a g.n g.cap], .slice s.a s.n s.cap] (SL w0 I L) (fun _ : Unit => .tuple #[.agg #[.slice (entG kg re gr gs).1.a (entG kg re gr gs).1.n (entG kg re gr gs).1.cap, .int .i64 (entG kg re gr gs).2.1, .int .i64 (entG kg re gr gs).2.2], .bool true]) (fun _ => SL w0 I L) := by
  refine Tr.intro Try.func44 rfl Try.ntmps44 rfl ?_
  obtain ⟨hW, hg, hR, hE, hz, hwn, hgn, hrn, hkn⟩ := hM
  obtain ⟨⟨f1, f2⟩, f3⟩ := hF
  have f1' : ¬ (gs.length : Int) < 1 := by omega
  have f2' : ¬ (gr.length : Int) < gs.length := by omega
  have hir : 0 ≤ (gs.length : Int) - 1 ∧ (gs.length : Int) - 1 < gr.length := by omega
  have hm : at_ gr ((gs.length : Int) - 1) ∈ gr := by rw [show (gs.length : Int) - 1 = ((gs.length - 1 : Nat) : Int) by omega, at_nat gr (gs.length - 1) (by omega)]; exact List.getElem_mem _
  have hRk := hR _ hm
  have hEk := hE _ hm
  have hrk := hrn _ hm
  have hkk := hkn _ hm
  have hc : entG kg re gr gs = at_ (re (at_ gr ((gs.length : Int) - 1))) (hasN kg (re (at_ gr ((gs.length : Int) - 1))) gs) := rfl
  rw [hc]
  generalize re (at_ gr ((gs.length : Int) - 1)) = es at hRk hEk hrk hkk f3
  have hkk2 : ∀ p ∈ es, (kg p.1).length ≤ 1000000000 := fun p hp => by have := hkk p hp; omega
  have hp0 := hasN_pos f3
  have hpl := hasN_lt f3
  repeat' ((fail_if_success (guard_target =~ WPA _ _ _ (.region 6 _ _) _ _ _)); first | ((first | refine WLA.m rfl rfl ?_ ?_ | refine WLA.st rfl ?_ ?_ | refine WLA.x rfl rfl ?_ (fun x => ?_) | refine WLA.x0 rfl ?_ (fun x => ?_)); first | exact trivial | exact rfl | assumption | omega | (refine ⟨?_, ?_⟩ <;> omega) | (simp only [Room, List.length_set, List.length_append, List.length_cons, List.length_nil, List.length_replicate]; omega) | decide | skip) | (refine Stp.go ?_) | (guard_target =~ WLA _ _ _ _ _ (⟨_, .call ⟨.value (.func 88), _, _⟩, _, _, _, _⟩ :: _) _ _; refine WLA.cq rfl rfl (HasM_tr hEk (by omega) hkk2 (by omega)) ?_) | (refine WPA.ifT ?_) | (refine WPA.ifF ?_) | (refine WLA.no rfl rfl ?_) | ((first | refine WPA.dec ?_ | ((fail_if_success (guard_target =~ WLA _ _ _ _ _ _ (put1 _ _ (.bool true)) _)); (fail_if_success (guard_target =~ WLA _ _ _ _ _ _ (put1 _ _ (.bool false)) _)); refine WLA.dec rfl rfl ?_) | refine WLA.pk ?_); first | refine .inl ⟨by first | assumption | omega | with_reducible rfl | (refine fun h => h ?_; assumption) | (simp only [List.length_append, List.length_cons, List.length_nil, List.length_set] <;> omega) | decide, ?_⟩ | refine .inr ⟨by first | assumption | omega | with_reducible rfl | (refine fun h => h ?_; assumption) | (simp only [List.length_append, List.length_cons, List.length_nil, List.length_set] <;> omega) | decide, ?_⟩) | ((first | refine WPA.ifBt ?_ ?_ | refine WPA.ifBnf ?_ ?_); assumption) | ((first | refine WPA.ifBnt ?_ ?_ | refine WPA.ifBf ?_ ?_); assumption) | ((first | refine WPA.ifs ?_ ?_ | refine WPA.ifB ?_ ?_) <;> intro hc) | ((fail_if_success (guard_target =~ WLA _ _ _ _ _ _ (put1 _ _ (.bool true)) _)); (fail_if_success (guard_target =~ WLA _ _ _ _ _ _ (put1 _ _ (.bool false)) _)); (first | refine WLA.both rfl rfl ?_ ?_ | refine WLA.bothB rfl rfl ?_ ?_) <;> intro hg))
  repeat' (first | ((first | refine WLA.m rfl rfl ?_ ?_ | refine WLA.st rfl ?_ ?_ | refine WLA.x rfl rfl ?_ (fun x => ?_) | refine WLA.x0 rfl ?_ (fun x => ?_)); first | exact trivial | exact rfl | assumption | omega | (refine ⟨?_, ?_⟩ <;> omega) | (simp only [Room, List.length_set, List.length_append, List.length_cons, List.length_nil, List.length_replicate]; omega) | decide | skip) | (refine Stp.go ?_) | (refine WPA.ifT ?_) | (refine WPA.ifF ?_) | ((first | refine WPA.dec ?_); first | refine .inl ⟨by first | assumption | omega | with_reducible rfl | (refine fun h => h ?_; assumption) | (simp only [List.length_append, List.length_cons, List.length_nil, List.length_set] <;> omega) | decide, ?_⟩ | refine .inr ⟨by first | assumption | omega | with_reducible rfl | (refine fun h => h ?_; assumption) | (simp only [List.length_append, List.length_cons, List.length_nil, List.length_set] <;> omega) | decide, ?_⟩) | ((first | refine WPA.ifBt ?_ ?_ | refine WPA.ifBnf ?_ ?_); assumption) | ((first | refine WPA.ifBnt ?_ ?_ | refine WPA.ifBf ?_ ?_); assumption) | ((first | refine WPA.ifs ?_ ?_ | refine WPA.ifB ?_ ?_) <;> intro hc))
  exact QQ.endc rfl () rfl fun w h => h.to
theorem rFind_n {fr : Int} {w g s : SV} {ws : List ByteArray} {gr : List SV} {gs : List Int} [hr : RdS I L s Int inferInstance gs] (hM : MdI I kg re w g ws gr) (hl : gs.length ≤ 1000000) (hF : ¬ FndP kg re gr gs) :
    Tr Try.prog 44 #[.agg #[.int .i64 fr, .slice w.a w.n w.cap, .slice g.a g.n g.cap], .slice s.a s.n s.cap] (SL w0 I L) (fun _ : Unit => .tuple #[.agg #[.slice SV.nil.a SV.nil.n SV.nil.cap, .int .i64 0, .int .i64 0], .bool false]) (fun _ => SL w0 I L) := by
  refine Tr.intro Try.func44 rfl Try.ntmps44 rfl ?_
  obtain ⟨hW, hg, hR, hE, hz, hwn, hgn, hrn, hkn⟩ := hM
  by_cases g1 : gs.length < 1
  · have g1' : (gs.length : Int) < 1 := by omega
    repeat' (first | ((first | refine WLA.m rfl rfl ?_ ?_ | refine WLA.st rfl ?_ ?_ | refine WLA.x rfl rfl ?_ (fun x => ?_) | refine WLA.x0 rfl ?_ (fun x => ?_)); first | exact trivial | exact rfl | assumption | omega | (refine ⟨?_, ?_⟩ <;> omega) | (simp only [Room, List.length_set, List.length_append, List.length_cons, List.length_nil, List.length_replicate]; omega) | decide | skip) | (refine Stp.go ?_) | (refine WPA.ifT ?_) | (refine WPA.ifF ?_) | (refine WLA.no rfl rfl ?_) | ((first | refine WPA.dec ?_ | ((fail_if_success (guard_target =~ WLA _ _ _ _ _ _ (put1 _ _ (.bool true)) _)); (fail_if_success (guard_target =~ WLA _ _ _ _ _ _ (put1 _ _ (.bool false)) _)); refine WLA.dec rfl rfl ?_) | refine WLA.pk ?_); first | refine .inl ⟨by first | assumption | omega | with_reducible rfl | (refine fun h => h ?_; assumption) | (simp only [List.length_append, List.length_cons, List.length_nil, List.length_set] <;> omega) | decide, ?_⟩ | refine .inr ⟨by first | assumption | omega | with_reducible rfl | (refine fun h => h ?_; assumption) | (simp only [List.length_append, List.length_cons, List.length_nil, List.length_set] <;> omega) | decide, ?_⟩) | ((first | refine WPA.ifBt ?_ ?_ | refine WPA.ifBnf ?_ ?_); assumption) | ((first | refine WPA.ifBnt ?_ ?_ | refine WPA.ifBf ?_ ?_); assumption) | ((first | refine WPA.ifs ?_ ?_ | refine WPA.ifB ?_ ?_) <;> intro hc) | ((fail_if_success (guard_target =~ WLA _ _ _ _ _ _ (put1 _ _ (.bool true)) _)); (fail_if_success (guard_target =~ WLA _ _ _ _ _ _ (put1 _ _ (.bool false)) _)); (first | refine WLA.both rfl rfl ?_ ?_ | refine WLA.bothB rfl rfl ?_ ?_) <;> intro hg))
    exact QQ.endc rfl () rfl fun w h => h.to
  by_cases g2 : gr.length < gs.length
  · have g1' : ¬ (gs.length : Int) < 1 := by omega
    have g2' : (gr.length : Int) < gs.length := by omega
    repeat' (first | ((first | refine WLA.m rfl rfl ?_ ?_ | refine WLA.st rfl ?_ ?_ | refine WLA.x rfl rfl ?_ (fun x => ?_) | refine WLA.x0 rfl ?_ (fun x => ?_)); first | exact trivial | exact rfl | assumption | omega | (refine ⟨?_, ?_⟩ <;> omega) | (simp only [Room, List.length_set, List.length_append, List.length_cons, List.length_nil, List.length_replicate]; omega) | decide | skip) | (refine Stp.go ?_) | (refine WPA.ifT ?_) | (refine WPA.ifF ?_) | (refine WLA.no rfl rfl ?_) | ((first | refine WPA.dec ?_ | ((fail_if_success (guard_target =~ WLA _ _ _ _ _ _ (put1 _ _ (.bool true)) _)); (fail_if_success (guard_target =~ WLA _ _ _ _ _ _ (put1 _ _ (.bool false)) _)); refine WLA.dec rfl rfl ?_) | refine WLA.pk ?_); first | refine .inl ⟨by first | assumption | omega | with_reducible rfl | (refine fun h => h ?_; assumption) | (simp only [List.length_append, List.length_cons, List.length_nil, List.length_set] <;> omega) | decide, ?_⟩ | refine .inr ⟨by first | assumption | omega | with_reducible rfl | (refine fun h => h ?_; assumption) | (simp only [List.length_append, List.length_cons, List.length_nil, List.length_set] <;> omega) | decide, ?_⟩) | ((first | refine WPA.ifBt ?_ ?_ | refine WPA.ifBnf ?_ ?_); assumption) | ((first | refine WPA.ifBnt ?_ ?_ | refine WPA.ifBf ?_ ?_); assumption) | ((first | refine WPA.ifs ?_ ?_ | refine WPA.ifB ?_ ?_) <;> intro hc) | ((fail_if_success (guard_target =~ WLA _ _ _ _ _ _ (put1 _ _ (.bool true)) _)); (fail_if_success (guard_target =~ WLA _ _ _ _ _ _ (put1 _ _ (.bool false)) _)); (first | refine WLA.both rfl rfl ?_ ?_ | refine WLA.bothB rfl rfl ?_ ?_) <;> intro hg))
    exact QQ.endc rfl () rfl fun w h => h.to
  have f1' : ¬ (gs.length : Int) < 1 := by omega
  have f2' : ¬ (gr.length : Int) < gs.length := by omega
  have hir : 0 ≤ (gs.length : Int) - 1 ∧ (gs.length : Int) - 1 < gr.length := by omega
  have hm : at_ gr ((gs.length : Int) - 1) ∈ gr := by rw [show (gs.length : Int) - 1 = ((gs.length - 1 : Nat) : Int) by omega, at_nat gr (gs.length - 1) (by omega)]; exact List.getElem_mem _
  have hRk := hR _ hm
  have hEk := hE _ hm
  have hrk := hrn _ hm
  have hkk := hkn _ hm
  have f3 : ¬ (gs ∈ (re (at_ gr ((gs.length : Int) - 1))).map fun p => kg p.1) := fun h => hF ⟨⟨by omega, by omega⟩, h⟩
  generalize re (at_ gr ((gs.length : Int) - 1)) = es at hRk hEk hrk hkk f3
  have hkk2 : ∀ p ∈ es, (kg p.1).length ≤ 1000000000 := fun p hp => by have := hkk p hp; omega
  have hneg := hasN_neg f3
  repeat' (first | ((first | refine WLA.m rfl rfl ?_ ?_ | refine WLA.st rfl ?_ ?_ | refine WLA.x rfl rfl ?_ (fun x => ?_) | refine WLA.x0 rfl ?_ (fun x => ?_)); first | exact trivial | exact rfl | assumption | omega | (refine ⟨?_, ?_⟩ <;> omega) | (simp only [Room, List.length_set, List.length_append, List.length_cons, List.length_nil, List.length_replicate]; omega) | decide | skip) | (refine Stp.go ?_) | (guard_target =~ WLA _ _ _ _ _ (⟨_, .call ⟨.value (.func 88), _, _⟩, _, _, _, _⟩ :: _) _ _; refine WLA.cq rfl rfl (HasM_tr hEk (by omega) hkk2 (by omega)) ?_) | (refine WPA.ifT ?_) | (refine WPA.ifF ?_) | (refine WLA.no rfl rfl ?_) | ((first | refine WPA.dec ?_ | ((fail_if_success (guard_target =~ WLA _ _ _ _ _ _ (put1 _ _ (.bool true)) _)); (fail_if_success (guard_target =~ WLA _ _ _ _ _ _ (put1 _ _ (.bool false)) _)); refine WLA.dec rfl rfl ?_) | refine WLA.pk ?_); first | refine .inl ⟨by first | assumption | omega | with_reducible rfl | (refine fun h => h ?_; assumption) | (simp only [List.length_append, List.length_cons, List.length_nil, List.length_set] <;> omega) | decide, ?_⟩ | refine .inr ⟨by first | assumption | omega | with_reducible rfl | (refine fun h => h ?_; assumption) | (simp only [List.length_append, List.length_cons, List.length_nil, List.length_set] <;> omega) | decide, ?_⟩) | ((first | refine WPA.ifBt ?_ ?_ | refine WPA.ifBnf ?_ ?_); assumption) | ((first | refine WPA.ifBnt ?_ ?_ | refine WPA.ifBf ?_ ?_); assumption) | ((first | refine WPA.ifs ?_ ?_ | refine WPA.ifB ?_ ?_) <;> intro hc) | ((fail_if_success (guard_target =~ WLA _ _ _ _ _ _ (put1 _ _ (.bool true)) _)); (fail_if_success (guard_target =~ WLA _ _ _ _ _ _ (put1 _ _ (.bool false)) _)); (first | refine WLA.both rfl rfl ?_ ?_ | refine WLA.bothB rfl rfl ?_ ?_) <;> intro hg))
  exact QQ.endc rfl () rfl fun w h => h.to
end
end Go.Proofs.Ytfhelnalegochaa
