/- Texts that ArpaParses_law leans on, part 16. Conditions: none. -/
import Derived.Test.YthkhneimfjaohaaGreatDoorQq15
namespace Go.Proofs.YthkhneimfjaohaaGreatDoor
open Go Go.Fw Go.RowKit
set_option linter.unusedVariables false
set_option linter.unusedSimpArgs false
set_option maxRecDepth 100000
set_option maxHeartbeats 16000000
set_option synthInstance.maxHeartbeats 200000
set_option synthInstance.maxSize 100000
attribute [local irreducible] WPA WLA WDA WDQ WDE QQ seqQ blockQ loopQ fnQ OpP OpT Tr TrP SL SLd OwnS LitS Bk BkE Ob
attribute [local irreducible] TblH VocH
theorem hasN_pos {kg : SV → List Int} {es : List En} {g : List Int} (h : g ∈ es.map fun p => kg p.1) : ¬ hasN kg es g < 0 := by unfold hasN; rw [if_pos h]; omega
theorem hasN_neg {kg : SV → List Int} {es : List En} {g : List Int} (h : ¬ (g ∈ es.map fun p => kg p.1)) : hasN kg es g < 0 := by unfold hasN; rw [if_neg h]; omega
section
variable {kg : SV → List Int} {re : SV → List En} {L : List HP} {w0 : World} {I : Foot}
theorem rCheck_tr {fr : Int} {w g : SV} {ws : List ByteArray} {gr : List SV} (hM : MdI I kg re w g ws gr) :
    Tr Tryz.prog 9 #[.agg #[.int .i64 fr, .slice w.a w.n w.cap, .slice g.a g.n g.cap]] (SL w0 I L) (fun _ : Unit => .int .i64 (chkM kg re fr ws gr)) (fun _ => SL w0 I L) := by
  refine Tr.intro Tryz.func9 rfl Tryz.ntmps9 rfl ?_
  obtain ⟨hW, hg, hR, hE, hz, hwn, hgn, hrn, hkn⟩ := hM
  unfold chkM
  have hWr : ∀ {L : List HP}, Tr Tryz.prog 20 #[.slice w.a w.n w.cap] (SL w0 I L) (fun _ : Unit => .int .i64 (ofE ws)) (fun _ => SL w0 I L) := Wrong_tr hz
  by_cases h1 : fr < 0
  · rw [if_pos (.inl h1)]
    repeat' (first | ((first | refine WLA.m rfl rfl ?_ ?_ | refine WLA.st rfl ?_ ?_ | refine WLA.x rfl rfl ?_ (fun x => ?_) | refine WLA.x0 rfl ?_ (fun x => ?_)); first | exact sdT | skip) | (refine Stp.go ?_) | (refine WPA.ifT ?_) | (refine WPA.ifF ?_) | (refine WLA.no rfl rfl ?_) | ((first | refine WPA.dec ?_ | ((fail_if_success (guard_target =~ WLA _ _ _ _ _ _ (put1 _ _ (.bool true)) _)); (fail_if_success (guard_target =~ WLA _ _ _ _ _ _ (put1 _ _ (.bool false)) _)); refine WLA.dec rfl rfl ?_) | refine WLA.pk ?_); first | refine orL ?_ | refine orR ?_) | ((first | refine WPA.ifBt ?_ ?_ | refine WPA.ifBnf ?_ ?_); assumption) | ((first | refine WPA.ifBnt ?_ ?_ | refine WPA.ifBf ?_ ?_); assumption) | ((first | refine WPA.ifs ?_ ?_ | refine WPA.ifB ?_ ?_) <;> intro hc) | ((fail_if_success (guard_target =~ WLA _ _ _ _ _ _ (put1 _ _ (.bool true)) _)); (fail_if_success (guard_target =~ WLA _ _ _ _ _ _ (put1 _ _ (.bool false)) _)); (first | refine WLA.both rfl rfl ?_ ?_ | refine WLA.bothB rfl rfl ?_ ?_) <;> intro hg))
    exact QQ.end_ rfl () rfl fun w h => h.to
  by_cases h2 : 12 < fr
  · rw [if_pos (.inr (.inl h2))]
    repeat' (first | ((first | refine WLA.m rfl rfl ?_ ?_ | refine WLA.st rfl ?_ ?_ | refine WLA.x rfl rfl ?_ (fun x => ?_) | refine WLA.x0 rfl ?_ (fun x => ?_)); first | exact sdT | skip) | (refine Stp.go ?_) | (refine WPA.ifT ?_) | (refine WPA.ifF ?_) | (refine WLA.no rfl rfl ?_) | ((first | refine WPA.dec ?_ | ((fail_if_success (guard_target =~ WLA _ _ _ _ _ _ (put1 _ _ (.bool true)) _)); (fail_if_success (guard_target =~ WLA _ _ _ _ _ _ (put1 _ _ (.bool false)) _)); refine WLA.dec rfl rfl ?_) | refine WLA.pk ?_); first | refine orL ?_ | refine orR ?_) | ((first | refine WPA.ifBt ?_ ?_ | refine WPA.ifBnf ?_ ?_); assumption) | ((first | refine WPA.ifBnt ?_ ?_ | refine WPA.ifBf ?_ ?_); assumption) | ((first | refine WPA.ifs ?_ ?_ | refine WPA.ifB ?_ ?_) <;> intro hc) | ((fail_if_success (guard_target =~ WLA _ _ _ _ _ _ (put1 _ _ (.bool true)) _)); (fail_if_success (guard_target =~ WLA _ _ _ _ _ _ (put1 _ _ (.bool false)) _)); (first | refine WLA.both rfl rfl ?_ ?_ | refine WLA.bothB rfl rfl ?_ ?_) <;> intro hg))
    exact QQ.end_ rfl () rfl fun w h => h.to
  by_cases h3 : gr.length < 1
  · rw [if_pos (.inr (.inr (.inl h3)))]
    have h3' : (gr.length : Int) < 1 := by omega
    repeat' (first | ((first | refine WLA.m rfl rfl ?_ ?_ | refine WLA.st rfl ?_ ?_ | refine WLA.x rfl rfl ?_ (fun x => ?_) | refine WLA.x0 rfl ?_ (fun x => ?_)); first | exact sdT | skip) | (refine Stp.go ?_) | (refine WPA.ifT ?_) | (refine WPA.ifF ?_) | (refine WLA.no rfl rfl ?_) | ((first | refine WPA.dec ?_ | ((fail_if_success (guard_target =~ WLA _ _ _ _ _ _ (put1 _ _ (.bool true)) _)); (fail_if_success (guard_target =~ WLA _ _ _ _ _ _ (put1 _ _ (.bool false)) _)); refine WLA.dec rfl rfl ?_) | refine WLA.pk ?_); first | refine orL ?_ | refine orR ?_) | ((first | refine WPA.ifBt ?_ ?_ | refine WPA.ifBnf ?_ ?_); assumption) | ((first | refine WPA.ifBnt ?_ ?_ | refine WPA.ifBf ?_ ?_); assumption) | ((first | refine WPA.ifs ?_ ?_ | refine WPA.ifB ?_ ?_) <;> intro hc) | ((fail_if_success (guard_target =~ WLA _ _ _ _ _ _ (put1 _ _ (.bool true)) _)); (fail_if_success (guard_target =~ WLA _ _ _ _ _ _ (put1 _ _ (.bool false)) _)); (first | refine WLA.both rfl rfl ?_ ?_ | refine WLA.bothB rfl rfl ?_ ?_) <;> intro hg))
    exact QQ.end_ rfl () rfl fun w h => h.to
  by_cases h4 : 8 < gr.length
  · rw [if_pos (.inr (.inr (.inr h4)))]
    have h3' : ¬ (gr.length : Int) < 1 := by omega
    have h4' : (8 : Int) < gr.length := by omega
    repeat' (first | ((first | refine WLA.m rfl rfl ?_ ?_ | refine WLA.st rfl ?_ ?_ | refine WLA.x rfl rfl ?_ (fun x => ?_) | refine WLA.x0 rfl ?_ (fun x => ?_)); first | exact sdT | skip) | (refine Stp.go ?_) | (refine WPA.ifT ?_) | (refine WPA.ifF ?_) | (refine WLA.no rfl rfl ?_) | ((first | refine WPA.dec ?_ | ((fail_if_success (guard_target =~ WLA _ _ _ _ _ _ (put1 _ _ (.bool true)) _)); (fail_if_success (guard_target =~ WLA _ _ _ _ _ _ (put1 _ _ (.bool false)) _)); refine WLA.dec rfl rfl ?_) | refine WLA.pk ?_); first | refine orL ?_ | refine orR ?_) | ((first | refine WPA.ifBt ?_ ?_ | refine WPA.ifBnf ?_ ?_); assumption) | ((first | refine WPA.ifBnt ?_ ?_ | refine WPA.ifBf ?_ ?_); assumption) | ((first | refine WPA.ifs ?_ ?_ | refine WPA.ifB ?_ ?_) <;> intro hc) | ((fail_if_success (guard_target =~ WLA _ _ _ _ _ _ (put1 _ _ (.bool true)) _)); (fail_if_success (guard_target =~ WLA _ _ _ _ _ _ (put1 _ _ (.bool false)) _)); (first | refine WLA.both rfl rfl ?_ ?_ | refine WLA.bothB rfl rfl ?_ ?_) <;> intro hg))
    exact QQ.end_ rfl () rfl fun w h => h.to
  rw [if_neg (by rintro (h | h | h | h) <;> contradiction)]
  have h3' : ¬ (gr.length : Int) < 1 := by omega
  have h4' : ¬ (8 : Int) < gr.length := by omega
  by_cases ho : OfOk ws
  · have hoe := ofE_ok ho
    rw [if_neg (fun h => h hoe)]
    repeat' (first | ((first | refine WLA.m rfl rfl ?_ ?_ | refine WLA.st rfl ?_ ?_ | refine WLA.x rfl rfl ?_ (fun x => ?_) | refine WLA.x0 rfl ?_ (fun x => ?_)); first | exact sdT | skip) | (refine Stp.go ?_) | (refine WPA.ifT ?_) | (refine WPA.ifF ?_) | ((first | refine WPA.dec ?_); first | refine orL ?_ | refine orR ?_) | ((first | refine WPA.ifBt ?_ ?_ | refine WPA.ifBnf ?_ ?_); assumption) | ((first | refine WPA.ifBnt ?_ ?_ | refine WPA.ifBf ?_ ?_); assumption) | ((first | refine WPA.ifs ?_ ?_ | refine WPA.ifB ?_ ?_) <;> intro hc))
    revert x; intro t1
    repeat' (first | ((first | refine WLA.m rfl rfl ?_ ?_ | refine WLA.st rfl ?_ ?_ | refine WLA.x rfl rfl ?_ (fun x => ?_) | refine WLA.x0 rfl ?_ (fun x => ?_)); first | exact sdT | skip) | (refine Stp.go ?_) | (guard_target =~ WLA _ _ _ _ _ (⟨_, .call ⟨.value (.func 20), _, _⟩, _, _, _, _⟩ :: _) _ _; refine WLA.call rfl rfl (hWr) ?_; rintro ⟨⟩) | (refine WPA.ifT ?_) | (refine WPA.ifF ?_) | (refine WLA.no rfl rfl ?_) | ((first | refine WPA.dec ?_ | ((fail_if_success (guard_target =~ WLA _ _ _ _ _ _ (put1 _ _ (.bool true)) _)); (fail_if_success (guard_target =~ WLA _ _ _ _ _ _ (put1 _ _ (.bool false)) _)); refine WLA.dec rfl rfl ?_) | refine WLA.pk ?_); first | refine orL ?_ | refine orR ?_) | ((first | refine WPA.ifBt ?_ ?_ | refine WPA.ifBnf ?_ ?_); assumption) | ((first | refine WPA.ifBnt ?_ ?_ | refine WPA.ifBf ?_ ?_); assumption) | ((first | refine WPA.ifs ?_ ?_ | refine WPA.ifB ?_ ?_) <;> intro hc) | ((fail_if_success (guard_target =~ WLA _ _ _ _ _ _ (put1 _ _ (.bool true)) _)); (fail_if_success (guard_target =~ WLA _ _ _ _ _ _ (put1 _ _ (.bool false)) _)); (first | refine WLA.both rfl rfl ?_ ?_ | refine WLA.bothB rfl rfl ?_ ?_) <;> intro hg))
    refine WPA.ent (EntC.out (L' := Bk t1 25 [.int .i64 fr, .slice w.a w.n w.cap, .slice g.a g.n g.cap] :: L)) ?_
    refine WPA.loopS (σ := Nat) (fun k => [(1, .pointer (some ⟨t1, 0, none⟩)), (4, .int .i64 k)]) (fun k => k ≤ gr.length ∧ firstN (chkL kg re ws.length gr) k = 0)
      (fun _ => SL w0 I (Bk t1 25 [.int .i64 fr, .slice w.a w.n w.cap, .slice g.a g.n g.cap] :: L)) (fun k => gr.length - k) 0 ⟨rfl, rfl, trivial⟩ ⟨Nat.zero_le _, rfl⟩ (fun w h => h) ?_
    rintro k ρ ⟨hk, hc⟩
    by_cases hkl : k < gr.length
    · have hkl' : (k : Int) < gr.length := by omega
      have hme : at_ gr (k : Int) ∈ gr := by rw [at_nat gr k hkl]; exact List.getElem_mem _
      have hRk := hR _ hme
      have hEk := hE _ hme
      have hrk := hrn _ hme
      have hkk := hkn _ hme
      have hprev : 0 < k → (SlI I (at_ gr ((k : Int) - 1)) En inferInstance (re (at_ gr ((k : Int) - 1))) ∧ EnG I kg (re (at_ gr ((k : Int) - 1)))) ∧ ((re (at_ gr ((k : Int) - 1))).length ≤ 1000000 ∧ ∀ p ∈ re (at_ gr ((k : Int) - 1)), (kg p.1).length ≤ 1000000) ∧ RisE kg (re (at_ gr ((k : Int) - 1))) := by
        intro h0
        have e : (k : Int) - 1 = ((k - 1 : Nat) : Int) := by omega
        have hm : at_ gr ((k : Int) - 1) ∈ gr := by rw [e, at_nat gr (k - 1) (by omega)]; exact List.getElem_mem _
        refine ⟨⟨hR _ hm, hE _ hm⟩, ⟨hrn _ hm, hkn _ hm⟩, ?_⟩
        have hz := firstN_zero hc (k - 1) (by omega)
        unfold chkL chkLs at hz
        split at hz
        · contradiction
        · rename_i hf
          rw [← e] at hz hf
          exact ris_chk (firstN_zero (Classical.byContradiction hf))
      have hkL : chkL kg re ws.length gr k = chkLs kg ws.length (decide ((k : Int) = (gr.length : Int) - 1)) k (re (at_ gr (k : Int))) (re (at_ gr ((k : Int) - 1))) := rfl
      have hnext := firstN_succ hc
      have hfin : chkL kg re ws.length gr k ≠ 0 → firstN (chkL kg re ws.length gr) gr.length = chkL kg re ws.length gr k := fun h => firstN_here hc h _ hkl
      rw [hkL] at hnext hfin
      generalize hes : re (at_ gr (k : Int)) = es at hRk hEk hrk hkk hkL hnext hfin
      generalize hps : re (at_ gr ((k : Int) - 1)) = ps at hprev hkL hnext hfin
      repeat' (first | ((first | refine WLA.m rfl rfl ?_ ?_ | refine WLA.st rfl ?_ ?_ | refine WLA.x rfl rfl ?_ (fun x => ?_) | refine WLA.x0 rfl ?_ (fun x => ?_)); first | exact sdT | skip) | (refine Stp.go ?_) | (refine WPA.ifT ?_) | (refine WPA.ifF ?_) | ((first | refine WPA.dec ?_); first | refine orL ?_ | refine orR ?_) | ((first | refine WPA.ifBt ?_ ?_ | refine WPA.ifBnf ?_ ?_); assumption) | ((first | refine WPA.ifBnt ?_ ?_ | refine WPA.ifBf ?_ ?_); assumption) | ((first | refine WPA.ifs ?_ ?_ | refine WPA.ifB ?_ ?_) <;> intro hc))
      refine WPA.loopS (σ := Nat) (fun i => [(1, .pointer (some ⟨t1, 0, none⟩)), (4, .int .i64 k), (5, .slice (at_ gr (k : Int)).a (at_ gr (k : Int)).n (at_ gr (k : Int)).cap), (6, .int .i64 i)])
        (fun i => i ≤ es.length ∧ firstN (chkE kg ws.length (decide ((k : Int) = (gr.length : Int) - 1)) k es ps) i = 0)
        (fun _ => SL w0 I (Bk t1 25 [.int .i64 fr, .slice w.a w.n w.cap, .slice g.a g.n g.cap] :: L)) (fun i => es.length - i) 0 ⟨rfl, rfl, rfl, rfl, trivial⟩ ⟨Nat.zero_le _, rfl⟩ (fun w h => h.to) ?_
      rintro i ρ2 ⟨hi, hci⟩
      by_cases hil : i < es.length
      · have hil' : (i : Int) < es.length := by omega
        have hmi : at_ es (i : Int) ∈ es := by rw [at_nat es i hil]; exact List.getElem_mem _
        have hxg := hEk _ hmi
        have hxl := hkk _ hmi
        have hprevI : 0 < i → SlI I (at_ es ((i : Int) - 1)).1 Int inferInstance (kg (at_ es ((i : Int) - 1)).1) ∧ (kg (at_ es ((i : Int) - 1)).1).length ≤ 1000000 := by
          intro h0
          have hm : at_ es ((i : Int) - 1) ∈ es := by rw [show (i : Int) - 1 = ((i - 1 : Nat) : Int) by omega, at_nat es (i - 1) (by omega)]; exact List.getElem_mem _
          exact ⟨hEk _ hm, hkk _ hm⟩
        have hnextI := firstN_succ hci
        have hfinI : chkE kg ws.length (decide ((k : Int) = (gr.length : Int) - 1)) k es ps i ≠ 0 → firstN (chkL kg re ws.length gr) gr.length = chkE kg ws.length (decide ((k : Int) = (gr.length : Int) - 1)) k es ps i := by
          intro h
          have h2 := firstN_here hci h _ hil
          have h3 : chkLs kg ws.length (decide ((k : Int) = (gr.length : Int) - 1)) k es ps = chkE kg ws.length (decide ((k : Int) = (gr.length : Int) - 1)) k es ps i := by unfold chkLs; rw [h2, if_pos h]
          rw [← h3]; rw [h3] at hfin ⊢; exact hfin h
        by_cases he : entE (kg (at_ es (i : Int)).1) (at_ es (i : Int)).2.1 (at_ es (i : Int)).2.2 ((k : Int) + 1) ws.length (decide ((k : Int) = (gr.length : Int) - 1)) ≠ 0
        · have hce : chkE kg ws.length (decide ((k : Int) = (gr.length : Int) - 1)) k es ps i = entE (kg (at_ es (i : Int)).1) (at_ es (i : Int)).2.1 (at_ es (i : Int)).2.2 ((k : Int) + 1) ws.length (decide ((k : Int) = (gr.length : Int) - 1)) := by unfold chkE; rw [if_pos he]
          rw [hfinI (by rw [hce]; exact he), hce]
          repeat' (first | ((first | refine WLA.m rfl rfl ?_ ?_ | refine WDQ.m rfl rfl ?_ ?_ | refine WLA.st rfl ?_ ?_ | refine WLA.x rfl rfl ?_ (fun x => ?_) | refine WLA.x0 rfl ?_ (fun x => ?_)); first | exact sdT | skip) | (refine Stp.go ?_) | (guard_target =~ WLA _ _ _ _ _ (⟨_, .call ⟨.value (.func 21), _, _⟩, _, _, _, _⟩ :: _) _ _; refine WLA.call rfl rfl (rEntry_tr (by omega)) ?_; rintro ⟨⟩) | (refine WPA.ifT ?_) | (refine WPA.ifF ?_) | ((first | refine WPA.dec ?_); first | refine orL ?_ | refine orR ?_) | ((first | refine WPA.ifBt ?_ ?_ | refine WPA.ifBnf ?_ ?_); assumption) | ((first | refine WPA.ifBnt ?_ ?_ | refine WPA.ifBf ?_ ?_); assumption) | ((first | refine WPA.ifs ?_ ?_ | refine WPA.ifB ?_ ?_) <;> intro hc) | (guard_target =~ WPA _ _ _ (.region 13 _ true) _ _ _; refine WPA.drawT 15 (.q 0 (.q 1 (.q 2 (.q 3 (.q 4 (.q 5 (.q 6 (.q 7 (.q 8 (.q 9 (.q 10 (.q 11 (.q 12 (.q 13 (.q 14 .fin))))))))))))))) mixed ?_ ?_; kernel_rfl) | (refine WDA.finish (tl := [⟨_, _, _, _, _, _⟩, ⟨_, _, _, _, _, _⟩]) rfl ?_) | (refine WDQ.see rfl ?_) | (guard_target =~ WDE _ _ _ _ _ _ _ ⟨_, .call ⟨.value (.func 21), _, _⟩, _, _, _, _⟩ _ _ _; refine WDE.call rfl rfl (rEntry_tr (by omega)) ?_ ?_; (intro x w h; first | exact h | exact Ent.drop1.sl h | exact SL.unI h | exact SL.to h); rintro ⟨⟩) | (guard_target =~ WDW _ _ _ _ _ _ _ ⟨_, .call ⟨.value (.func 21), _, _⟩, _, _, _, _⟩ _ _ _; refine WDW.call rfl rfl (rEntry_tr (by omega)) ?_; rintro ⟨⟩))
          exact QQ.end_ rfl () rfl fun w h => h.to
        · have hen : ((kg (at_ es (i : Int)).1).length : Int) = (k : Int) + 1 := by
            apply Classical.byContradiction
            intro hne
            exact he (by unfold entE; rw [if_pos hne]; decide)
          have he0 : ¬ entE (kg (at_ es (i : Int)).1) (at_ es (i : Int)).2.1 (at_ es (i : Int)).2.2 ((k : Int) + 1) ws.length (decide ((k : Int) = (gr.length : Int) - 1)) ≠ 0 := he
          by_cases hi0 : 0 < i
          · have hi0' : (0 : Int) < i := by omega
            obtain ⟨q1, q2⟩ := hprevI hi0
            have hir : 0 ≤ (i : Int) - 1 ∧ (i : Int) - 1 < es.length := by omega
            by_cases hcm : 0 ≤ cmpL (kg (at_ es ((i : Int) - 1)).1) (kg (at_ es (i : Int)).1)
            · have h3 : chkE kg ws.length (decide ((k : Int) = (gr.length : Int) - 1)) k es ps i = 9 := by unfold chkE; rw [if_neg he, if_pos ⟨hi0, hcm⟩]
              rw [hfinI (by rw [h3]; decide), h3]
              repeat' ((fail_if_success (guard_target =~ WPA _ _ _ (.region 16 _ _) _ _ _)); first | ((first | refine WLA.m rfl rfl ?_ ?_ | refine WDQ.m rfl rfl ?_ ?_ | refine WLA.st rfl ?_ ?_ | refine WLA.x rfl rfl ?_ (fun x => ?_) | refine WLA.x0 rfl ?_ (fun x => ?_)); first | exact sdT | skip) | (refine Stp.go ?_) | (guard_target =~ WLA _ _ _ _ _ (⟨_, .call ⟨.value (.func 21), _, _⟩, _, _, _, _⟩ :: _) _ _; refine WLA.call rfl rfl (rEntry_tr (by omega)) ?_; rintro ⟨⟩) | (refine WPA.ifT ?_) | (refine WPA.ifF ?_) | ((first | refine WPA.dec ?_); first | refine orL ?_ | refine orR ?_) | ((first | refine WPA.ifBt ?_ ?_ | refine WPA.ifBnf ?_ ?_); assumption) | ((first | refine WPA.ifBnt ?_ ?_ | refine WPA.ifBf ?_ ?_); assumption) | ((first | refine WPA.ifs ?_ ?_ | refine WPA.ifB ?_ ?_) <;> intro hc) | (guard_target =~ WPA _ _ _ (.region 13 _ true) _ _ _; refine WPA.drawT 15 (.q 0 (.q 1 (.q 2 (.q 3 (.q 4 (.q 5 (.q 6 (.q 7 (.q 8 (.q 9 (.q 10 (.q 11 (.q 12 (.q 13 (.q 14 .fin))))))))))))))) mixed ?_ ?_; kernel_rfl) | (refine WDA.finish (tl := [⟨_, _, _, _, _, _⟩, ⟨_, _, _, _, _, _⟩]) rfl ?_) | (refine WDQ.see rfl ?_) | (guard_target =~ WDE _ _ _ _ _ _ _ ⟨_, .call ⟨.value (.func 21), _, _⟩, _, _, _, _⟩ _ _ _; refine WDE.call rfl rfl (rEntry_tr (by omega)) ?_ ?_; (intro x w h; first | exact h | exact Ent.drop1.sl h | exact SL.unI h | exact SL.to h); rintro ⟨⟩) | (guard_target =~ WDW _ _ _ _ _ _ _ ⟨_, .call ⟨.value (.func 21), _, _⟩, _, _, _, _⟩ _ _ _; refine WDW.call rfl rfl (rEntry_tr (by omega)) ?_; rintro ⟨⟩))
              repeat' (first | ((first | refine WLA.m rfl rfl ?_ ?_ | refine WDQ.m rfl rfl ?_ ?_ | refine WLA.st rfl ?_ ?_ | refine WLA.x rfl rfl ?_ (fun x => ?_) | refine WLA.x0 rfl ?_ (fun x => ?_)); first | exact sdT | skip) | (refine Stp.go ?_) | (guard_target =~ WLA _ _ _ _ _ (⟨_, .call ⟨.value (.func 22), _, _⟩, _, _, _, _⟩ :: _) _ _; refine WLA.cq rfl rfl (Compare_tr (by omega) (by omega)) ?_) | (refine WPA.ifT ?_) | (refine WPA.ifF ?_) | (refine WLA.no rfl rfl ?_) | (refine WDQ.no rfl rfl ?_) | ((first | refine WPA.dec ?_ | ((fail_if_success (guard_target =~ WLA _ _ _ _ _ _ (put1 _ _ (.bool true)) _)); (fail_if_success (guard_target =~ WLA _ _ _ _ _ _ (put1 _ _ (.bool false)) _)); refine WLA.dec rfl rfl ?_) | refine WLA.pk ?_ | refine WDQ.dec rfl rfl ?_); first | refine orL ?_ | refine orR ?_) | ((first | refine WPA.ifBt ?_ ?_ | refine WPA.ifBnf ?_ ?_); assumption) | ((first | refine WPA.ifBnt ?_ ?_ | refine WPA.ifBf ?_ ?_); assumption) | ((first | refine WPA.ifs ?_ ?_ | refine WPA.ifB ?_ ?_) <;> intro hc) | ((fail_if_success (guard_target =~ WLA _ _ _ _ _ _ (put1 _ _ (.bool true)) _)); (fail_if_success (guard_target =~ WLA _ _ _ _ _ _ (put1 _ _ (.bool false)) _)); (first | refine WLA.both rfl rfl ?_ ?_ | refine WLA.bothB rfl rfl ?_ ?_) <;> intro hg) | (guard_target =~ WPA _ _ _ (.region 16 _ true) _ _ _; refine WPA.drawT 14 (.q 0 (.q 1 (.q 2 (.q 3 (.q 4 (.q 5 (.q 6 (.q 7 (.q 8 (.q 9 (.q 10 (.q 11 (.q 12 (.q 13 .fin)))))))))))))) mixed ?_ ?_; kernel_rfl) | (refine WDA.finish (tl := [⟨_, _, _, _, _, _⟩, ⟨_, _, _, _, _, _⟩, ⟨_, _, _, _, _, _⟩]) rfl ?_) | (refine WDQ.see rfl ?_) | (guard_target =~ WDQ _ _ _ _ _ _ _ ⟨_, .call ⟨.value (.func 22), _, _⟩, _, _, _, _⟩ _ _ _; refine WDQ.cq rfl rfl (Compare_tr (by omega) (by omega)) ?_) | ((first | refine WDQ.both rfl rfl ?_ ?_) <;> intro hg))
              exact QQ.end_ rfl () rfl fun w h => h.to
            · have hord : ¬ (0 < i ∧ 0 ≤ cmpL (kg (at_ es ((i : Int) - 1)).1) (kg (at_ es (i : Int)).1)) := fun h => hcm h.2
              by_cases hk0 : k = 0
              · have hk0' : ¬ (0 : Int) < k := by omega
                have h3 : chkE kg ws.length (decide ((k : Int) = (gr.length : Int) - 1)) k es ps i = 0 := by unfold chkE; rw [if_neg he, if_neg hord, if_neg (fun h => by have := h.1; omega)]
                repeat' ((fail_if_success (guard_target =~ WPA _ _ _ (.region 16 _ _) _ _ _)); first | ((first | refine WLA.m rfl rfl ?_ ?_ | refine WDQ.m rfl rfl ?_ ?_ | refine WLA.st rfl ?_ ?_ | refine WLA.x rfl rfl ?_ (fun x => ?_) | refine WLA.x0 rfl ?_ (fun x => ?_)); first | exact sdT | skip) | (refine Stp.go ?_) | (guard_target =~ WLA _ _ _ _ _ (⟨_, .call ⟨.value (.func 21), _, _⟩, _, _, _, _⟩ :: _) _ _; refine WLA.call rfl rfl (rEntry_tr (by omega)) ?_; rintro ⟨⟩) | (refine WPA.ifT ?_) | (refine WPA.ifF ?_) | ((first | refine WPA.dec ?_); first | refine orL ?_ | refine orR ?_) | ((first | refine WPA.ifBt ?_ ?_ | refine WPA.ifBnf ?_ ?_); assumption) | ((first | refine WPA.ifBnt ?_ ?_ | refine WPA.ifBf ?_ ?_); assumption) | ((first | refine WPA.ifs ?_ ?_ | refine WPA.ifB ?_ ?_) <;> intro hc) | (guard_target =~ WPA _ _ _ (.region 13 _ true) _ _ _; refine WPA.drawT 15 (.q 0 (.q 1 (.q 2 (.q 3 (.q 4 (.q 5 (.q 6 (.q 7 (.q 8 (.q 9 (.q 10 (.q 11 (.q 12 (.q 13 (.q 14 .fin))))))))))))))) mixed ?_ ?_; kernel_rfl) | (refine WDA.finish (tl := [⟨_, _, _, _, _, _⟩, ⟨_, _, _, _, _, _⟩]) rfl ?_) | (refine WDQ.see rfl ?_) | (guard_target =~ WDE _ _ _ _ _ _ _ ⟨_, .call ⟨.value (.func 21), _, _⟩, _, _, _, _⟩ _ _ _; refine WDE.call rfl rfl (rEntry_tr (by omega)) ?_ ?_; (intro x w h; first | exact h | exact Ent.drop1.sl h | exact SL.unI h | exact SL.to h); rintro ⟨⟩) | (guard_target =~ WDW _ _ _ _ _ _ _ ⟨_, .call ⟨.value (.func 21), _, _⟩, _, _, _, _⟩ _ _ _; refine WDW.call rfl rfl (rEntry_tr (by omega)) ?_; rintro ⟨⟩))
                repeat' (first | ((first | refine WLA.m rfl rfl ?_ ?_ | refine WDQ.m rfl rfl ?_ ?_ | refine WLA.st rfl ?_ ?_ | refine WLA.x rfl rfl ?_ (fun x => ?_) | refine WLA.x0 rfl ?_ (fun x => ?_)); first | exact sdT | skip) | (refine Stp.go ?_) | (guard_target =~ WLA _ _ _ _ _ (⟨_, .call ⟨.value (.func 22), _, _⟩, _, _, _, _⟩ :: _) _ _; refine WLA.cq rfl rfl (Compare_tr (by omega) (by omega)) ?_) | (refine WPA.ifT ?_) | (refine WPA.ifF ?_) | (refine WLA.no rfl rfl ?_) | (refine WDQ.no rfl rfl ?_) | ((first | refine WPA.dec ?_ | ((fail_if_success (guard_target =~ WLA _ _ _ _ _ _ (put1 _ _ (.bool true)) _)); (fail_if_success (guard_target =~ WLA _ _ _ _ _ _ (put1 _ _ (.bool false)) _)); refine WLA.dec rfl rfl ?_) | refine WLA.pk ?_ | refine WDQ.dec rfl rfl ?_); first | refine orL ?_ | refine orR ?_) | ((first | refine WPA.ifBt ?_ ?_ | refine WPA.ifBnf ?_ ?_); assumption) | ((first | refine WPA.ifBnt ?_ ?_ | refine WPA.ifBf ?_ ?_); assumption) | ((first | refine WPA.ifs ?_ ?_ | refine WPA.ifB ?_ ?_) <;> intro hc) | ((fail_if_success (guard_target =~ WLA _ _ _ _ _ _ (put1 _ _ (.bool true)) _)); (fail_if_success (guard_target =~ WLA _ _ _ _ _ _ (put1 _ _ (.bool false)) _)); (first | refine WLA.both rfl rfl ?_ ?_ | refine WLA.bothB rfl rfl ?_ ?_) <;> intro hg) | (guard_target =~ WPA _ _ _ (.region 16 _ true) _ _ _; refine WPA.drawT 14 (.q 0 (.q 1 (.q 2 (.q 3 (.q 4 (.q 5 (.q 6 (.q 7 (.q 8 (.q 9 (.q 10 (.q 11 (.q 12 (.q 13 .fin)))))))))))))) mixed ?_ ?_; kernel_rfl) | (guard_target =~ WPA _ _ _ (.region 18 _ true) _ _ _; refine WPA.drawT 16 (.q 0 (.q 1 (.q 2 (.q 3 (.q 4 (.q 5 (.q 6 (.q 7 (.q 8 (.q 9 (.q 10 (.q 11 (.q 12 (.q 13 (.q 14 (.q 15 .fin)))))))))))))))) mixed ?_ ?_; kernel_rfl) | (refine WDA.finish (tl := [⟨_, _, _, _, _, _⟩, ⟨_, _, _, _, _, _⟩, ⟨_, _, _, _, _, _⟩]) rfl ?_) | (refine WDQ.see rfl ?_) | (guard_target =~ WDQ _ _ _ _ _ _ _ ⟨_, .call ⟨.value (.func 22), _, _⟩, _, _, _, _⟩ _ _ _; refine WDQ.cq rfl rfl (Compare_tr (by omega) (by omega)) ?_) | ((first | refine WDQ.both rfl rfl ?_ ?_) <;> intro hg))
                exact QQ.loopS (i + 1) ⟨rfl, rfl, rfl, rfl, trivial⟩ ⟨hil, by rw [hnextI, h3]⟩ (by omega) (fun w h => h.to)
              · have hk0' : (0 : Int) < k := by omega
                obtain ⟨⟨p1, p2⟩, ⟨p3, p4⟩, p5⟩ := hprev (by omega)
                have p4' : ∀ p ∈ ps, (kg p.1).length ≤ 1000000000 := fun p hp => by have := p4 p hp; omega
                have hkr : 0 ≤ (k : Int) - 1 ∧ (k : Int) - 1 < gr.length := by omega
                have hkc : (0 : Int) ≤ 0 ∧ (0 : Int) ≤ k ∧ (k : Int) ≤ (kg (at_ es (i : Int)).1).length := by omega
                have hcl : (cutL (kg (at_ es (i : Int)).1) 0 (k : Int)).length ≤ 1000000000 := by rw [cut_take (by omega), List.length_take]; omega
                by_cases hm : cutL (kg (at_ es (i : Int)).1) 0 (k : Int) ∈ ps.map fun p => kg p.1
                · have hm' := hasN_pos hm
                  have h3 : chkE kg ws.length (decide ((k : Int) = (gr.length : Int) - 1)) k es ps i = 0 := by unfold chkE; rw [if_neg he, if_neg hord, if_neg (fun h => h.2 hm)]
                  repeat' ((fail_if_success (guard_target =~ WPA _ _ _ (.region 16 _ _) _ _ _)); first | ((first | refine WLA.m rfl rfl ?_ ?_ | refine WDQ.m rfl rfl ?_ ?_ | refine WLA.st rfl ?_ ?_ | refine WLA.x rfl rfl ?_ (fun x => ?_) | refine WLA.x0 rfl ?_ (fun x => ?_)); first | exact sdT | skip) | (refine Stp.go ?_) | (guard_target =~ WLA _ _ _ _ _ (⟨_, .call ⟨.value (.func 21), _, _⟩, _, _, _, _⟩ :: _) _ _; refine WLA.call rfl rfl (rEntry_tr (by omega)) ?_; rintro ⟨⟩) | (refine WPA.ifT ?_) | (refine WPA.ifF ?_) | ((first | refine WPA.dec ?_); first | refine orL ?_ | refine orR ?_) | ((first | refine WPA.ifBt ?_ ?_ | refine WPA.ifBnf ?_ ?_); assumption) | ((first | refine WPA.ifBnt ?_ ?_ | refine WPA.ifBf ?_ ?_); assumption) | ((first | refine WPA.ifs ?_ ?_ | refine WPA.ifB ?_ ?_) <;> intro hc) | (guard_target =~ WPA _ _ _ (.region 13 _ true) _ _ _; refine WPA.drawT 15 (.q 0 (.q 1 (.q 2 (.q 3 (.q 4 (.q 5 (.q 6 (.q 7 (.q 8 (.q 9 (.q 10 (.q 11 (.q 12 (.q 13 (.q 14 .fin))))))))))))))) mixed ?_ ?_; kernel_rfl) | (refine WDA.finish (tl := [⟨_, _, _, _, _, _⟩, ⟨_, _, _, _, _, _⟩]) rfl ?_) | (refine WDQ.see rfl ?_) | (guard_target =~ WDE _ _ _ _ _ _ _ ⟨_, .call ⟨.value (.func 21), _, _⟩, _, _, _, _⟩ _ _ _; refine WDE.call rfl rfl (rEntry_tr (by omega)) ?_ ?_; (intro x w h; first | exact h | exact Ent.drop1.sl h | exact SL.unI h | exact SL.to h); rintro ⟨⟩) | (guard_target =~ WDW _ _ _ _ _ _ _ ⟨_, .call ⟨.value (.func 21), _, _⟩, _, _, _, _⟩ _ _ _; refine WDW.call rfl rfl (rEntry_tr (by omega)) ?_; rintro ⟨⟩))
                  repeat' (first | ((first | refine WLA.m rfl rfl ?_ ?_ | refine WDQ.m rfl rfl ?_ ?_ | refine WLA.st rfl ?_ ?_ | refine WLA.x rfl rfl ?_ (fun x => ?_) | refine WLA.x0 rfl ?_ (fun x => ?_)); first | exact sdT | skip) | (refine Stp.go ?_) | (guard_target =~ WLA _ _ _ _ _ (⟨_, .call ⟨.value (.func 22), _, _⟩, _, _, _, _⟩ :: _) _ _; refine WLA.cq rfl rfl (Compare_tr (by omega) (by omega)) ?_) | (guard_target =~ WLA _ _ _ _ _ (⟨_, .call ⟨.value (.func 23), _, _⟩, _, _, _, _⟩ :: _) _ _; refine WLA.cq rfl rfl (HasM_tr p2 (by omega) p4' hcl) ?_) | (refine WPA.ifT ?_) | (refine WPA.ifF ?_) | (refine WLA.no rfl rfl ?_) | (refine WDQ.no rfl rfl ?_) | ((first | refine WPA.dec ?_ | ((fail_if_success (guard_target =~ WLA _ _ _ _ _ _ (put1 _ _ (.bool true)) _)); (fail_if_success (guard_target =~ WLA _ _ _ _ _ _ (put1 _ _ (.bool false)) _)); refine WLA.dec rfl rfl ?_) | refine WLA.pk ?_ | refine WDQ.dec rfl rfl ?_); first | refine orL ?_ | refine orR ?_) | ((first | refine WPA.ifBt ?_ ?_ | refine WPA.ifBnf ?_ ?_); assumption) | ((first | refine WPA.ifBnt ?_ ?_ | refine WPA.ifBf ?_ ?_); assumption) | ((first | refine WPA.ifs ?_ ?_ | refine WPA.ifB ?_ ?_) <;> intro hc) | ((fail_if_success (guard_target =~ WLA _ _ _ _ _ _ (put1 _ _ (.bool true)) _)); (fail_if_success (guard_target =~ WLA _ _ _ _ _ _ (put1 _ _ (.bool false)) _)); (first | refine WLA.both rfl rfl ?_ ?_ | refine WLA.bothB rfl rfl ?_ ?_) <;> intro hg) | (guard_target =~ WPA _ _ _ (.region 16 _ true) _ _ _; refine WPA.drawT 14 (.q 0 (.q 1 (.q 2 (.q 3 (.q 4 (.q 5 (.q 6 (.q 7 (.q 8 (.q 9 (.q 10 (.q 11 (.q 12 (.q 13 .fin)))))))))))))) mixed ?_ ?_; kernel_rfl) | (guard_target =~ WPA _ _ _ (.region 18 _ true) _ _ _; refine WPA.drawT 16 (.q 0 (.q 1 (.q 2 (.q 3 (.q 4 (.q 5 (.q 6 (.q 7 (.q 8 (.q 9 (.q 10 (.q 11 (.q 12 (.q 13 (.q 14 (.q 15 .fin)))))))))))))))) mixed ?_ ?_; kernel_rfl) | (refine WDA.finish (tl := [⟨_, _, _, _, _, _⟩, ⟨_, _, _, _, _, _⟩, ⟨_, _, _, _, _, _⟩]) rfl ?_) | (refine WDQ.see rfl ?_) | (guard_target =~ WDQ _ _ _ _ _ _ _ ⟨_, .call ⟨.value (.func 22), _, _⟩, _, _, _, _⟩ _ _ _; refine WDQ.cq rfl rfl (Compare_tr (by omega) (by omega)) ?_) | (guard_target =~ WDQ _ _ _ _ _ _ _ ⟨_, .call ⟨.value (.func 23), _, _⟩, _, _, _, _⟩ _ _ _; refine WDQ.cq rfl rfl (HasM_tr p2 (by omega) p4' hcl) ?_) | ((first | refine WDQ.both rfl rfl ?_ ?_) <;> intro hg))
                  exact QQ.loopS (i + 1) ⟨rfl, rfl, rfl, rfl, trivial⟩ ⟨hil, by rw [hnextI, h3]⟩ (by omega) (fun w h => h.to)
                · have hm' := hasN_neg hm
                  have h3 : chkE kg ws.length (decide ((k : Int) = (gr.length : Int) - 1)) k es ps i = 7 := by unfold chkE; rw [if_neg he, if_neg hord, if_pos ⟨by omega, hm⟩]
                  rw [hfinI (by rw [h3]; decide), h3]
                  repeat' ((fail_if_success (guard_target =~ WPA _ _ _ (.region 16 _ _) _ _ _)); first | ((first | refine WLA.m rfl rfl ?_ ?_ | refine WDQ.m rfl rfl ?_ ?_ | refine WLA.st rfl ?_ ?_ | refine WLA.x rfl rfl ?_ (fun x => ?_) | refine WLA.x0 rfl ?_ (fun x => ?_)); first | exact sdT | skip) | (refine Stp.go ?_) | (guard_target =~ WLA _ _ _ _ _ (⟨_, .call ⟨.value (.func 21), _, _⟩, _, _, _, _⟩ :: _) _ _; refine WLA.call rfl rfl (rEntry_tr (by omega)) ?_; rintro ⟨⟩) | (refine WPA.ifT ?_) | (refine WPA.ifF ?_) | ((first | refine WPA.dec ?_); first | refine orL ?_ | refine orR ?_) | ((first | refine WPA.ifBt ?_ ?_ | refine WPA.ifBnf ?_ ?_); assumption) | ((first | refine WPA.ifBnt ?_ ?_ | refine WPA.ifBf ?_ ?_); assumption) | ((first | refine WPA.ifs ?_ ?_ | refine WPA.ifB ?_ ?_) <;> intro hc) | (guard_target =~ WPA _ _ _ (.region 13 _ true) _ _ _; refine WPA.drawT 15 (.q 0 (.q 1 (.q 2 (.q 3 (.q 4 (.q 5 (.q 6 (.q 7 (.q 8 (.q 9 (.q 10 (.q 11 (.q 12 (.q 13 (.q 14 .fin))))))))))))))) mixed ?_ ?_; kernel_rfl) | (refine WDA.finish (tl := [⟨_, _, _, _, _, _⟩, ⟨_, _, _, _, _, _⟩]) rfl ?_) | (refine WDQ.see rfl ?_) | (guard_target =~ WDE _ _ _ _ _ _ _ ⟨_, .call ⟨.value (.func 21), _, _⟩, _, _, _, _⟩ _ _ _; refine WDE.call rfl rfl (rEntry_tr (by omega)) ?_ ?_; (intro x w h; first | exact h | exact Ent.drop1.sl h | exact SL.unI h | exact SL.to h); rintro ⟨⟩) | (guard_target =~ WDW _ _ _ _ _ _ _ ⟨_, .call ⟨.value (.func 21), _, _⟩, _, _, _, _⟩ _ _ _; refine WDW.call rfl rfl (rEntry_tr (by omega)) ?_; rintro ⟨⟩))
                  repeat' (first | ((first | refine WLA.m rfl rfl ?_ ?_ | refine WDQ.m rfl rfl ?_ ?_ | refine WLA.st rfl ?_ ?_ | refine WLA.x rfl rfl ?_ (fun x => ?_) | refine WLA.x0 rfl ?_ (fun x => ?_)); first | exact sdT | skip) | (refine Stp.go ?_) | (guard_target =~ WLA _ _ _ _ _ (⟨_, .call ⟨.value (.func 22), _, _⟩, _, _, _, _⟩ :: _) _ _; refine WLA.cq rfl rfl (Compare_tr (by omega) (by omega)) ?_) | (guard_target =~ WLA _ _ _ _ _ (⟨_, .call ⟨.value (.func 23), _, _⟩, _, _, _, _⟩ :: _) _ _; refine WLA.cq rfl rfl (HasM_tr p2 (by omega) p4' hcl) ?_) | (refine WPA.ifT ?_) | (refine WPA.ifF ?_) | (refine WLA.no rfl rfl ?_) | (refine WDQ.no rfl rfl ?_) | ((first | refine WPA.dec ?_ | ((fail_if_success (guard_target =~ WLA _ _ _ _ _ _ (put1 _ _ (.bool true)) _)); (fail_if_success (guard_target =~ WLA _ _ _ _ _ _ (put1 _ _ (.bool false)) _)); refine WLA.dec rfl rfl ?_) | refine WLA.pk ?_ | refine WDQ.dec rfl rfl ?_); first | refine orL ?_ | refine orR ?_) | ((first | refine WPA.ifBt ?_ ?_ | refine WPA.ifBnf ?_ ?_); assumption) | ((first | refine WPA.ifBnt ?_ ?_ | refine WPA.ifBf ?_ ?_); assumption) | ((first | refine WPA.ifs ?_ ?_ | refine WPA.ifB ?_ ?_) <;> intro hc) | ((fail_if_success (guard_target =~ WLA _ _ _ _ _ _ (put1 _ _ (.bool true)) _)); (fail_if_success (guard_target =~ WLA _ _ _ _ _ _ (put1 _ _ (.bool false)) _)); (first | refine WLA.both rfl rfl ?_ ?_ | refine WLA.bothB rfl rfl ?_ ?_) <;> intro hg) | (guard_target =~ WPA _ _ _ (.region 16 _ true) _ _ _; refine WPA.drawT 14 (.q 0 (.q 1 (.q 2 (.q 3 (.q 4 (.q 5 (.q 6 (.q 7 (.q 8 (.q 9 (.q 10 (.q 11 (.q 12 (.q 13 .fin)))))))))))))) mixed ?_ ?_; kernel_rfl) | (guard_target =~ WPA _ _ _ (.region 18 _ true) _ _ _; refine WPA.drawT 16 (.q 0 (.q 1 (.q 2 (.q 3 (.q 4 (.q 5 (.q 6 (.q 7 (.q 8 (.q 9 (.q 10 (.q 11 (.q 12 (.q 13 (.q 14 (.q 15 .fin)))))))))))))))) mixed ?_ ?_; kernel_rfl) | (refine WDA.finish (tl := [⟨_, _, _, _, _, _⟩, ⟨_, _, _, _, _, _⟩, ⟨_, _, _, _, _, _⟩]) rfl ?_) | (refine WDQ.see rfl ?_) | (guard_target =~ WDQ _ _ _ _ _ _ _ ⟨_, .call ⟨.value (.func 22), _, _⟩, _, _, _, _⟩ _ _ _; refine WDQ.cq rfl rfl (Compare_tr (by omega) (by omega)) ?_) | (guard_target =~ WDQ _ _ _ _ _ _ _ ⟨_, .call ⟨.value (.func 23), _, _⟩, _, _, _, _⟩ _ _ _; refine WDQ.cq rfl rfl (HasM_tr p2 (by omega) p4' hcl) ?_) | ((first | refine WDQ.both rfl rfl ?_ ?_) <;> intro hg))
                  exact QQ.end_ rfl () rfl fun w h => h.to
          · have hi0' : ¬ (0 : Int) < i := by omega
            have hord : ¬ (0 < i ∧ 0 ≤ cmpL (kg (at_ es ((i : Int) - 1)).1) (kg (at_ es (i : Int)).1)) := fun h => hi0 h.1
            by_cases hk0 : k = 0
            · have hk0' : ¬ (0 : Int) < k := by omega
              have h3 : chkE kg ws.length (decide ((k : Int) = (gr.length : Int) - 1)) k es ps i = 0 := by unfold chkE; rw [if_neg he, if_neg hord, if_neg (fun h => by have := h.1; omega)]
              repeat' ((fail_if_success (guard_target =~ WPA _ _ _ (.region 16 _ _) _ _ _)); first | ((first | refine WLA.m rfl rfl ?_ ?_ | refine WDQ.m rfl rfl ?_ ?_ | refine WLA.st rfl ?_ ?_ | refine WLA.x rfl rfl ?_ (fun x => ?_) | refine WLA.x0 rfl ?_ (fun x => ?_)); first | exact sdT | skip) | (refine Stp.go ?_) | (guard_target =~ WLA _ _ _ _ _ (⟨_, .call ⟨.value (.func 21), _, _⟩, _, _, _, _⟩ :: _) _ _; refine WLA.call rfl rfl (rEntry_tr (by omega)) ?_; rintro ⟨⟩) | (refine WPA.ifT ?_) | (refine WPA.ifF ?_) | ((first | refine WPA.dec ?_); first | refine orL ?_ | refine orR ?_) | ((first | refine WPA.ifBt ?_ ?_ | refine WPA.ifBnf ?_ ?_); assumption) | ((first | refine WPA.ifBnt ?_ ?_ | refine WPA.ifBf ?_ ?_); assumption) | ((first | refine WPA.ifs ?_ ?_ | refine WPA.ifB ?_ ?_) <;> intro hc) | (guard_target =~ WPA _ _ _ (.region 13 _ true) _ _ _; refine WPA.drawT 15 (.q 0 (.q 1 (.q 2 (.q 3 (.q 4 (.q 5 (.q 6 (.q 7 (.q 8 (.q 9 (.q 10 (.q 11 (.q 12 (.q 13 (.q 14 .fin))))))))))))))) mixed ?_ ?_; kernel_rfl) | (refine WDA.finish (tl := [⟨_, _, _, _, _, _⟩, ⟨_, _, _, _, _, _⟩]) rfl ?_) | (refine WDQ.see rfl ?_) | (guard_target =~ WDE _ _ _ _ _ _ _ ⟨_, .call ⟨.value (.func 21), _, _⟩, _, _, _, _⟩ _ _ _; refine WDE.call rfl rfl (rEntry_tr (by omega)) ?_ ?_; (intro x w h; first | exact h | exact Ent.drop1.sl h | exact SL.unI h | exact SL.to h); rintro ⟨⟩) | (guard_target =~ WDW _ _ _ _ _ _ _ ⟨_, .call ⟨.value (.func 21), _, _⟩, _, _, _, _⟩ _ _ _; refine WDW.call rfl rfl (rEntry_tr (by omega)) ?_; rintro ⟨⟩))
              repeat' (first | ((first | refine WLA.m rfl rfl ?_ ?_ | refine WDQ.m rfl rfl ?_ ?_ | refine WLA.st rfl ?_ ?_ | refine WLA.x rfl rfl ?_ (fun x => ?_) | refine WLA.x0 rfl ?_ (fun x => ?_)); first | exact sdT | skip) | (refine Stp.go ?_) | (guard_target =~ WLA _ _ _ _ _ (⟨_, .call ⟨.value (.func 22), _, _⟩, _, _, _, _⟩ :: _) _ _; refine WLA.cq rfl rfl (Compare_tr (by omega) (by omega)) ?_) | (refine WPA.ifT ?_) | (refine WPA.ifF ?_) | (refine WLA.no rfl rfl ?_) | (refine WDQ.no rfl rfl ?_) | ((first | refine WPA.dec ?_ | ((fail_if_success (guard_target =~ WLA _ _ _ _ _ _ (put1 _ _ (.bool true)) _)); (fail_if_success (guard_target =~ WLA _ _ _ _ _ _ (put1 _ _ (.bool false)) _)); refine WLA.dec rfl rfl ?_) | refine WLA.pk ?_ | refine WDQ.dec rfl rfl ?_); first | refine orL ?_ | refine orR ?_) | ((first | refine WPA.ifBt ?_ ?_ | refine WPA.ifBnf ?_ ?_); assumption) | ((first | refine WPA.ifBnt ?_ ?_ | refine WPA.ifBf ?_ ?_); assumption) | ((first | refine WPA.ifs ?_ ?_ | refine WPA.ifB ?_ ?_) <;> intro hc) | ((fail_if_success (guard_target =~ WLA _ _ _ _ _ _ (put1 _ _ (.bool true)) _)); (fail_if_success (guard_target =~ WLA _ _ _ _ _ _ (put1 _ _ (.bool false)) _)); (first | refine WLA.both rfl rfl ?_ ?_ | refine WLA.bothB rfl rfl ?_ ?_) <;> intro hg) | (guard_target =~ WPA _ _ _ (.region 16 _ true) _ _ _; refine WPA.drawT 14 (.q 0 (.q 1 (.q 2 (.q 3 (.q 4 (.q 5 (.q 6 (.q 7 (.q 8 (.q 9 (.q 10 (.q 11 (.q 12 (.q 13 .fin)))))))))))))) mixed ?_ ?_; kernel_rfl) | (guard_target =~ WPA _ _ _ (.region 18 _ true) _ _ _; refine WPA.drawT 16 (.q 0 (.q 1 (.q 2 (.q 3 (.q 4 (.q 5 (.q 6 (.q 7 (.q 8 (.q 9 (.q 10 (.q 11 (.q 12 (.q 13 (.q 14 (.q 15 .fin)))))))))))))))) mixed ?_ ?_; kernel_rfl) | (refine WDA.finish (tl := [⟨_, _, _, _, _, _⟩, ⟨_, _, _, _, _, _⟩, ⟨_, _, _, _, _, _⟩]) rfl ?_) | (refine WDQ.see rfl ?_) | (guard_target =~ WDQ _ _ _ _ _ _ _ ⟨_, .call ⟨.value (.func 22), _, _⟩, _, _, _, _⟩ _ _ _; refine WDQ.cq rfl rfl (Compare_tr (by omega) (by omega)) ?_) | ((first | refine WDQ.both rfl rfl ?_ ?_) <;> intro hg))
              exact QQ.loopS (i + 1) ⟨rfl, rfl, rfl, rfl, trivial⟩ ⟨hil, by rw [hnextI, h3]⟩ (by omega) (fun w h => h.to)
            · have hk0' : (0 : Int) < k := by omega
              obtain ⟨⟨p1, p2⟩, ⟨p3, p4⟩, p5⟩ := hprev (by omega)
              have p4' : ∀ p ∈ ps, (kg p.1).length ≤ 1000000000 := fun p hp => by have := p4 p hp; omega
              have hkr : 0 ≤ (k : Int) - 1 ∧ (k : Int) - 1 < gr.length := by omega
              have hkc : (0 : Int) ≤ 0 ∧ (0 : Int) ≤ k ∧ (k : Int) ≤ (kg (at_ es (i : Int)).1).length := by omega
              have hcl : (cutL (kg (at_ es (i : Int)).1) 0 (k : Int)).length ≤ 1000000000 := by rw [cut_take (by omega), List.length_take]; omega
              by_cases hm : cutL (kg (at_ es (i : Int)).1) 0 (k : Int) ∈ ps.map fun p => kg p.1
              · have hm' := hasN_pos hm
                have h3 : chkE kg ws.length (decide ((k : Int) = (gr.length : Int) - 1)) k es ps i = 0 := by unfold chkE; rw [if_neg he, if_neg hord, if_neg (fun h => h.2 hm)]
                repeat' ((fail_if_success (guard_target =~ WPA _ _ _ (.region 16 _ _) _ _ _)); first | ((first | refine WLA.m rfl rfl ?_ ?_ | refine WDQ.m rfl rfl ?_ ?_ | refine WLA.st rfl ?_ ?_ | refine WLA.x rfl rfl ?_ (fun x => ?_) | refine WLA.x0 rfl ?_ (fun x => ?_)); first | exact sdT | skip) | (refine Stp.go ?_) | (guard_target =~ WLA _ _ _ _ _ (⟨_, .call ⟨.value (.func 21), _, _⟩, _, _, _, _⟩ :: _) _ _; refine WLA.call rfl rfl (rEntry_tr (by omega)) ?_; rintro ⟨⟩) | (refine WPA.ifT ?_) | (refine WPA.ifF ?_) | ((first | refine WPA.dec ?_); first | refine orL ?_ | refine orR ?_) | ((first | refine WPA.ifBt ?_ ?_ | refine WPA.ifBnf ?_ ?_); assumption) | ((first | refine WPA.ifBnt ?_ ?_ | refine WPA.ifBf ?_ ?_); assumption) | ((first | refine WPA.ifs ?_ ?_ | refine WPA.ifB ?_ ?_) <;> intro hc) | (guard_target =~ WPA _ _ _ (.region 13 _ true) _ _ _; refine WPA.drawT 15 (.q 0 (.q 1 (.q 2 (.q 3 (.q 4 (.q 5 (.q 6 (.q 7 (.q 8 (.q 9 (.q 10 (.q 11 (.q 12 (.q 13 (.q 14 .fin))))))))))))))) mixed ?_ ?_; kernel_rfl) | (refine WDA.finish (tl := [⟨_, _, _, _, _, _⟩, ⟨_, _, _, _, _, _⟩]) rfl ?_) | (refine WDQ.see rfl ?_) | (guard_target =~ WDE _ _ _ _ _ _ _ ⟨_, .call ⟨.value (.func 21), _, _⟩, _, _, _, _⟩ _ _ _; refine WDE.call rfl rfl (rEntry_tr (by omega)) ?_ ?_; (intro x w h; first | exact h | exact Ent.drop1.sl h | exact SL.unI h | exact SL.to h); rintro ⟨⟩) | (guard_target =~ WDW _ _ _ _ _ _ _ ⟨_, .call ⟨.value (.func 21), _, _⟩, _, _, _, _⟩ _ _ _; refine WDW.call rfl rfl (rEntry_tr (by omega)) ?_; rintro ⟨⟩))
                repeat' (first | ((first | refine WLA.m rfl rfl ?_ ?_ | refine WDQ.m rfl rfl ?_ ?_ | refine WLA.st rfl ?_ ?_ | refine WLA.x rfl rfl ?_ (fun x => ?_) | refine WLA.x0 rfl ?_ (fun x => ?_)); first | exact sdT | skip) | (refine Stp.go ?_) | (guard_target =~ WLA _ _ _ _ _ (⟨_, .call ⟨.value (.func 22), _, _⟩, _, _, _, _⟩ :: _) _ _; refine WLA.cq rfl rfl (Compare_tr (by omega) (by omega)) ?_) | (guard_target =~ WLA _ _ _ _ _ (⟨_, .call ⟨.value (.func 23), _, _⟩, _, _, _, _⟩ :: _) _ _; refine WLA.cq rfl rfl (HasM_tr p2 (by omega) p4' hcl) ?_) | (refine WPA.ifT ?_) | (refine WPA.ifF ?_) | (refine WLA.no rfl rfl ?_) | (refine WDQ.no rfl rfl ?_) | ((first | refine WPA.dec ?_ | ((fail_if_success (guard_target =~ WLA _ _ _ _ _ _ (put1 _ _ (.bool true)) _)); (fail_if_success (guard_target =~ WLA _ _ _ _ _ _ (put1 _ _ (.bool false)) _)); refine WLA.dec rfl rfl ?_) | refine WLA.pk ?_ | refine WDQ.dec rfl rfl ?_); first | refine orL ?_ | refine orR ?_) | ((first | refine WPA.ifBt ?_ ?_ | refine WPA.ifBnf ?_ ?_); assumption) | ((first | refine WPA.ifBnt ?_ ?_ | refine WPA.ifBf ?_ ?_); assumption) | ((first | refine WPA.ifs ?_ ?_ | refine WPA.ifB ?_ ?_) <;> intro hc) | ((fail_if_success (guard_target =~ WLA _ _ _ _ _ _ (put1 _ _ (.bool true)) _)); (fail_if_success (guard_target =~ WLA _ _ _ _ _ _ (put1 _ _ (.bool false)) _)); (first | refine WLA.both rfl rfl ?_ ?_ | refine WLA.bothB rfl rfl ?_ ?_) <;> intro hg) | (guard_target =~ WPA _ _ _ (.region 16 _ true) _ _ _; refine WPA.drawT 14 (.q 0 (.q 1 (.q 2 (.q 3 (.q 4 (.q 5 (.q 6 (.q 7 (.q 8 (.q 9 (.q 10 (.q 11 (.q 12 (.q 13 .fin)))))))))))))) mixed ?_ ?_; kernel_rfl) | (guard_target =~ WPA _ _ _ (.region 18 _ true) _ _ _; refine WPA.drawT 16 (.q 0 (.q 1 (.q 2 (.q 3 (.q 4 (.q 5 (.q 6 (.q 7 (.q 8 (.q 9 (.q 10 (.q 11 (.q 12 (.q 13 (.q 14 (.q 15 .fin)))))))))))))))) mixed ?_ ?_; kernel_rfl) | (refine WDA.finish (tl := [⟨_, _, _, _, _, _⟩, ⟨_, _, _, _, _, _⟩, ⟨_, _, _, _, _, _⟩]) rfl ?_) | (refine WDQ.see rfl ?_) | (guard_target =~ WDQ _ _ _ _ _ _ _ ⟨_, .call ⟨.value (.func 22), _, _⟩, _, _, _, _⟩ _ _ _; refine WDQ.cq rfl rfl (Compare_tr (by omega) (by omega)) ?_) | (guard_target =~ WDQ _ _ _ _ _ _ _ ⟨_, .call ⟨.value (.func 23), _, _⟩, _, _, _, _⟩ _ _ _; refine WDQ.cq rfl rfl (HasM_tr p2 (by omega) p4' hcl) ?_) | ((first | refine WDQ.both rfl rfl ?_ ?_) <;> intro hg))
                exact QQ.loopS (i + 1) ⟨rfl, rfl, rfl, rfl, trivial⟩ ⟨hil, by rw [hnextI, h3]⟩ (by omega) (fun w h => h.to)
              · have hm' := hasN_neg hm
                have h3 : chkE kg ws.length (decide ((k : Int) = (gr.length : Int) - 1)) k es ps i = 7 := by unfold chkE; rw [if_neg he, if_neg hord, if_pos ⟨by omega, hm⟩]
                rw [hfinI (by rw [h3]; decide), h3]
                repeat' ((fail_if_success (guard_target =~ WPA _ _ _ (.region 16 _ _) _ _ _)); first | ((first | refine WLA.m rfl rfl ?_ ?_ | refine WDQ.m rfl rfl ?_ ?_ | refine WLA.st rfl ?_ ?_ | refine WLA.x rfl rfl ?_ (fun x => ?_) | refine WLA.x0 rfl ?_ (fun x => ?_)); first | exact sdT | skip) | (refine Stp.go ?_) | (guard_target =~ WLA _ _ _ _ _ (⟨_, .call ⟨.value (.func 21), _, _⟩, _, _, _, _⟩ :: _) _ _; refine WLA.call rfl rfl (rEntry_tr (by omega)) ?_; rintro ⟨⟩) | (refine WPA.ifT ?_) | (refine WPA.ifF ?_) | ((first | refine WPA.dec ?_); first | refine orL ?_ | refine orR ?_) | ((first | refine WPA.ifBt ?_ ?_ | refine WPA.ifBnf ?_ ?_); assumption) | ((first | refine WPA.ifBnt ?_ ?_ | refine WPA.ifBf ?_ ?_); assumption) | ((first | refine WPA.ifs ?_ ?_ | refine WPA.ifB ?_ ?_) <;> intro hc) | (guard_target =~ WPA _ _ _ (.region 13 _ true) _ _ _; refine WPA.drawT 15 (.q 0 (.q 1 (.q 2 (.q 3 (.q 4 (.q 5 (.q 6 (.q 7 (.q 8 (.q 9 (.q 10 (.q 11 (.q 12 (.q 13 (.q 14 .fin))))))))))))))) mixed ?_ ?_; kernel_rfl) | (refine WDA.finish (tl := [⟨_, _, _, _, _, _⟩, ⟨_, _, _, _, _, _⟩]) rfl ?_) | (refine WDQ.see rfl ?_) | (guard_target =~ WDE _ _ _ _ _ _ _ ⟨_, .call ⟨.value (.func 21), _, _⟩, _, _, _, _⟩ _ _ _; refine WDE.call rfl rfl (rEntry_tr (by omega)) ?_ ?_; (intro x w h; first | exact h | exact Ent.drop1.sl h | exact SL.unI h | exact SL.to h); rintro ⟨⟩) | (guard_target =~ WDW _ _ _ _ _ _ _ ⟨_, .call ⟨.value (.func 21), _, _⟩, _, _, _, _⟩ _ _ _; refine WDW.call rfl rfl (rEntry_tr (by omega)) ?_; rintro ⟨⟩))
                repeat' (first | ((first | refine WLA.m rfl rfl ?_ ?_ | refine WDQ.m rfl rfl ?_ ?_ | refine WLA.st rfl ?_ ?_ | refine WLA.x rfl rfl ?_ (fun x => ?_) | refine WLA.x0 rfl ?_ (fun x => ?_)); first | exact sdT | skip) | (refine Stp.go ?_) | (guard_target =~ WLA _ _ _ _ _ (⟨_, .call ⟨.value (.func 22), _, _⟩, _, _, _, _⟩ :: _) _ _; refine WLA.cq rfl rfl (Compare_tr (by omega) (by omega)) ?_) | (guard_target =~ WLA _ _ _ _ _ (⟨_, .call ⟨.value (.func 23), _, _⟩, _, _, _, _⟩ :: _) _ _; refine WLA.cq rfl rfl (HasM_tr p2 (by omega) p4' hcl) ?_) | (refine WPA.ifT ?_) | (refine WPA.ifF ?_) | (refine WLA.no rfl rfl ?_) | (refine WDQ.no rfl rfl ?_) | ((first | refine WPA.dec ?_ | ((fail_if_success (guard_target =~ WLA _ _ _ _ _ _ (put1 _ _ (.bool true)) _)); (fail_if_success (guard_target =~ WLA _ _ _ _ _ _ (put1 _ _ (.bool false)) _)); refine WLA.dec rfl rfl ?_) | refine WLA.pk ?_ | refine WDQ.dec rfl rfl ?_); first | refine orL ?_ | refine orR ?_) | ((first | refine WPA.ifBt ?_ ?_ | refine WPA.ifBnf ?_ ?_); assumption) | ((first | refine WPA.ifBnt ?_ ?_ | refine WPA.ifBf ?_ ?_); assumption) | ((first | refine WPA.ifs ?_ ?_ | refine WPA.ifB ?_ ?_) <;> intro hc) | ((fail_if_success (guard_target =~ WLA _ _ _ _ _ _ (put1 _ _ (.bool true)) _)); (fail_if_success (guard_target =~ WLA _ _ _ _ _ _ (put1 _ _ (.bool false)) _)); (first | refine WLA.both rfl rfl ?_ ?_ | refine WLA.bothB rfl rfl ?_ ?_) <;> intro hg) | (guard_target =~ WPA _ _ _ (.region 16 _ true) _ _ _; refine WPA.drawT 14 (.q 0 (.q 1 (.q 2 (.q 3 (.q 4 (.q 5 (.q 6 (.q 7 (.q 8 (.q 9 (.q 10 (.q 11 (.q 12 (.q 13 .fin)))))))))))))) mixed ?_ ?_; kernel_rfl) | (guard_target =~ WPA _ _ _ (.region 18 _ true) _ _ _; refine WPA.drawT 16 (.q 0 (.q 1 (.q 2 (.q 3 (.q 4 (.q 5 (.q 6 (.q 7 (.q 8 (.q 9 (.q 10 (.q 11 (.q 12 (.q 13 (.q 14 (.q 15 .fin)))))))))))))))) mixed ?_ ?_; kernel_rfl) | (refine WDA.finish (tl := [⟨_, _, _, _, _, _⟩, ⟨_, _, _, _, _, _⟩, ⟨_, _, _, _, _, _⟩]) rfl ?_) | (refine WDQ.see rfl ?_) | (guard_target =~ WDQ _ _ _ _ _ _ _ ⟨_, .call ⟨.value (.func 22), _, _⟩, _, _, _, _⟩ _ _ _; refine WDQ.cq rfl rfl (Compare_tr (by omega) (by omega)) ?_) | (guard_target =~ WDQ _ _ _ _ _ _ _ ⟨_, .call ⟨.value (.func 23), _, _⟩, _, _, _, _⟩ _ _ _; refine WDQ.cq rfl rfl (HasM_tr p2 (by omega) p4' hcl) ?_) | ((first | refine WDQ.both rfl rfl ?_ ?_) <;> intro hg))
                exact QQ.end_ rfl () rfl fun w h => h.to
      · have hil' : ¬ (i : Int) < es.length := by omega
        obtain rfl : i = es.length := by omega
        by_cases hk0 : k = 0
        · subst hk0
          by_cases hnl : es.length ≠ ws.length
          · have hnl' : (es.length : Int) ≠ ws.length := by omega
            have h3 : chkLs kg ws.length (decide (((0 : Nat) : Int) = (gr.length : Int) - 1)) 0 es ps = 3 := by unfold chkLs; rw [hci, if_neg (fun h => h rfl), if_pos ⟨rfl, hnl⟩]
            rw [h3] at hfin
            rw [hfin (by decide)]
            repeat' ((fail_if_success (guard_target =~ WPA _ _ _ (.region 20 _ _) _ _ _)); first | ((first | refine WLA.m rfl rfl ?_ ?_ | refine WLA.st rfl ?_ ?_ | refine WLA.x rfl rfl ?_ (fun x => ?_) | refine WLA.x0 rfl ?_ (fun x => ?_)); first | exact sdT | skip) | (refine Stp.go ?_) | (refine WPA.ifT ?_) | (refine WPA.ifF ?_) | ((first | refine WPA.dec ?_); first | refine orL ?_ | refine orR ?_) | ((first | refine WPA.ifBt ?_ ?_ | refine WPA.ifBnf ?_ ?_); assumption) | ((first | refine WPA.ifBnt ?_ ?_ | refine WPA.ifBf ?_ ?_); assumption) | ((first | refine WPA.ifs ?_ ?_ | refine WPA.ifB ?_ ?_) <;> intro hc))
            repeat' (first | ((first | refine WLA.m rfl rfl ?_ ?_ | refine WLA.st rfl ?_ ?_ | refine WLA.x rfl rfl ?_ (fun x => ?_) | refine WLA.x0 rfl ?_ (fun x => ?_)); first | exact sdT | skip) | (refine Stp.go ?_) | (refine WPA.ifT ?_) | (refine WPA.ifF ?_) | (refine WLA.no rfl rfl ?_) | ((first | refine WPA.dec ?_ | ((fail_if_success (guard_target =~ WLA _ _ _ _ _ _ (put1 _ _ (.bool true)) _)); (fail_if_success (guard_target =~ WLA _ _ _ _ _ _ (put1 _ _ (.bool false)) _)); refine WLA.dec rfl rfl ?_) | refine WLA.pk ?_); first | refine orL ?_ | refine orR ?_) | ((first | refine WPA.ifBt ?_ ?_ | refine WPA.ifBnf ?_ ?_); assumption) | ((first | refine WPA.ifBnt ?_ ?_ | refine WPA.ifBf ?_ ?_); assumption) | ((first | refine WPA.ifs ?_ ?_ | refine WPA.ifB ?_ ?_) <;> intro hc) | ((fail_if_success (guard_target =~ WLA _ _ _ _ _ _ (put1 _ _ (.bool true)) _)); (fail_if_success (guard_target =~ WLA _ _ _ _ _ _ (put1 _ _ (.bool false)) _)); (first | refine WLA.both rfl rfl ?_ ?_ | refine WLA.bothB rfl rfl ?_ ?_) <;> intro hg))
            exact QQ.end_ rfl () rfl fun w h => h.to
          · have hnl' : ¬ (es.length : Int) ≠ ws.length := by omega
            have h3 : chkLs kg ws.length (decide (((0 : Nat) : Int) = (gr.length : Int) - 1)) 0 es ps = 0 := by unfold chkLs; rw [hci, if_neg (fun h => h rfl), if_neg (fun h => hnl h.2)]
            repeat' ((fail_if_success (guard_target =~ WPA _ _ _ (.region 20 _ _) _ _ _)); first | ((first | refine WLA.m rfl rfl ?_ ?_ | refine WLA.st rfl ?_ ?_ | refine WLA.x rfl rfl ?_ (fun x => ?_) | refine WLA.x0 rfl ?_ (fun x => ?_)); first | exact sdT | skip) | (refine Stp.go ?_) | (refine WPA.ifT ?_) | (refine WPA.ifF ?_) | ((first | refine WPA.dec ?_); first | refine orL ?_ | refine orR ?_) | ((first | refine WPA.ifBt ?_ ?_ | refine WPA.ifBnf ?_ ?_); assumption) | ((first | refine WPA.ifBnt ?_ ?_ | refine WPA.ifBf ?_ ?_); assumption) | ((first | refine WPA.ifs ?_ ?_ | refine WPA.ifB ?_ ?_) <;> intro hc))
            repeat' (first | ((first | refine WLA.m rfl rfl ?_ ?_ | refine WLA.st rfl ?_ ?_ | refine WLA.x rfl rfl ?_ (fun x => ?_) | refine WLA.x0 rfl ?_ (fun x => ?_)); first | exact sdT | skip) | (refine Stp.go ?_) | (refine WPA.ifT ?_) | (refine WPA.ifF ?_) | (refine WLA.no rfl rfl ?_) | ((first | refine WPA.dec ?_ | ((fail_if_success (guard_target =~ WLA _ _ _ _ _ _ (put1 _ _ (.bool true)) _)); (fail_if_success (guard_target =~ WLA _ _ _ _ _ _ (put1 _ _ (.bool false)) _)); refine WLA.dec rfl rfl ?_) | refine WLA.pk ?_); first | refine orL ?_ | refine orR ?_) | ((first | refine WPA.ifBt ?_ ?_ | refine WPA.ifBnf ?_ ?_); assumption) | ((first | refine WPA.ifBnt ?_ ?_ | refine WPA.ifBf ?_ ?_); assumption) | ((first | refine WPA.ifs ?_ ?_ | refine WPA.ifB ?_ ?_) <;> intro hc) | ((fail_if_success (guard_target =~ WLA _ _ _ _ _ _ (put1 _ _ (.bool true)) _)); (fail_if_success (guard_target =~ WLA _ _ _ _ _ _ (put1 _ _ (.bool false)) _)); (first | refine WLA.both rfl rfl ?_ ?_ | refine WLA.bothB rfl rfl ?_ ?_) <;> intro hg))
            exact QQ.loopS (0 + 1) ⟨rfl, rfl, trivial⟩ ⟨hkl, by rw [hnext, h3]⟩ (by omega) (fun w h => h.to)
        · have hk0' : ¬ (k : Int) = 0 := by omega
          have h3 : chkLs kg ws.length (decide ((k : Int) = (gr.length : Int) - 1)) k es ps = 0 := by unfold chkLs; rw [hci, if_neg (fun h => h rfl), if_neg (fun h => hk0 h.1)]
          repeat' ((fail_if_success (guard_target =~ WPA _ _ _ (.region 20 _ _) _ _ _)); first | ((first | refine WLA.m rfl rfl ?_ ?_ | refine WLA.st rfl ?_ ?_ | refine WLA.x rfl rfl ?_ (fun x => ?_) | refine WLA.x0 rfl ?_ (fun x => ?_)); first | exact sdT | skip) | (refine Stp.go ?_) | (refine WPA.ifT ?_) | (refine WPA.ifF ?_) | ((first | refine WPA.dec ?_); first | refine orL ?_ | refine orR ?_) | ((first | refine WPA.ifBt ?_ ?_ | refine WPA.ifBnf ?_ ?_); assumption) | ((first | refine WPA.ifBnt ?_ ?_ | refine WPA.ifBf ?_ ?_); assumption) | ((first | refine WPA.ifs ?_ ?_ | refine WPA.ifB ?_ ?_) <;> intro hc))
          repeat' (first | ((first | refine WLA.m rfl rfl ?_ ?_ | refine WLA.st rfl ?_ ?_ | refine WLA.x rfl rfl ?_ (fun x => ?_) | refine WLA.x0 rfl ?_ (fun x => ?_)); first | exact sdT | skip) | (refine Stp.go ?_) | (refine WPA.ifT ?_) | (refine WPA.ifF ?_) | (refine WLA.no rfl rfl ?_) | ((first | refine WPA.dec ?_ | ((fail_if_success (guard_target =~ WLA _ _ _ _ _ _ (put1 _ _ (.bool true)) _)); (fail_if_success (guard_target =~ WLA _ _ _ _ _ _ (put1 _ _ (.bool false)) _)); refine WLA.dec rfl rfl ?_) | refine WLA.pk ?_); first | refine orL ?_ | refine orR ?_) | ((first | refine WPA.ifBt ?_ ?_ | refine WPA.ifBnf ?_ ?_); assumption) | ((first | refine WPA.ifBnt ?_ ?_ | refine WPA.ifBf ?_ ?_); assumption) | ((first | refine WPA.ifs ?_ ?_ | refine WPA.ifB ?_ ?_) <;> intro hc) | ((fail_if_success (guard_target =~ WLA _ _ _ _ _ _ (put1 _ _ (.bool true)) _)); (fail_if_success (guard_target =~ WLA _ _ _ _ _ _ (put1 _ _ (.bool false)) _)); (first | refine WLA.both rfl rfl ?_ ?_ | refine WLA.bothB rfl rfl ?_ ?_) <;> intro hg))
          exact QQ.loopS (k + 1) ⟨rfl, rfl, trivial⟩ ⟨hkl, by rw [hnext, h3]⟩ (by omega) (fun w h => h.to)
    · have hkl' : ¬ (k : Int) < gr.length := by omega
      obtain rfl : k = gr.length := by omega
      rw [hc]
      repeat' ((fail_if_success (guard_target =~ WPA _ _ _ (.region 22 _ _) _ _ _)); first | ((first | refine WLA.m rfl rfl ?_ ?_ | refine WLA.st rfl ?_ ?_ | refine WLA.x rfl rfl ?_ (fun x => ?_) | refine WLA.x0 rfl ?_ (fun x => ?_)); first | exact sdT | skip) | (refine Stp.go ?_) | (refine WPA.ifT ?_) | (refine WPA.ifF ?_) | ((first | refine WPA.dec ?_); first | refine orL ?_ | refine orR ?_) | ((first | refine WPA.ifBt ?_ ?_ | refine WPA.ifBnf ?_ ?_); assumption) | ((first | refine WPA.ifBnt ?_ ?_ | refine WPA.ifBf ?_ ?_); assumption) | ((first | refine WPA.ifs ?_ ?_ | refine WPA.ifB ?_ ?_) <;> intro hc))
      repeat' (first | ((first | refine WLA.m rfl rfl ?_ ?_ | refine WLA.st rfl ?_ ?_ | refine WLA.x rfl rfl ?_ (fun x => ?_) | refine WLA.x0 rfl ?_ (fun x => ?_)); first | exact sdT | skip) | (refine Stp.go ?_) | (refine WPA.ifT ?_) | (refine WPA.ifF ?_) | ((first | refine WPA.dec ?_); first | refine orL ?_ | refine orR ?_) | ((first | refine WPA.ifBt ?_ ?_ | refine WPA.ifBnf ?_ ?_); assumption) | ((first | refine WPA.ifBnt ?_ ?_ | refine WPA.ifBf ?_ ?_); assumption) | ((first | refine WPA.ifs ?_ ?_ | refine WPA.ifB ?_ ?_) <;> intro hc))
      exact QQ.end_ rfl () rfl fun w h => h.to
  · have hoe := ofE_no ho
    rw [if_pos hoe]
    repeat' (first | ((first | refine WLA.m rfl rfl ?_ ?_ | refine WLA.st rfl ?_ ?_ | refine WLA.x rfl rfl ?_ (fun x => ?_) | refine WLA.x0 rfl ?_ (fun x => ?_)); first | exact sdT | skip) | (refine Stp.go ?_) | (guard_target =~ WLA _ _ _ _ _ (⟨_, .call ⟨.value (.func 20), _, _⟩, _, _, _, _⟩ :: _) _ _; refine WLA.call rfl rfl (hWr) ?_; rintro ⟨⟩) | (refine WPA.ifT ?_) | (refine WPA.ifF ?_) | (refine WLA.no rfl rfl ?_) | ((first | refine WPA.dec ?_ | ((fail_if_success (guard_target =~ WLA _ _ _ _ _ _ (put1 _ _ (.bool true)) _)); (fail_if_success (guard_target =~ WLA _ _ _ _ _ _ (put1 _ _ (.bool false)) _)); refine WLA.dec rfl rfl ?_) | refine WLA.pk ?_); first | refine orL ?_ | refine orR ?_) | ((first | refine WPA.ifBt ?_ ?_ | refine WPA.ifBnf ?_ ?_); assumption) | ((first | refine WPA.ifBnt ?_ ?_ | refine WPA.ifBf ?_ ?_); assumption) | ((first | refine WPA.ifs ?_ ?_ | refine WPA.ifB ?_ ?_) <;> intro hc) | ((fail_if_success (guard_target =~ WLA _ _ _ _ _ _ (put1 _ _ (.bool true)) _)); (fail_if_success (guard_target =~ WLA _ _ _ _ _ _ (put1 _ _ (.bool false)) _)); (first | refine WLA.both rfl rfl ?_ ?_ | refine WLA.bothB rfl rfl ?_ ?_) <;> intro hg))
    exact QQ.end_ rfl () rfl fun w h => h.to
end
end Go.Proofs.YthkhneimfjaohaaGreatDoor
namespace Go.Proofs.YthkhneimfjaohaaGreatDoor
open Go Go.Fw Go.RowKit
set_option linter.unusedVariables false
set_option linter.unusedSimpArgs false
set_option maxRecDepth 100000
set_option maxHeartbeats 16000000
set_option synthInstance.maxHeartbeats 200000
set_option synthInstance.maxSize 100000
attribute [local irreducible] WPA WLA WDA WDQ WDE QQ seqQ blockQ loopQ fnQ OpP OpT Tr TrP SL SLd OwnS LitS Bk BkE Ob
theorem parse_few {s : ByteArray} {fr : Int} {ws : List ByteArray} {A : List (List EV)} (hs : s.size ≤ 1000000) (h : parseF s = .ok (fr, ws, A)) : (∀ w ∈ ws, w.size ≤ 140737488351232) ∧ ws.length ≤ 1000000 ∧ A.length ≤ 1000000 ∧ ∀ es ∈ A, es.length ≤ 1000000 ∧ ∀ e ∈ es, e.2.length ≤ 1000000 := by
  unfold parseF at h
  split at h
  · cases h
  rename_i hd s1 n1 h1
  split at h
  · cases h
  rename_i gss r h2
  obtain ⟨s2, n2⟩ := r
  split at h
  · cases h
  rename_i rows h3
  split at h
  · cases h
  injection h with h
  obtain ⟨e1, e2⟩ := Prod.mk.inj h
  obtain ⟨e2, e3⟩ := Prod.mk.inj e2
  subst e1 e2 e3
  exact told_few hs h1 h2 h3
attribute [local irreducible] fnX TrX TblH VocH EntOk TabP PrnR parseF printB chkA
section
variable {L : List HP} {w0 : World} {I : Foot}
theorem rCheckA_tr {fr : Int} {w g : SV} {ws : List ByteArray} {A : List (List EV)} (hM : MdL I w g ws A) (h1 : ∀ s ∈ ws, s.size ≤ 140737488351232) (h2 : ws.length ≤ 1000000) (h3 : A.length ≤ 1000000) (h4 : ∀ es ∈ A, es.length ≤ 1000000 ∧ ∀ e ∈ es, e.2.length ≤ 1000000) :
    Tr Tryz.prog 9 #[.agg #[.int .i64 fr, .slice w.a w.n w.cap, .slice g.a g.n g.cap]] (SL w0 I L) (fun _ : Unit => .int .i64 (chkA fr ws A)) (fun _ => SL w0 I L) := by
  unfold Tr
  intro u hu
  obtain ⟨gr, hQ⟩ := hM.nst hu
  have h := rCheck_tr (L := L) (w0 := w0) (fr := fr) (hQ.mdI h1 h2 h3 h4)
  unfold Tr at h
  have := h u hu
  rw [chkM_A, hQ.cont] at this
  exact this
theorem tab0 {W : World} (h : TabP W) : TabP { W with drawn := 0 } := by
  unfold TabP at h ⊢
  exact h
end
end Go.Proofs.YthkhneimfjaohaaGreatDoor
namespace Go.Proofs.YthkhneimfjaohaaGreatDoor
open Go Go.Fw Go.RowKit
set_option linter.unusedVariables false
set_option linter.unusedSimpArgs false
set_option maxRecDepth 100000
set_option maxHeartbeats 16000000
set_option synthInstance.maxHeartbeats 200000
set_option synthInstance.maxSize 100000
attribute [local irreducible] WPA WLA WDA WDQ WDE QQ seqQ blockQ loopQ fnQ OpP OpT Tr TrP SL SLd OwnS LitS Bk BkE Ob
attribute [local irreducible] NumOk EntOk
theorem bt_tl {s : ByteArray} {j : Nat} {c : UInt8} (hj : j < s.size) : bt s (j : Int) = c.toNat ↔ s.data.toList[j]? = some c := by
  have hl : j < s.data.toList.length := by rw [tl_len]; exact hj
  have e : bt s (j : Int) = ((s.data.toList[j]).toNat : Int) := by
    unfold bt
    rw [Int.toNat_natCast, dif_pos hj]
    simp [ByteArray.getElem_eq_getElem_data]
  rw [e, List.getElem?_eq_getElem hl]
  constructor
  · intro h
    have h' : (s.data.toList[j]).toNat = c.toNat := by exact_mod_cast h
    rw [UInt8.toNat_inj.1 h']
  · intro h
    injection h with h
    rw [h]
theorem nob_ext {s : ByteArray} {f i : Nat} {c : UInt8} (hi : i ≤ s.size) (h : ∀ j : Nat, f ≤ j → j < i → bt s (j : Int) ≠ c.toNat) : c ∉ (s.extract f i).data.toList := by
  intro hm
  rw [tl_ext] at hm
  obtain ⟨k, hk, e⟩ := List.getElem_of_mem hm
  rw [List.length_take, List.length_drop, tl_len] at hk
  rw [List.getElem_take, List.getElem_drop] at e
  exact h (f + k) (by omega) (by omega) ((bt_tl (by omega)).2 (by rw [List.getElem?_eq_getElem (by rw [tl_len]; omega), e]))
theorem ext_split {s : ByteArray} {f i : Nat} {c : UInt8} (hf : f ≤ i) (hi : i < s.size) (h : bt s (i : Int) = c.toNat) : s.extract f s.size = (s.extract f i ++ oneB c) ++ s.extract (i + 1) s.size := by
  have h2 := (bt_tl hi).1 h
  apply ba_ext
  rw [tl_app, tl_app, tl_ext, tl_ext, tl_ext]
  have hl := tl_len s
  generalize s.data.toList = l at h2 hl
  have hil : i < l.length := by omega
  rw [List.take_of_length_le (l := l.drop f) (by rw [List.length_drop]; omega), List.take_of_length_le (l := l.drop (i + 1)) (by rw [List.length_drop]; omega)]
  rw [List.getElem?_eq_getElem hil] at h2
  injection h2 with h2
  show l.drop f = ((l.drop f).take (i - f) ++ [c]) ++ l.drop (i + 1)
  conv => lhs; rw [← List.take_append_drop (i - f) (l.drop f), List.drop_drop, show f + (i - f) = i by omega, List.drop_eq_getElem_cons hil, h2]
  simp
structure CW where
  i : Nat
  f : Nat
  out : List ByteArray
  r : SV
section
variable {L L' : List HP} {w0 : World} {I : Foot}
theorem Cut_trR {s : ByteArray} {c : UInt8} (hs : s.size ≤ 1000000) : Tr Tryz.prog 32 #[.string s, .int .u8 c.toNat] (SL w0 I L) (fun r : SV => .slice r.a r.n r.cap) (fun r => SL w0 I (OwnS 9 r (splB s c) :: L)) := by
  refine Tr.intro Tryz.func32 rfl Tryz.ntmps32 rfl ?_
  repeat' (first | ((first | refine WLA.m rfl rfl ?_ ?_ | refine WLA.st rfl ?_ ?_ | refine WLA.x rfl rfl ?_ (fun x => ?_) | refine WLA.x0 rfl ?_ (fun x => ?_)); first | exact sdT | skip) | (refine Stp.go ?_) | (refine WPA.ifT ?_) | (refine WPA.ifF ?_) | ((first | refine WPA.dec ?_); first | refine orL ?_ | refine orR ?_) | ((first | refine WPA.ifBt ?_ ?_ | refine WPA.ifBnf ?_ ?_); assumption) | ((first | refine WPA.ifBnt ?_ ?_ | refine WPA.ifBf ?_ ?_); assumption) | ((first | refine WPA.ifs ?_ ?_ | refine WPA.ifB ?_ ?_) <;> intro hc))
  refine WPA.loopS (σ := CW) (fun x => [(0, .string s), (1, .int .u8 c.toNat), (5, .slice x.r.a x.r.n x.r.cap), (6, .int .i64 x.f), (7, .int .i64 x.i)]) (fun x => (x.i ≤ s.size ∧ x.f ≤ x.i) ∧ (x.out ++ splB (s.extract x.f s.size) c = splB s c ∧ ∀ j : Nat, x.f ≤ j → j < x.i → bt s (j : Int) ≠ c.toNat) ∧ x.out.length ≤ x.i)
    (fun x => SL w0 I (OwnS 9 x.r x.out :: L)) (fun x => s.size - x.i) ⟨0, 0, [], SV.nil⟩ ⟨rfl, rfl, rfl, rfl, rfl, trivial⟩ ⟨⟨Nat.zero_le _, Nat.le_refl _⟩, ⟨by
      have e : s.extract 0 s.size = s := ba_ext (by rw [tl_ext, List.drop_zero, Nat.sub_zero, List.take_of_length_le (by rw [tl_len]; omega)])
      rw [e]; rfl, fun j _ hj => absurd hj (Nat.not_lt_zero j)⟩, Nat.le_refl _⟩ (fun w h => (Ent.ownNil (α := ByteArray) (t := 9) Ent.refl).sl h) ?_
  rintro ⟨i, f, out, r⟩ ρ ⟨⟨hi, hf⟩, ⟨hC, hn⟩, ho⟩
  dsimp only at hi hf hC hn ho ⊢
  by_cases hlt : i < s.size
  · have hlt' : (i : Int) < s.size := by omega
    by_cases hb : bt s (i : Int) = c.toNat
    · have hroom : Room (out.length + 1) 16 := ⟨by omega, by omega⟩
      repeat' (first | ((first | refine WLA.m rfl rfl ?_ ?_ | refine WLA.st rfl ?_ ?_ | refine WLA.x rfl rfl ?_ (fun x => ?_) | refine WLA.x0 rfl ?_ (fun x => ?_)); first | exact sdT | skip) | (refine Stp.go ?_) | (refine WPA.ifT ?_) | (refine WPA.ifF ?_) | ((first | refine WPA.dec ?_); first | refine orL ?_ | refine orR ?_) | ((first | refine WPA.ifBt ?_ ?_ | refine WPA.ifBnf ?_ ?_); assumption) | ((first | refine WPA.ifBnt ?_ ?_ | refine WPA.ifBf ?_ ?_); assumption) | ((first | refine WPA.ifs ?_ ?_ | refine WPA.ifB ?_ ?_) <;> intro hc))
      obtain ⟨a1, a2, a3⟩ := at_cut (a := s.extract f i) (b := s.extract (i + 1) s.size) (c := c) (nob_ext (by omega) hn)
      rw [← ext_split hf hlt hb] at a1 a2 a3
      exact QQ.loopS ⟨i + 1, i + 1, out ++ [s.extract (f : Int).toNat (i : Int).toNat], x⟩ ⟨rfl, rfl, rfl, rfl, rfl, trivial⟩ ⟨⟨hlt, Nat.le_refl _⟩, ⟨by
        dsimp only
        rw [List.append_assoc, ← hC, spl_yes a1, a2, a3]; rfl, fun j h1 h2 => by dsimp only at h1 h2; omega⟩, by dsimp only; rw [List.length_append, List.length_singleton]; omega⟩ (by dsimp only; omega) (fun w h => h.to)
    · skip
      repeat' (first | ((first | refine WLA.m rfl rfl ?_ ?_ | refine WLA.st rfl ?_ ?_ | refine WLA.x rfl rfl ?_ (fun x => ?_) | refine WLA.x0 rfl ?_ (fun x => ?_)); first | exact sdT | skip) | (refine Stp.go ?_) | (refine WPA.ifT ?_) | (refine WPA.ifF ?_) | ((first | refine WPA.dec ?_); first | refine orL ?_ | refine orR ?_) | ((first | refine WPA.ifBt ?_ ?_ | refine WPA.ifBnf ?_ ?_); assumption) | ((first | refine WPA.ifBnt ?_ ?_ | refine WPA.ifBf ?_ ?_); assumption) | ((first | refine WPA.ifs ?_ ?_ | refine WPA.ifB ?_ ?_) <;> intro hc))
      exact QQ.loopS ⟨i + 1, f, out, r⟩ ⟨rfl, rfl, rfl, rfl, rfl, trivial⟩ ⟨⟨hlt, by dsimp only; omega⟩, ⟨hC, fun j h1 h2 => by
        dsimp only at h1 h2
        by_cases e : j = i
        · subst e; exact hb
        · exact hn j h1 (by omega)⟩, by dsimp only; omega⟩ (by dsimp only; omega) (fun w h => h.to)
  · have hlt' : ¬ (i : Int) < s.size := by omega
    have e : i = s.size := by omega
    subst e
    rw [spl_no (at_no.2 (nob_ext (Nat.le_refl _) hn))] at hC
    have hroom : Room (out.length + 1) 16 := ⟨by omega, by omega⟩
    have hroom2 : Room out.length 16 := ⟨by omega, by omega⟩
    repeat' (first | ((first | refine WLA.m rfl rfl ?_ ?_ | refine WDQ.m rfl rfl ?_ ?_ | refine WDP.m rfl rfl ?_ ?_ | refine WLA.st rfl ?_ ?_ | refine WLA.x rfl rfl ?_ (fun x => ?_) | refine WLA.x0 rfl ?_ (fun x => ?_) | refine WDW.x rfl rfl ?_ (fun x => ?_) | refine WDW.st rfl ?_ ?_); first | exact sdT | skip) | (refine Stp.go ?_) | (refine WPA.ifT ?_) | (refine WPA.ifF ?_) | ((first | refine WPA.dec ?_); first | refine orL ?_ | refine orR ?_) | ((first | refine WPA.ifBt ?_ ?_ | refine WPA.ifBnf ?_ ?_); assumption) | ((first | refine WPA.ifBnt ?_ ?_ | refine WPA.ifBf ?_ ?_); assumption) | ((first | refine WPA.ifs ?_ ?_ | refine WPA.ifB ?_ ?_) <;> intro hc) | (guard_target =~ WPA _ _ _ (.region 9 _ true) _ _ _; refine WPA.drawT 7 (.p 1 (.p 3 (.p 4 (.p 5 (.b false 0 (.b true 2 (.e 6 .fin) false 6 (.w 2 .fin)) false 6 (.e 0 (.w 2 .fin))))))) mixed ?_ ?_; kernel_rfl) | (refine WDA.finish (tl := [⟨_, _, _, _, _, _⟩, ⟨_, _, _, _, _, _⟩]) rfl ?_) | (refine WDQ.see rfl ?_) | (refine WDP.see rfl ?_) | (refine WDW.see rfl ?_) | (first | (refine WDA.two rfl rfl ?_ ?_) | (refine WDA.twoL rfl rfl ?_ ?_) | (refine WDA.twoR rfl rfl ?_ ?_) | (refine WDA.twoW rfl rfl ?_ ?_)) | (refine WDE.see rfl ?_) | (refine WDE.alloc rfl rfl (fun w h => h) (fun x => ?_)) | (refine WDE.stE rfl ?_) | (refine WDE.x rfl rfl ?_ ?_ (fun x => ?_); rotate_left 1; (intro x w h; first | exact h | exact Ent.drop1.sl h | exact SL.unI h | exact SL.to h); rotate_left 1; first | exact sdT | skip))
    all_goals
      rw [show s.extract (f : Int).toNat (s.size : Int).toNat = s.extract f s.size from rfl, hC]
      exact QQ.end_ rfl x rfl fun w h => h.to
end
end Go.Proofs.YthkhneimfjaohaaGreatDoor
