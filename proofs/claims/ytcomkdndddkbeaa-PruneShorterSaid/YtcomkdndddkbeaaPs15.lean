/- Texts that PruneShorter_law leans on, part 15. Conditions: none. -/
import Derived.Test.YtcomkdndddkbeaaPs14
namespace Go.Proofs.Ytcomkdndddkbeaa
open Go Go.Fw Go.RowKit
set_option linter.unusedVariables false
set_option linter.unusedSimpArgs false
set_option maxRecDepth 100000
set_option maxHeartbeats 16000000
set_option synthInstance.maxHeartbeats 200000
set_option synthInstance.maxSize 100000
attribute [local irreducible] WPA WLA WDA WDQ WDE QQ seqQ blockQ loopQ fnQ OpP OpT Tr TrP SL SLd OwnS LitS Bk BkE Ob
attribute [local irreducible] TblH VocH
section
variable {kg : SV → List Int} {re : SV → List En} {w0 : World}
theorem rProb_tr {fr w : Int} {wv g : SV} {ws : List ByteArray} {gr : List SV} (hS : ∀ h ∈ gr, RisE kg (re h)) (hC : CodesP re gr) (hg1 : 1 ≤ gr.length) :
    ∀ (n : Nat) {I : Foot} (_ : MdI I kg re wv g ws gr) {s : SV} {hs : List Int} {L : List HP} [hr : SlI I s Int inferInstance hs], hs.length < n → hs.length ≤ 1000 →
    Tr Try.prog 21 #[.agg #[.int .i64 fr, .slice wv.a wv.n wv.cap, .slice g.a g.n g.cap], .slice s.a s.n s.cap, .int .i64 w] (SL w0 I L) (fun _ : Unit => .int .i64 (prbN kg re gr w (truL gr.length hs))) (fun _ => SL w0 I L) := by
  intro n
  induction n with
  | zero =>
    intro I hM s hs L hr hn hl
    exact absurd hn (Nat.not_lt_zero _)
  | succ n ih =>
    intro I hM s hs L hr hn hl
    refine Tr.intro Try.func21 rfl Try.ntmps21 rfl ?_
    have hg := hM.grams
    have hgn := hM.gln
    by_cases ht : gr.length ≤ hs.length
    · have ht' : (gr.length : Int) ≤ hs.length := by omega
      have e : truL gr.length hs = hs.drop (hs.length - gr.length + 1) := if_pos ht
      have hrg : 0 ≤ (hs.length : Int) - gr.length + 1 ∧ (hs.length : Int) - gr.length + 1 ≤ hs.length := by omega
      have hcut : cutL hs ((hs.length : Int) - gr.length + 1) (hs.length : Int) = hs.drop (hs.length - gr.length + 1) := by
        have := cut_drop (l := hs) (i := hs.length - gr.length + 1) (by omega)
        rwa [show ((hs.length - gr.length + 1 : Nat) : Int) = (hs.length : Int) - gr.length + 1 by omega] at this
      have h0s : SlI I (s.cut 1 ((hs.length : Int) - gr.length + 1) (hs.length : Int)) Int inferInstance (hs.drop (hs.length - gr.length + 1)) := by
        have hci : SlI I (s.cut 1 ((hs.length : Int) - gr.length + 1) (hs.length : Int)) Int inferInstance (cutL hs ((hs.length : Int) - gr.length + 1) (hs.length : Int)) := inferInstance
        rwa [hcut] at hci
      have hdl : (hs.drop (hs.length - gr.length + 1)).length < n := by rw [List.length_drop]; omega
      have hdk : (hs.drop (hs.length - gr.length + 1)).length ≤ 1000 := by rw [List.length_drop]; omega
      have e2 : truL gr.length (hs.drop (hs.length - gr.length + 1)) = hs.drop (hs.length - gr.length + 1) := if_neg (by rw [List.length_drop]; omega)
      have ih2 := fun {L : List HP} => ih hM (s := s.cut 1 ((hs.length : Int) - gr.length + 1) (hs.length : Int)) (hs := hs.drop (hs.length - gr.length + 1)) (L := L) hdl hdk
      rw [e2] at ih2
      rw [e]
      repeat' (first | ((first | refine WLA.m rfl rfl ?_ ?_ | refine WDQ.m rfl rfl ?_ ?_ | refine WLA.st rfl ?_ ?_ | refine WLA.x rfl rfl ?_ (fun x => ?_) | refine WLA.x0 rfl ?_ (fun x => ?_)); first | exact trivial | exact rfl | assumption | omega | (refine ⟨?_, ?_⟩ <;> omega) | (simp only [Room, List.length_set, List.length_append, List.length_cons, List.length_nil, List.length_replicate]; omega) | decide | skip) | (refine Stp.go ?_) | (guard_target =~ WLA _ _ _ _ _ (⟨_, .call ⟨.value (.func 21), _, _⟩, _, _, _, _⟩ :: _) _ _; first | (refine WLA.call rfl rfl (ih2) ?_; rintro ⟨⟩) | (refine WLA.call0 rfl (ih2) ?_; rintro ⟨⟩)) | (refine WPA.ifT ?_) | (refine WPA.ifF ?_) | ((first | refine WPA.dec ?_); first | refine .inl ⟨by first | assumption | omega | with_reducible rfl | (refine fun h => h ?_; first | assumption | with_reducible rfl) | (simp only [List.length_append, List.length_cons, List.length_nil, List.length_set] <;> omega) | decide, ?_⟩ | refine .inr ⟨by first | assumption | omega | with_reducible rfl | (refine fun h => h ?_; first | assumption | with_reducible rfl) | (simp only [List.length_append, List.length_cons, List.length_nil, List.length_set] <;> omega) | decide, ?_⟩) | ((first | refine WPA.ifBt ?_ ?_ | refine WPA.ifBnf ?_ ?_); assumption) | ((first | refine WPA.ifBnt ?_ ?_ | refine WPA.ifBf ?_ ?_); assumption) | ((first | refine WPA.ifs ?_ ?_ | refine WPA.ifB ?_ ?_) <;> intro hc) | (guard_target =~ WPA _ _ _ (.region 2 _ true) _ _ _; refine WPA.drawT 11 (.q 0 (.q 1 (.q 2 (.q 3 (.q 4 (.q 5 (.q 6 (.q 7 (.q 8 (.q 9 (.q 10 .fin))))))))))) mixed ?_ ?_; kernel_rfl) | (refine WDA.finish (tl := [⟨_, _, _, _, _, _⟩, ⟨_, _, _, _, _, _⟩]) rfl ?_) | (refine WDQ.see rfl ?_) | (guard_target =~ WDE _ _ _ _ _ _ _ ⟨_, .call ⟨.value (.func 21), _, _⟩, _, _, _, _⟩ _ _ _; refine WDE.call rfl rfl (ih2) ?_ ?_; (intro x w h; first | exact h | exact Ent.drop1.sl h | exact SL.unI h | exact SL.to h); rintro ⟨⟩) | (guard_target =~ WDW _ _ _ _ _ _ _ ⟨_, .call ⟨.value (.func 21), _, _⟩, _, _, _, _⟩ _ _ _; refine WDW.call rfl rfl (ih2) ?_; rintro ⟨⟩))
      all_goals exact QQ.end_ rfl () rfl fun w h => h.to
    · have ht' : ¬ (gr.length : Int) ≤ hs.length := by omega
      have e : truL gr.length hs = hs := if_neg ht
      rw [e]
      have hlw : (hs ++ [w]).length ≤ 1000000 := by rw [List.length_append, List.length_singleton]; omega
      repeat' ((fail_if_success (guard_target =~ WPA _ _ _ (.region 1 _ _) _ _ _)); first | ((first | refine WLA.m rfl rfl ?_ ?_ | refine WLA.st rfl ?_ ?_ | refine WLA.x rfl rfl ?_ (fun x => ?_) | refine WLA.x0 rfl ?_ (fun x => ?_)); first | exact trivial | exact rfl | assumption | omega | (refine ⟨?_, ?_⟩ <;> omega) | (simp only [Room, List.length_set, List.length_append, List.length_cons, List.length_nil, List.length_replicate]; omega) | decide | skip) | (refine Stp.go ?_) | (refine WPA.ifT ?_) | (refine WPA.ifF ?_) | ((first | refine WPA.dec ?_); first | refine .inl ⟨by first | assumption | omega | with_reducible rfl | (refine fun h => h ?_; first | assumption | with_reducible rfl) | (simp only [List.length_append, List.length_cons, List.length_nil, List.length_set] <;> omega) | decide, ?_⟩ | refine .inr ⟨by first | assumption | omega | with_reducible rfl | (refine fun h => h ?_; first | assumption | with_reducible rfl) | (simp only [List.length_append, List.length_cons, List.length_nil, List.length_set] <;> omega) | decide, ?_⟩) | ((first | refine WPA.ifBt ?_ ?_ | refine WPA.ifBnf ?_ ?_); assumption) | ((first | refine WPA.ifBnt ?_ ?_ | refine WPA.ifBf ?_ ?_); assumption) | ((first | refine WPA.ifs ?_ ?_ | refine WPA.ifB ?_ ?_) <;> intro hc))
      revert x; intro t3
      refine WPA.freezeBk (b := t3) ?_
      have hM2 : MdI (BkI t3 25 [.int .i64 fr, .slice wv.a wv.n wv.cap, .slice g.a g.n g.cap] ++ I) kg re wv g ws gr := hM.sub
      by_cases hF : FndP kg re gr (hs ++ [w])
      · have hpe : prbN kg re gr w hs = (cdsG kg re gr (hs ++ [w])).1 := by
          cases hs with
          | nil => rw [prbN]; exact if_pos hF
          | cons a h => rw [prbN]; exact if_pos hF
        rw [hpe]
        repeat' (first | ((first | refine WLA.m rfl rfl ?_ ?_ | refine WDQ.m rfl rfl ?_ ?_ | refine WDP.m rfl rfl ?_ ?_ | refine WLA.st rfl ?_ ?_ | refine WLA.x rfl rfl ?_ (fun x => ?_) | refine WLA.x0 rfl ?_ (fun x => ?_) | refine WDW.x rfl rfl ?_ (fun x => ?_) | refine WDW.st rfl ?_ ?_); first | exact trivial | exact rfl | assumption | omega | (refine ⟨?_, ?_⟩ <;> omega) | (simp only [Room, List.length_set, List.length_append, List.length_cons, List.length_nil, List.length_replicate]; omega) | decide | skip) | (refine Stp.go ?_) | (guard_target =~ WLA _ _ _ _ _ (⟨_, .call ⟨.value (.func 42), _, _⟩, _, _, _, _⟩ :: _) _ _; first | (refine WLA.call rfl rfl (rFind_y hM2 hlw hF) ?_; rintro ⟨⟩) | (refine WLA.call0 rfl (rFind_y hM2 hlw hF) ?_; rintro ⟨⟩)) | (refine WPA.ifT ?_) | (refine WPA.ifF ?_) | ((first | refine WPA.dec ?_); first | refine .inl ⟨by first | assumption | omega | with_reducible rfl | (refine fun h => h ?_; first | assumption | with_reducible rfl) | (simp only [List.length_append, List.length_cons, List.length_nil, List.length_set] <;> omega) | decide, ?_⟩ | refine .inr ⟨by first | assumption | omega | with_reducible rfl | (refine fun h => h ?_; first | assumption | with_reducible rfl) | (simp only [List.length_append, List.length_cons, List.length_nil, List.length_set] <;> omega) | decide, ?_⟩) | ((first | refine WPA.ifBt ?_ ?_ | refine WPA.ifBnf ?_ ?_); assumption) | ((first | refine WPA.ifBnt ?_ ?_ | refine WPA.ifBf ?_ ?_); assumption) | ((first | refine WPA.ifs ?_ ?_ | refine WPA.ifB ?_ ?_) <;> intro hc) | (guard_target =~ WPA _ _ _ (.region 2 _ true) _ _ _; refine WPA.drawT 11 (.q 0 (.q 1 (.q 2 (.q 3 (.q 4 (.q 5 (.q 6 (.q 7 (.q 8 (.q 9 (.q 10 .fin))))))))))) mixed ?_ ?_; kernel_rfl) | (guard_target =~ WPA _ _ _ (.region 3 _ true) _ _ _; refine WPA.drawT 13 (.p 0 (.p 2 (.p 4 (.t false 1 (.t true 3 (.b false 5 (.b true 6 (.b false 7 (.p 8 (.p 9 (.p 10 (.e 11 (.e 12 .fin))))) false 11 (.e 7 (.p 8 (.p 9 (.p 10 (.e 12 .fin)))))) false 11 (.w 6 (.e 7 (.p 8 (.p 9 (.p 10 (.e 12 .fin))))))) false 11 (.e 5 (.w 6 (.e 7 (.p 8 (.p 9 (.p 10 (.e 12 .fin)))))))) false 5 (.b true 3 (.b true 6 (.b false 7 (.p 8 (.p 9 (.p 10 (.e 11 (.e 12 .fin))))) false 11 (.e 7 (.p 8 (.p 9 (.p 10 (.e 12 .fin)))))) false 11 (.w 6 (.e 7 (.p 8 (.p 9 (.p 10 (.e 12 .fin))))))) false 11 (.w 3 (.w 6 (.e 7 (.p 8 (.p 9 (.p 10 (.e 12 .fin)))))))) false 11 (.b true 3 (.e 5 (.w 6 (.e 7 (.p 8 (.p 9 (.p 10 (.e 12 .fin))))))) false 5 (.w 3 (.w 6 (.e 7 (.p 8 (.p 9 (.p 10 (.e 12 .fin))))))))) false 5 (.b false 1 (.b true 3 (.b true 6 (.b false 7 (.p 8 (.p 9 (.p 10 (.e 11 (.e 12 .fin))))) false 11 (.e 7 (.p 8 (.p 9 (.p 10 (.e 12 .fin)))))) false 11 (.w 6 (.e 7 (.p 8 (.p 9 (.p 10 (.e 12 .fin))))))) false 11 (.w 3 (.w 6 (.e 7 (.p 8 (.p 9 (.p 10 (.e 12 .fin)))))))) false 11 (.e 1 (.w 3 (.w 6 (.e 7 (.p 8 (.p 9 (.p 10 (.e 12 .fin))))))))) false 11 (.b false 1 (.b true 3 (.e 5 (.w 6 (.e 7 (.p 8 (.p 9 (.p 10 (.e 12 .fin))))))) false 5 (.w 3 (.w 6 (.e 7 (.p 8 (.p 9 (.p 10 (.e 12 .fin)))))))) false 5 (.e 1 (.w 3 (.w 6 (.e 7 (.p 8 (.p 9 (.p 10 (.e 12 .fin))))))))))))) mixed ?_ ?_; kernel_rfl) | (refine WDA.finish (tl := [⟨_, _, _, _, _, _⟩]) rfl ?_) | (refine WDA.finish (tl := [⟨_, _, _, _, _, _⟩, ⟨_, _, _, _, _, _⟩]) rfl ?_) | (refine WDQ.see rfl ?_) | (refine WDP.see rfl ?_) | (refine WDW.see rfl ?_) | (first | (refine WDA.two rfl rfl ?_ ?_) | (refine WDA.twoL rfl rfl ?_ ?_) | (refine WDA.twoR rfl rfl ?_ ?_) | (refine WDA.twoW rfl rfl ?_ ?_)) | (first | (refine WDA.three rfl rfl rfl ?_ ?_ ?_) | (refine WDA.threeL rfl rfl rfl ?_ ?_ ?_) | (refine WDA.threeM rfl rfl rfl ?_ ?_ ?_) | (refine WDA.threeR rfl rfl rfl ?_ ?_ ?_)) | (refine WDE.see rfl ?_) | (refine WDE.alloc rfl rfl (fun w h => h) (fun x => ?_)) | (refine WDE.stE rfl ?_) | (refine WDE.x rfl rfl ?_ ?_ (fun x => ?_); rotate_left 1; (intro x w h; first | exact h | exact Ent.drop1.sl h | exact SL.unI h | exact SL.to h); rotate_left 1; first | exact trivial | exact rfl | assumption | omega | (refine ⟨?_, ?_⟩ <;> omega) | (simp only [Room, List.length_set, List.length_append, List.length_cons, List.length_nil, List.length_replicate]; omega) | decide | skip) | (guard_target =~ WDE _ _ _ _ _ _ _ ⟨_, .call ⟨.value (.func 42), _, _⟩, _, _, _, _⟩ _ _ _; refine WDE.call rfl rfl (rFind_y hM2 hlw hF) ?_ ?_; (intro x w h; first | exact h | exact Ent.drop1.sl h | exact SL.unI h | exact SL.to h); rintro ⟨⟩) | (guard_target =~ WDW _ _ _ _ _ _ _ ⟨_, .call ⟨.value (.func 42), _, _⟩, _, _, _, _⟩ _ _ _; refine WDW.call rfl rfl (rFind_y hM2 hlw hF) ?_; rintro ⟨⟩))
        all_goals exact QQ.end_ rfl () rfl fun w h => h.unI.to
      · cases hs with
        | nil =>
          have hpe : prbN kg re gr w [] = -1073741824 := by rw [prbN]; exact if_neg hF
          rw [hpe]
          have hz : (([] : List Int).length : Int) = 0 := rfl
          repeat' (first | ((first | refine WLA.m rfl rfl ?_ ?_ | refine WDQ.m rfl rfl ?_ ?_ | refine WDP.m rfl rfl ?_ ?_ | refine WLA.st rfl ?_ ?_ | refine WLA.x rfl rfl ?_ (fun x => ?_) | refine WLA.x0 rfl ?_ (fun x => ?_) | refine WDW.x rfl rfl ?_ (fun x => ?_) | refine WDW.st rfl ?_ ?_); first | exact trivial | exact rfl | assumption | omega | (refine ⟨?_, ?_⟩ <;> omega) | (simp only [Room, List.length_set, List.length_append, List.length_cons, List.length_nil, List.length_replicate]; omega) | decide | skip) | (refine Stp.go ?_) | (guard_target =~ WLA _ _ _ _ _ (⟨_, .call ⟨.value (.func 42), _, _⟩, _, _, _, _⟩ :: _) _ _; first | (refine WLA.call rfl rfl (rFind_n hM2 hlw hF) ?_; rintro ⟨⟩) | (refine WLA.call0 rfl (rFind_n hM2 hlw hF) ?_; rintro ⟨⟩)) | (refine WPA.ifT ?_) | (refine WPA.ifF ?_) | ((first | refine WPA.dec ?_); first | refine .inl ⟨by first | assumption | omega | with_reducible rfl | (refine fun h => h ?_; first | assumption | with_reducible rfl) | (simp only [List.length_append, List.length_cons, List.length_nil, List.length_set] <;> omega) | decide, ?_⟩ | refine .inr ⟨by first | assumption | omega | with_reducible rfl | (refine fun h => h ?_; first | assumption | with_reducible rfl) | (simp only [List.length_append, List.length_cons, List.length_nil, List.length_set] <;> omega) | decide, ?_⟩) | ((first | refine WPA.ifBt ?_ ?_ | refine WPA.ifBnf ?_ ?_); assumption) | ((first | refine WPA.ifBnt ?_ ?_ | refine WPA.ifBf ?_ ?_); assumption) | ((first | refine WPA.ifs ?_ ?_ | refine WPA.ifB ?_ ?_) <;> intro hc) | (guard_target =~ WPA _ _ _ (.region 2 _ true) _ _ _; refine WPA.drawT 11 (.q 0 (.q 1 (.q 2 (.q 3 (.q 4 (.q 5 (.q 6 (.q 7 (.q 8 (.q 9 (.q 10 .fin))))))))))) mixed ?_ ?_; kernel_rfl) | (guard_target =~ WPA _ _ _ (.region 3 _ true) _ _ _; refine WPA.drawT 13 (.p 0 (.p 2 (.p 4 (.t false 1 (.t true 3 (.b false 5 (.b true 6 (.b false 7 (.p 8 (.p 9 (.p 10 (.e 11 (.e 12 .fin))))) false 11 (.e 7 (.p 8 (.p 9 (.p 10 (.e 12 .fin)))))) false 11 (.w 6 (.e 7 (.p 8 (.p 9 (.p 10 (.e 12 .fin))))))) false 11 (.e 5 (.w 6 (.e 7 (.p 8 (.p 9 (.p 10 (.e 12 .fin)))))))) false 5 (.b true 3 (.b true 6 (.b false 7 (.p 8 (.p 9 (.p 10 (.e 11 (.e 12 .fin))))) false 11 (.e 7 (.p 8 (.p 9 (.p 10 (.e 12 .fin)))))) false 11 (.w 6 (.e 7 (.p 8 (.p 9 (.p 10 (.e 12 .fin))))))) false 11 (.w 3 (.w 6 (.e 7 (.p 8 (.p 9 (.p 10 (.e 12 .fin)))))))) false 11 (.b true 3 (.e 5 (.w 6 (.e 7 (.p 8 (.p 9 (.p 10 (.e 12 .fin))))))) false 5 (.w 3 (.w 6 (.e 7 (.p 8 (.p 9 (.p 10 (.e 12 .fin))))))))) false 5 (.b false 1 (.b true 3 (.b true 6 (.b false 7 (.p 8 (.p 9 (.p 10 (.e 11 (.e 12 .fin))))) false 11 (.e 7 (.p 8 (.p 9 (.p 10 (.e 12 .fin)))))) false 11 (.w 6 (.e 7 (.p 8 (.p 9 (.p 10 (.e 12 .fin))))))) false 11 (.w 3 (.w 6 (.e 7 (.p 8 (.p 9 (.p 10 (.e 12 .fin)))))))) false 11 (.e 1 (.w 3 (.w 6 (.e 7 (.p 8 (.p 9 (.p 10 (.e 12 .fin))))))))) false 11 (.b false 1 (.b true 3 (.e 5 (.w 6 (.e 7 (.p 8 (.p 9 (.p 10 (.e 12 .fin))))))) false 5 (.w 3 (.w 6 (.e 7 (.p 8 (.p 9 (.p 10 (.e 12 .fin)))))))) false 5 (.e 1 (.w 3 (.w 6 (.e 7 (.p 8 (.p 9 (.p 10 (.e 12 .fin))))))))))))) mixed ?_ ?_; kernel_rfl) | (refine WDA.finish (tl := [⟨_, _, _, _, _, _⟩]) rfl ?_) | (refine WDA.finish (tl := [⟨_, _, _, _, _, _⟩, ⟨_, _, _, _, _, _⟩]) rfl ?_) | (refine WDQ.see rfl ?_) | (refine WDP.see rfl ?_) | (refine WDW.see rfl ?_) | (first | (refine WDA.two rfl rfl ?_ ?_) | (refine WDA.twoL rfl rfl ?_ ?_) | (refine WDA.twoR rfl rfl ?_ ?_) | (refine WDA.twoW rfl rfl ?_ ?_)) | (first | (refine WDA.three rfl rfl rfl ?_ ?_ ?_) | (refine WDA.threeL rfl rfl rfl ?_ ?_ ?_) | (refine WDA.threeM rfl rfl rfl ?_ ?_ ?_) | (refine WDA.threeR rfl rfl rfl ?_ ?_ ?_)) | (refine WDE.see rfl ?_) | (refine WDE.alloc rfl rfl (fun w h => h) (fun x => ?_)) | (refine WDE.stE rfl ?_) | (refine WDE.x rfl rfl ?_ ?_ (fun x => ?_); rotate_left 1; (intro x w h; first | exact h | exact Ent.drop1.sl h | exact SL.unI h | exact SL.to h); rotate_left 1; first | exact trivial | exact rfl | assumption | omega | (refine ⟨?_, ?_⟩ <;> omega) | (simp only [Room, List.length_set, List.length_append, List.length_cons, List.length_nil, List.length_replicate]; omega) | decide | skip) | (guard_target =~ WDE _ _ _ _ _ _ _ ⟨_, .call ⟨.value (.func 42), _, _⟩, _, _, _, _⟩ _ _ _; refine WDE.call rfl rfl (rFind_n hM2 hlw hF) ?_ ?_; (intro x w h; first | exact h | exact Ent.drop1.sl h | exact SL.unI h | exact SL.to h); rintro ⟨⟩) | (guard_target =~ WDW _ _ _ _ _ _ _ ⟨_, .call ⟨.value (.func 42), _, _⟩, _, _, _, _⟩ _ _ _; refine WDW.call rfl rfl (rFind_n hM2 hlw hF) ?_; rintro ⟨⟩))
          all_goals exact QQ.end_ rfl () rfl fun w h => h.unI.to
        | cons a h =>
          have hpe : prbN kg re gr w (a :: h) = bckN kg re gr (a :: h) + prbN kg re gr w h := by rw [prbN]; exact if_neg hF
          have hbk := bck_code (kg := kg) (g := a :: h) hC
          rw [hpe]
          have hbh := prb_bd (kg := kg) (w := w) hC h
          have hne : ¬ ((a :: h).length : Int) = 0 := by simp only [List.length_cons]; omega
          have hal : (a :: h).length ≤ 1000000 := by omega
          have hlc : (a :: h).length = h.length + 1 := by simp
          have hlc' : ((a :: h).length : Int) = (h.length : Int) + 1 := by simp
          have hcut : cutL (a :: h) 1 ((a :: h).length : Int) = h := cut_drop (l := a :: h) (i := 1) (by simp)
          have hcs : SlI (BkI t3 25 [.int .i64 fr, .slice wv.a wv.n wv.cap, .slice g.a g.n g.cap] ++ I) (s.cut 1 1 ((a :: h).length : Int)) Int inferInstance h := by
            have hci : SlI (BkI t3 25 [.int .i64 fr, .slice wv.a wv.n wv.cap, .slice g.a g.n g.cap] ++ I) (s.cut 1 1 ((a :: h).length : Int)) Int inferInstance (cutL (a :: h) 1 ((a :: h).length : Int)) := inferInstance
            rwa [hcut] at hci
          have hrg : (0 : Int) ≤ 1 ∧ (1 : Int) ≤ (a :: h).length := by omega
          have e2 : truL gr.length h = h := if_neg (by omega)
          have ih2 := fun {L : List HP} => ih hM2 (s := s.cut 1 1 ((a :: h).length : Int)) (hs := h) (L := L) (by omega) (by omega)
          rw [e2] at ih2
          by_cases hF2 : FndP kg re gr (a :: h)
          · have hb : bckN kg re gr (a :: h) = (entG kg re gr (a :: h)).2.2 := if_pos hF2
            rw [hb] at hbk ⊢
            have hsm : -9223372036854775808 ≤ (entG kg re gr (a :: h)).2.2 + prbN kg re gr w h ∧ (entG kg re gr (a :: h)).2.2 + prbN kg re gr w h ≤ 9223372036854775807 := by omega
            repeat' (first | (guard_target =~ WLA _ _ _ _ _ (⟨_, .call ⟨.value (.func 42), _, _⟩, _, _, _, _⟩ :: _) _ _; refine WLA.call rfl rfl (rFind_y hM2 hal hF2) ?_; rintro ⟨⟩) | ((first | refine WLA.m rfl rfl ?_ ?_ | refine WDQ.m rfl rfl ?_ ?_ | refine WDP.m rfl rfl ?_ ?_ | refine WLA.st rfl ?_ ?_ | refine WLA.x rfl rfl ?_ (fun x => ?_) | refine WLA.x0 rfl ?_ (fun x => ?_) | refine WDW.x rfl rfl ?_ (fun x => ?_) | refine WDW.st rfl ?_ ?_); first | exact trivial | exact rfl | assumption | omega | (refine ⟨?_, ?_⟩ <;> omega) | (simp only [Room, List.length_set, List.length_append, List.length_cons, List.length_nil, List.length_replicate]; omega) | decide | skip) | (refine Stp.go ?_) | (guard_target =~ WLA _ _ _ _ _ (⟨_, .call ⟨.value (.func 42), _, _⟩, _, _, _, _⟩ :: _) _ _; first | (refine WLA.call rfl rfl (rFind_n hM2 hlw hF) ?_; rintro ⟨⟩) | (refine WLA.call0 rfl (rFind_n hM2 hlw hF) ?_; rintro ⟨⟩)) | (guard_target =~ WLA _ _ _ _ _ (⟨_, .call ⟨.value (.func 21), _, _⟩, _, _, _, _⟩ :: _) _ _; first | (refine WLA.call rfl rfl (ih2) ?_; rintro ⟨⟩) | (refine WLA.call0 rfl (ih2) ?_; rintro ⟨⟩)) | (refine WPA.ifT ?_) | (refine WPA.ifF ?_) | ((first | refine WPA.dec ?_); first | refine .inl ⟨by first | assumption | omega | with_reducible rfl | (refine fun h => h ?_; first | assumption | with_reducible rfl) | (simp only [List.length_append, List.length_cons, List.length_nil, List.length_set] <;> omega) | decide, ?_⟩ | refine .inr ⟨by first | assumption | omega | with_reducible rfl | (refine fun h => h ?_; first | assumption | with_reducible rfl) | (simp only [List.length_append, List.length_cons, List.length_nil, List.length_set] <;> omega) | decide, ?_⟩) | ((first | refine WPA.ifBt ?_ ?_ | refine WPA.ifBnf ?_ ?_); assumption) | ((first | refine WPA.ifBnt ?_ ?_ | refine WPA.ifBf ?_ ?_); assumption) | ((first | refine WPA.ifs ?_ ?_ | refine WPA.ifB ?_ ?_) <;> intro hc) | (guard_target =~ WPA _ _ _ (.region 2 _ true) _ _ _; refine WPA.drawT 11 (.q 0 (.q 1 (.q 2 (.q 3 (.q 4 (.q 5 (.q 6 (.q 7 (.q 8 (.q 9 (.q 10 .fin))))))))))) mixed ?_ ?_; kernel_rfl) | (guard_target =~ WPA _ _ _ (.region 3 _ true) _ _ _; refine WPA.drawT 13 (.p 0 (.p 2 (.p 4 (.t false 1 (.t true 3 (.b false 5 (.b true 6 (.b false 7 (.p 8 (.p 9 (.p 10 (.e 11 (.e 12 .fin))))) false 11 (.e 7 (.p 8 (.p 9 (.p 10 (.e 12 .fin)))))) false 11 (.w 6 (.e 7 (.p 8 (.p 9 (.p 10 (.e 12 .fin))))))) false 11 (.e 5 (.w 6 (.e 7 (.p 8 (.p 9 (.p 10 (.e 12 .fin)))))))) false 5 (.b true 3 (.b true 6 (.b false 7 (.p 8 (.p 9 (.p 10 (.e 11 (.e 12 .fin))))) false 11 (.e 7 (.p 8 (.p 9 (.p 10 (.e 12 .fin)))))) false 11 (.w 6 (.e 7 (.p 8 (.p 9 (.p 10 (.e 12 .fin))))))) false 11 (.w 3 (.w 6 (.e 7 (.p 8 (.p 9 (.p 10 (.e 12 .fin)))))))) false 11 (.b true 3 (.e 5 (.w 6 (.e 7 (.p 8 (.p 9 (.p 10 (.e 12 .fin))))))) false 5 (.w 3 (.w 6 (.e 7 (.p 8 (.p 9 (.p 10 (.e 12 .fin))))))))) false 5 (.b false 1 (.b true 3 (.b true 6 (.b false 7 (.p 8 (.p 9 (.p 10 (.e 11 (.e 12 .fin))))) false 11 (.e 7 (.p 8 (.p 9 (.p 10 (.e 12 .fin)))))) false 11 (.w 6 (.e 7 (.p 8 (.p 9 (.p 10 (.e 12 .fin))))))) false 11 (.w 3 (.w 6 (.e 7 (.p 8 (.p 9 (.p 10 (.e 12 .fin)))))))) false 11 (.e 1 (.w 3 (.w 6 (.e 7 (.p 8 (.p 9 (.p 10 (.e 12 .fin))))))))) false 11 (.b false 1 (.b true 3 (.e 5 (.w 6 (.e 7 (.p 8 (.p 9 (.p 10 (.e 12 .fin))))))) false 5 (.w 3 (.w 6 (.e 7 (.p 8 (.p 9 (.p 10 (.e 12 .fin)))))))) false 5 (.e 1 (.w 3 (.w 6 (.e 7 (.p 8 (.p 9 (.p 10 (.e 12 .fin))))))))))))) mixed ?_ ?_; kernel_rfl) | (guard_target =~ WPA _ _ _ (.region 9 _ true) _ _ _; refine WPA.drawT 7 (.q 0 (.q 1 (.q 2 (.q 3 (.q 4 (.q 5 (.e 6 .fin))))))) mixed ?_ ?_; kernel_rfl) | (refine WDA.finish (tl := [⟨_, _, _, _, _, _⟩]) rfl ?_) | (refine WDA.finish (tl := [⟨_, _, _, _, _, _⟩, ⟨_, _, _, _, _, _⟩]) rfl ?_) | (refine WDQ.see rfl ?_) | (refine WDP.see rfl ?_) | (refine WDW.see rfl ?_) | (first | (refine WDA.two rfl rfl ?_ ?_) | (refine WDA.twoL rfl rfl ?_ ?_) | (refine WDA.twoR rfl rfl ?_ ?_) | (refine WDA.twoW rfl rfl ?_ ?_)) | (first | (refine WDA.three rfl rfl rfl ?_ ?_ ?_) | (refine WDA.threeL rfl rfl rfl ?_ ?_ ?_) | (refine WDA.threeM rfl rfl rfl ?_ ?_ ?_) | (refine WDA.threeR rfl rfl rfl ?_ ?_ ?_)) | (refine WDE.see rfl ?_) | (refine WDE.alloc rfl rfl (fun w h => h) (fun x => ?_)) | (refine WDE.stE rfl ?_) | (refine WDE.x rfl rfl ?_ ?_ (fun x => ?_); rotate_left 1; (intro x w h; first | exact h | exact Ent.drop1.sl h | exact SL.unI h | exact SL.to h); rotate_left 1; first | exact trivial | exact rfl | assumption | omega | (refine ⟨?_, ?_⟩ <;> omega) | (simp only [Room, List.length_set, List.length_append, List.length_cons, List.length_nil, List.length_replicate]; omega) | decide | skip) | (guard_target =~ WDE _ _ _ _ _ _ _ ⟨_, .call ⟨.value (.func 42), _, _⟩, _, _, _, _⟩ _ _ _; refine WDE.call rfl rfl (rFind_n hM2 hlw hF) ?_ ?_; (intro x w h; first | exact h | exact Ent.drop1.sl h | exact SL.unI h | exact SL.to h); rintro ⟨⟩) | (guard_target =~ WDW _ _ _ _ _ _ _ ⟨_, .call ⟨.value (.func 42), _, _⟩, _, _, _, _⟩ _ _ _; refine WDW.call rfl rfl (rFind_n hM2 hlw hF) ?_; rintro ⟨⟩) | (guard_target =~ WDE _ _ _ _ _ _ _ ⟨_, .call ⟨.value (.func 21), _, _⟩, _, _, _, _⟩ _ _ _; refine WDE.call rfl rfl (ih2) ?_ ?_; (intro x w h; first | exact h | exact Ent.drop1.sl h | exact SL.unI h | exact SL.to h); rintro ⟨⟩) | (guard_target =~ WDW _ _ _ _ _ _ _ ⟨_, .call ⟨.value (.func 21), _, _⟩, _, _, _, _⟩ _ _ _; refine WDW.call rfl rfl (ih2) ?_; rintro ⟨⟩))
            all_goals exact QQ.end_ rfl () rfl fun w h => h.unI.to
          · have hb : bckN kg re gr (a :: h) = 0 := if_neg hF2
            rw [hb] at hbk ⊢
            have hsm : -9223372036854775808 ≤ 0 + prbN kg re gr w h ∧ 0 + prbN kg re gr w h ≤ 9223372036854775807 := by omega
            repeat' (first | (guard_target =~ WLA _ _ _ _ _ (⟨_, .call ⟨.value (.func 42), _, _⟩, _, _, _, _⟩ :: _) _ _; refine WLA.call rfl rfl (rFind_n hM2 hal hF2) ?_; rintro ⟨⟩) | ((first | refine WLA.m rfl rfl ?_ ?_ | refine WDQ.m rfl rfl ?_ ?_ | refine WDP.m rfl rfl ?_ ?_ | refine WLA.st rfl ?_ ?_ | refine WLA.x rfl rfl ?_ (fun x => ?_) | refine WLA.x0 rfl ?_ (fun x => ?_) | refine WDW.x rfl rfl ?_ (fun x => ?_) | refine WDW.st rfl ?_ ?_); first | exact trivial | exact rfl | assumption | omega | (refine ⟨?_, ?_⟩ <;> omega) | (simp only [Room, List.length_set, List.length_append, List.length_cons, List.length_nil, List.length_replicate]; omega) | decide | skip) | (refine Stp.go ?_) | (guard_target =~ WLA _ _ _ _ _ (⟨_, .call ⟨.value (.func 42), _, _⟩, _, _, _, _⟩ :: _) _ _; first | (refine WLA.call rfl rfl (rFind_n hM2 hlw hF) ?_; rintro ⟨⟩) | (refine WLA.call0 rfl (rFind_n hM2 hlw hF) ?_; rintro ⟨⟩)) | (guard_target =~ WLA _ _ _ _ _ (⟨_, .call ⟨.value (.func 21), _, _⟩, _, _, _, _⟩ :: _) _ _; first | (refine WLA.call rfl rfl (ih2) ?_; rintro ⟨⟩) | (refine WLA.call0 rfl (ih2) ?_; rintro ⟨⟩)) | (refine WPA.ifT ?_) | (refine WPA.ifF ?_) | ((first | refine WPA.dec ?_); first | refine .inl ⟨by first | assumption | omega | with_reducible rfl | (refine fun h => h ?_; first | assumption | with_reducible rfl) | (simp only [List.length_append, List.length_cons, List.length_nil, List.length_set] <;> omega) | decide, ?_⟩ | refine .inr ⟨by first | assumption | omega | with_reducible rfl | (refine fun h => h ?_; first | assumption | with_reducible rfl) | (simp only [List.length_append, List.length_cons, List.length_nil, List.length_set] <;> omega) | decide, ?_⟩) | ((first | refine WPA.ifBt ?_ ?_ | refine WPA.ifBnf ?_ ?_); assumption) | ((first | refine WPA.ifBnt ?_ ?_ | refine WPA.ifBf ?_ ?_); assumption) | ((first | refine WPA.ifs ?_ ?_ | refine WPA.ifB ?_ ?_) <;> intro hc) | (guard_target =~ WPA _ _ _ (.region 2 _ true) _ _ _; refine WPA.drawT 11 (.q 0 (.q 1 (.q 2 (.q 3 (.q 4 (.q 5 (.q 6 (.q 7 (.q 8 (.q 9 (.q 10 .fin))))))))))) mixed ?_ ?_; kernel_rfl) | (guard_target =~ WPA _ _ _ (.region 3 _ true) _ _ _; refine WPA.drawT 13 (.p 0 (.p 2 (.p 4 (.t false 1 (.t true 3 (.b false 5 (.b true 6 (.b false 7 (.p 8 (.p 9 (.p 10 (.e 11 (.e 12 .fin))))) false 11 (.e 7 (.p 8 (.p 9 (.p 10 (.e 12 .fin)))))) false 11 (.w 6 (.e 7 (.p 8 (.p 9 (.p 10 (.e 12 .fin))))))) false 11 (.e 5 (.w 6 (.e 7 (.p 8 (.p 9 (.p 10 (.e 12 .fin)))))))) false 5 (.b true 3 (.b true 6 (.b false 7 (.p 8 (.p 9 (.p 10 (.e 11 (.e 12 .fin))))) false 11 (.e 7 (.p 8 (.p 9 (.p 10 (.e 12 .fin)))))) false 11 (.w 6 (.e 7 (.p 8 (.p 9 (.p 10 (.e 12 .fin))))))) false 11 (.w 3 (.w 6 (.e 7 (.p 8 (.p 9 (.p 10 (.e 12 .fin)))))))) false 11 (.b true 3 (.e 5 (.w 6 (.e 7 (.p 8 (.p 9 (.p 10 (.e 12 .fin))))))) false 5 (.w 3 (.w 6 (.e 7 (.p 8 (.p 9 (.p 10 (.e 12 .fin))))))))) false 5 (.b false 1 (.b true 3 (.b true 6 (.b false 7 (.p 8 (.p 9 (.p 10 (.e 11 (.e 12 .fin))))) false 11 (.e 7 (.p 8 (.p 9 (.p 10 (.e 12 .fin)))))) false 11 (.w 6 (.e 7 (.p 8 (.p 9 (.p 10 (.e 12 .fin))))))) false 11 (.w 3 (.w 6 (.e 7 (.p 8 (.p 9 (.p 10 (.e 12 .fin)))))))) false 11 (.e 1 (.w 3 (.w 6 (.e 7 (.p 8 (.p 9 (.p 10 (.e 12 .fin))))))))) false 11 (.b false 1 (.b true 3 (.e 5 (.w 6 (.e 7 (.p 8 (.p 9 (.p 10 (.e 12 .fin))))))) false 5 (.w 3 (.w 6 (.e 7 (.p 8 (.p 9 (.p 10 (.e 12 .fin)))))))) false 5 (.e 1 (.w 3 (.w 6 (.e 7 (.p 8 (.p 9 (.p 10 (.e 12 .fin))))))))))))) mixed ?_ ?_; kernel_rfl) | (guard_target =~ WPA _ _ _ (.region 9 _ true) _ _ _; refine WPA.drawT 7 (.q 0 (.q 1 (.q 2 (.q 3 (.q 4 (.q 5 (.e 6 .fin))))))) mixed ?_ ?_; kernel_rfl) | (refine WDA.finish (tl := [⟨_, _, _, _, _, _⟩]) rfl ?_) | (refine WDA.finish (tl := [⟨_, _, _, _, _, _⟩, ⟨_, _, _, _, _, _⟩]) rfl ?_) | (refine WDQ.see rfl ?_) | (refine WDP.see rfl ?_) | (refine WDW.see rfl ?_) | (first | (refine WDA.two rfl rfl ?_ ?_) | (refine WDA.twoL rfl rfl ?_ ?_) | (refine WDA.twoR rfl rfl ?_ ?_) | (refine WDA.twoW rfl rfl ?_ ?_)) | (first | (refine WDA.three rfl rfl rfl ?_ ?_ ?_) | (refine WDA.threeL rfl rfl rfl ?_ ?_ ?_) | (refine WDA.threeM rfl rfl rfl ?_ ?_ ?_) | (refine WDA.threeR rfl rfl rfl ?_ ?_ ?_)) | (refine WDE.see rfl ?_) | (refine WDE.alloc rfl rfl (fun w h => h) (fun x => ?_)) | (refine WDE.stE rfl ?_) | (refine WDE.x rfl rfl ?_ ?_ (fun x => ?_); rotate_left 1; (intro x w h; first | exact h | exact Ent.drop1.sl h | exact SL.unI h | exact SL.to h); rotate_left 1; first | exact trivial | exact rfl | assumption | omega | (refine ⟨?_, ?_⟩ <;> omega) | (simp only [Room, List.length_set, List.length_append, List.length_cons, List.length_nil, List.length_replicate]; omega) | decide | skip) | (guard_target =~ WDE _ _ _ _ _ _ _ ⟨_, .call ⟨.value (.func 42), _, _⟩, _, _, _, _⟩ _ _ _; refine WDE.call rfl rfl (rFind_n hM2 hlw hF) ?_ ?_; (intro x w h; first | exact h | exact Ent.drop1.sl h | exact SL.unI h | exact SL.to h); rintro ⟨⟩) | (guard_target =~ WDW _ _ _ _ _ _ _ ⟨_, .call ⟨.value (.func 42), _, _⟩, _, _, _, _⟩ _ _ _; refine WDW.call rfl rfl (rFind_n hM2 hlw hF) ?_; rintro ⟨⟩) | (guard_target =~ WDE _ _ _ _ _ _ _ ⟨_, .call ⟨.value (.func 21), _, _⟩, _, _, _, _⟩ _ _ _; refine WDE.call rfl rfl (ih2) ?_ ?_; (intro x w h; first | exact h | exact Ent.drop1.sl h | exact SL.unI h | exact SL.to h); rintro ⟨⟩) | (guard_target =~ WDW _ _ _ _ _ _ _ ⟨_, .call ⟨.value (.func 21), _, _⟩, _, _, _, _⟩ _ _ _; refine WDW.call rfl rfl (ih2) ?_; rintro ⟨⟩))
            all_goals exact QQ.end_ rfl () rfl fun w h => h.unI.to
end
end Go.Proofs.Ytcomkdndddkbeaa
namespace Go.Proofs.Ytcomkdndddkbeaa
open Go Go.Fw Go.RowKit
set_option linter.unusedVariables false
set_option linter.unusedSimpArgs false
set_option maxRecDepth 100000
set_option maxHeartbeats 16000000
set_option synthInstance.maxHeartbeats 200000
set_option synthInstance.maxSize 100000
attribute [local irreducible] WPA WLA WDA WDQ WDE QQ seqQ blockQ loopQ fnQ OpP OpT Tr TrP SL SLd OwnS LitS Bk BkE Ob
def enV (kg : SV → List Int) (es : List En) : List ((Int × Int) × List Int) := es.map fun p => (p.2, kg p.1)
section
variable {L : List HP} {w0 : World} {I : Foot}
theorem Entries_tr {a b : SV} {xs ys : List En} {kx ky : SV → List Int} [ha : RdS I L a En inferInstance xs] [hb : RdS I L b En inferInstance ys] (hx : ∀ p ∈ xs, RdS I L p.1 Int inferInstance (kx p.1)) (hy : ∀ p ∈ ys, RdS I L p.1 Int inferInstance (ky p.1))
    (hn : xs.length ≤ 1000000000) (hl : ∀ p ∈ xs, (kx p.1).length ≤ 1000000000) :
    TrP Try.prog 34 #[.slice a.a a.n a.cap, .slice b.a b.n b.cap] (SL w0 I L) (.bool (decide (enV kx xs = enV ky ys))) := by
  refine TrP.ofD fun u => Tr.intro Try.func34 rfl Try.ntmps34 rfl ?_
  by_cases hl2 : xs.length = ys.length
  · have hl' : ¬ (xs.length : Int) ≠ ys.length := by omega
    repeat' (first | ((first | refine WLA.m rfl rfl ?_ ?_ | refine WLA.st rfl ?_ ?_ | refine WLA.x rfl rfl ?_ (fun x => ?_) | refine WLA.x0 rfl ?_ (fun x => ?_)); first | exact trivial | exact rfl | assumption | omega | (refine ⟨?_, ?_⟩ <;> omega) | (simp only [Room, List.length_set, List.length_append, List.length_cons, List.length_nil, List.length_replicate]; omega) | decide | skip) | (refine Stp.go ?_) | (refine WPA.ifT ?_) | (refine WPA.ifF ?_) | ((first | refine WPA.dec ?_); first | refine .inl ⟨by first | assumption | omega | with_reducible rfl | (refine fun h => h ?_; first | assumption | with_reducible rfl) | (simp only [List.length_append, List.length_cons, List.length_nil, List.length_set] <;> omega) | decide, ?_⟩ | refine .inr ⟨by first | assumption | omega | with_reducible rfl | (refine fun h => h ?_; first | assumption | with_reducible rfl) | (simp only [List.length_append, List.length_cons, List.length_nil, List.length_set] <;> omega) | decide, ?_⟩) | ((first | refine WPA.ifBt ?_ ?_ | refine WPA.ifBnf ?_ ?_); assumption) | ((first | refine WPA.ifBnt ?_ ?_ | refine WPA.ifBf ?_ ?_); assumption) | ((first | refine WPA.ifs ?_ ?_ | refine WPA.ifB ?_ ?_) <;> intro hc))
    refine WPA.loopS (σ := Nat) (fun i => [(0, .slice a.a a.n a.cap), (1, .slice b.a b.n b.cap), (5, .int .i64 i)]) (fun i => i ≤ xs.length ∧ (enV kx xs).take i = (enV ky ys).take i)
      (fun i => SLd w0 I L u) (fun i => xs.length - i) 0 ⟨rfl, rfl, rfl, trivial⟩ ⟨Nat.zero_le _, by simp⟩ (fun w h => h) ?_
    rintro i ρ ⟨hi, he⟩
    by_cases hlt : i < xs.length
    · have hlt' : (i : Int) < xs.length := by omega
      have hlt2 : (i : Int) < ys.length := by omega
      have hm1 : at_ xs (i : Int) ∈ xs := by rw [at_nat xs i hlt]; exact List.getElem_mem _
      have hm2 : at_ ys (i : Int) ∈ ys := by rw [at_nat ys i (by omega)]; exact List.getElem_mem _
      have k1 := hx _ hm1
      have k2 := hy _ hm2
      have hml := hl _ hm1
      have v1 : (enV kx xs)[i]? = some ((at_ xs (i : Int)).2, kx (at_ xs (i : Int)).1) := by simp [enV, at_nat xs i hlt, hlt]
      have v2 : (enV ky ys)[i]? = some ((at_ ys (i : Int)).2, ky (at_ ys (i : Int)).1) := by simp [enV, at_nat ys i (by omega), show i < ys.length by omega]
      have hne : ((at_ xs (i : Int)).2, kx (at_ xs (i : Int)).1) ≠ ((at_ ys (i : Int)).2, ky (at_ ys (i : Int)).1) → enV kx xs ≠ enV ky ys := fun h e => by
        rw [e, v2] at v1
        exact h (by injection v1 with v1; exact v1.symm)
      by_cases hp : (at_ xs (i : Int)).2.1 = (at_ ys (i : Int)).2.1
      · have hp2 : ¬ (at_ xs (i : Int)).2.1 ≠ (at_ ys (i : Int)).2.1 := fun h => h hp
        by_cases hb : (at_ xs (i : Int)).2.2 = (at_ ys (i : Int)).2.2
        · have hb2 : ¬ (at_ xs (i : Int)).2.2 ≠ (at_ ys (i : Int)).2.2 := fun h => h hb
          by_cases hg : kx (at_ xs (i : Int)).1 = ky (at_ ys (i : Int)).1
          · have hg2 : ¬ ¬ kx (at_ xs (i : Int)).1 = ky (at_ ys (i : Int)).1 := fun h => h hg
            repeat' (first | ((first | refine WLA.m rfl rfl ?_ ?_ | refine WDQ.m rfl rfl ?_ ?_ | refine WLA.st rfl ?_ ?_ | refine WLA.x rfl rfl ?_ (fun x => ?_) | refine WLA.x0 rfl ?_ (fun x => ?_)); first | exact trivial | exact rfl | assumption | omega | (refine ⟨?_, ?_⟩ <;> omega) | (simp only [Room, List.length_set, List.length_append, List.length_cons, List.length_nil, List.length_replicate]; omega) | decide | skip) | (refine Stp.go ?_) | (guard_target =~ WLA _ _ _ _ _ (⟨_, .call ⟨.value (.func 53), _, _⟩, _, _, _, _⟩ :: _) _ _; refine WLA.cq rfl rfl (Ints_tr hml) ?_) | (refine WPA.ifT ?_) | (refine WPA.ifF ?_) | (refine WLA.no rfl rfl ?_) | (refine WDQ.no rfl rfl ?_) | ((first | refine WPA.dec ?_ | ((fail_if_success (guard_target =~ WLA _ _ _ _ _ _ (put1 _ _ (.bool true)) _)); (fail_if_success (guard_target =~ WLA _ _ _ _ _ _ (put1 _ _ (.bool false)) _)); refine WLA.dec rfl rfl ?_) | refine WLA.pk ?_ | refine WDQ.dec rfl rfl ?_); first | refine .inl ⟨by first | assumption | omega | with_reducible rfl | (refine fun h => h ?_; first | assumption | with_reducible rfl) | (simp only [List.length_append, List.length_cons, List.length_nil, List.length_set] <;> omega) | decide, ?_⟩ | refine .inr ⟨by first | assumption | omega | with_reducible rfl | (refine fun h => h ?_; first | assumption | with_reducible rfl) | (simp only [List.length_append, List.length_cons, List.length_nil, List.length_set] <;> omega) | decide, ?_⟩) | ((first | refine WPA.ifBt ?_ ?_ | refine WPA.ifBnf ?_ ?_); assumption) | ((first | refine WPA.ifBnt ?_ ?_ | refine WPA.ifBf ?_ ?_); assumption) | ((first | refine WPA.ifs ?_ ?_ | refine WPA.ifB ?_ ?_) <;> intro hc) | ((fail_if_success (guard_target =~ WLA _ _ _ _ _ _ (put1 _ _ (.bool true)) _)); (fail_if_success (guard_target =~ WLA _ _ _ _ _ _ (put1 _ _ (.bool false)) _)); (first | refine WLA.both rfl rfl ?_ ?_ | refine WLA.bothB rfl rfl ?_ ?_) <;> intro hg) | (guard_target =~ WPA _ _ _ (.region 6 _ true) _ _ _; refine WPA.drawT 35 (.q 0 (.q 1 (.q 2 (.q 3 (.q 4 (.q 5 (.q 6 (.q 7 (.q 8 (.q 9 (.q 10 (.q 11 (.q 12 (.q 13 (.q 14 (.q 15 (.q 16 (.q 17 (.q 18 (.q 19 (.q 20 (.q 21 (.q 22 (.q 23 (.q 24 (.q 25 (.q 26 (.q 27 (.q 28 (.q 29 (.q 30 (.q 31 (.q 32 (.q 33 (.q 34 .fin))))))))))))))))))))))))))))))))))) mixed ?_ ?_; kernel_rfl) | (refine WDA.finish (tl := [⟨_, _, _, _, _, _⟩, ⟨_, _, _, _, _, _⟩, ⟨_, _, _, _, _, _⟩]) rfl ?_) | (refine WDQ.see rfl ?_) | (guard_target =~ WDQ _ _ _ _ _ _ _ ⟨_, .call ⟨.value (.func 53), _, _⟩, _, _, _, _⟩ _ _ _; refine WDQ.cq rfl rfl (Ints_tr hml) ?_) | ((first | refine WDQ.both rfl rfl ?_ ?_) <;> intro hg))
            refine QQ.loopS (i + 1) ⟨rfl, rfl, rfl, trivial⟩ ⟨hlt, ?_⟩ (by omega) (fun w h => h)
            rw [List.take_add_one, List.take_add_one, he, v1, v2, hg, show (at_ xs (i : Int)).2 = (at_ ys (i : Int)).2 from Prod.ext hp hb]
          · have hg2 : ¬ kx (at_ xs (i : Int)).1 = ky (at_ ys (i : Int)).1 := hg
            repeat' (first | ((first | refine WLA.m rfl rfl ?_ ?_ | refine WDQ.m rfl rfl ?_ ?_ | refine WLA.st rfl ?_ ?_ | refine WLA.x rfl rfl ?_ (fun x => ?_) | refine WLA.x0 rfl ?_ (fun x => ?_)); first | exact trivial | exact rfl | assumption | omega | (refine ⟨?_, ?_⟩ <;> omega) | (simp only [Room, List.length_set, List.length_append, List.length_cons, List.length_nil, List.length_replicate]; omega) | decide | skip) | (refine Stp.go ?_) | (guard_target =~ WLA _ _ _ _ _ (⟨_, .call ⟨.value (.func 53), _, _⟩, _, _, _, _⟩ :: _) _ _; refine WLA.cq rfl rfl (Ints_tr hml) ?_) | (refine WPA.ifT ?_) | (refine WPA.ifF ?_) | (refine WLA.no rfl rfl ?_) | (refine WDQ.no rfl rfl ?_) | ((first | refine WPA.dec ?_ | ((fail_if_success (guard_target =~ WLA _ _ _ _ _ _ (put1 _ _ (.bool true)) _)); (fail_if_success (guard_target =~ WLA _ _ _ _ _ _ (put1 _ _ (.bool false)) _)); refine WLA.dec rfl rfl ?_) | refine WLA.pk ?_ | refine WDQ.dec rfl rfl ?_); first | refine .inl ⟨by first | assumption | omega | with_reducible rfl | (refine fun h => h ?_; first | assumption | with_reducible rfl) | (simp only [List.length_append, List.length_cons, List.length_nil, List.length_set] <;> omega) | decide, ?_⟩ | refine .inr ⟨by first | assumption | omega | with_reducible rfl | (refine fun h => h ?_; first | assumption | with_reducible rfl) | (simp only [List.length_append, List.length_cons, List.length_nil, List.length_set] <;> omega) | decide, ?_⟩) | ((first | refine WPA.ifBt ?_ ?_ | refine WPA.ifBnf ?_ ?_); assumption) | ((first | refine WPA.ifBnt ?_ ?_ | refine WPA.ifBf ?_ ?_); assumption) | ((first | refine WPA.ifs ?_ ?_ | refine WPA.ifB ?_ ?_) <;> intro hc) | ((fail_if_success (guard_target =~ WLA _ _ _ _ _ _ (put1 _ _ (.bool true)) _)); (fail_if_success (guard_target =~ WLA _ _ _ _ _ _ (put1 _ _ (.bool false)) _)); (first | refine WLA.both rfl rfl ?_ ?_ | refine WLA.bothB rfl rfl ?_ ?_) <;> intro hg) | (guard_target =~ WPA _ _ _ (.region 6 _ true) _ _ _; refine WPA.drawT 35 (.q 0 (.q 1 (.q 2 (.q 3 (.q 4 (.q 5 (.q 6 (.q 7 (.q 8 (.q 9 (.q 10 (.q 11 (.q 12 (.q 13 (.q 14 (.q 15 (.q 16 (.q 17 (.q 18 (.q 19 (.q 20 (.q 21 (.q 22 (.q 23 (.q 24 (.q 25 (.q 26 (.q 27 (.q 28 (.q 29 (.q 30 (.q 31 (.q 32 (.q 33 (.q 34 .fin))))))))))))))))))))))))))))))))))) mixed ?_ ?_; kernel_rfl) | (refine WDA.finish (tl := [⟨_, _, _, _, _, _⟩, ⟨_, _, _, _, _, _⟩, ⟨_, _, _, _, _, _⟩]) rfl ?_) | (refine WDQ.see rfl ?_) | (guard_target =~ WDQ _ _ _ _ _ _ _ ⟨_, .call ⟨.value (.func 53), _, _⟩, _, _, _, _⟩ _ _ _; refine WDQ.cq rfl rfl (Ints_tr hml) ?_) | ((first | refine WDQ.both rfl rfl ?_ ?_) <;> intro hg))
            exact QQ.end_ rfl () (congrArg Value.bool (decide_eq_false (hne fun e => hg (by injection e))).symm) fun w h => h
        · have hb2 : (at_ xs (i : Int)).2.2 ≠ (at_ ys (i : Int)).2.2 := hb
          repeat' (first | ((first | refine WLA.m rfl rfl ?_ ?_ | refine WDQ.m rfl rfl ?_ ?_ | refine WLA.st rfl ?_ ?_ | refine WLA.x rfl rfl ?_ (fun x => ?_) | refine WLA.x0 rfl ?_ (fun x => ?_)); first | exact trivial | exact rfl | assumption | omega | (refine ⟨?_, ?_⟩ <;> omega) | (simp only [Room, List.length_set, List.length_append, List.length_cons, List.length_nil, List.length_replicate]; omega) | decide | skip) | (refine Stp.go ?_) | (guard_target =~ WLA _ _ _ _ _ (⟨_, .call ⟨.value (.func 53), _, _⟩, _, _, _, _⟩ :: _) _ _; refine WLA.cq rfl rfl (Ints_tr hml) ?_) | (refine WPA.ifT ?_) | (refine WPA.ifF ?_) | (refine WLA.no rfl rfl ?_) | (refine WDQ.no rfl rfl ?_) | ((first | refine WPA.dec ?_ | ((fail_if_success (guard_target =~ WLA _ _ _ _ _ _ (put1 _ _ (.bool true)) _)); (fail_if_success (guard_target =~ WLA _ _ _ _ _ _ (put1 _ _ (.bool false)) _)); refine WLA.dec rfl rfl ?_) | refine WLA.pk ?_ | refine WDQ.dec rfl rfl ?_); first | refine .inl ⟨by first | assumption | omega | with_reducible rfl | (refine fun h => h ?_; first | assumption | with_reducible rfl) | (simp only [List.length_append, List.length_cons, List.length_nil, List.length_set] <;> omega) | decide, ?_⟩ | refine .inr ⟨by first | assumption | omega | with_reducible rfl | (refine fun h => h ?_; first | assumption | with_reducible rfl) | (simp only [List.length_append, List.length_cons, List.length_nil, List.length_set] <;> omega) | decide, ?_⟩) | ((first | refine WPA.ifBt ?_ ?_ | refine WPA.ifBnf ?_ ?_); assumption) | ((first | refine WPA.ifBnt ?_ ?_ | refine WPA.ifBf ?_ ?_); assumption) | ((first | refine WPA.ifs ?_ ?_ | refine WPA.ifB ?_ ?_) <;> intro hc) | ((fail_if_success (guard_target =~ WLA _ _ _ _ _ _ (put1 _ _ (.bool true)) _)); (fail_if_success (guard_target =~ WLA _ _ _ _ _ _ (put1 _ _ (.bool false)) _)); (first | refine WLA.both rfl rfl ?_ ?_ | refine WLA.bothB rfl rfl ?_ ?_) <;> intro hg) | (guard_target =~ WPA _ _ _ (.region 6 _ true) _ _ _; refine WPA.drawT 35 (.q 0 (.q 1 (.q 2 (.q 3 (.q 4 (.q 5 (.q 6 (.q 7 (.q 8 (.q 9 (.q 10 (.q 11 (.q 12 (.q 13 (.q 14 (.q 15 (.q 16 (.q 17 (.q 18 (.q 19 (.q 20 (.q 21 (.q 22 (.q 23 (.q 24 (.q 25 (.q 26 (.q 27 (.q 28 (.q 29 (.q 30 (.q 31 (.q 32 (.q 33 (.q 34 .fin))))))))))))))))))))))))))))))))))) mixed ?_ ?_; kernel_rfl) | (refine WDA.finish (tl := [⟨_, _, _, _, _, _⟩, ⟨_, _, _, _, _, _⟩, ⟨_, _, _, _, _, _⟩]) rfl ?_) | (refine WDQ.see rfl ?_) | (guard_target =~ WDQ _ _ _ _ _ _ _ ⟨_, .call ⟨.value (.func 53), _, _⟩, _, _, _, _⟩ _ _ _; refine WDQ.cq rfl rfl (Ints_tr hml) ?_) | ((first | refine WDQ.both rfl rfl ?_ ?_) <;> intro hg))
          exact QQ.end_ rfl () (congrArg Value.bool (decide_eq_false (hne fun e => hb (by injection e with e _; rw [e]))).symm) fun w h => h
      · have hp2 : (at_ xs (i : Int)).2.1 ≠ (at_ ys (i : Int)).2.1 := hp
        repeat' (first | ((first | refine WLA.m rfl rfl ?_ ?_ | refine WDQ.m rfl rfl ?_ ?_ | refine WLA.st rfl ?_ ?_ | refine WLA.x rfl rfl ?_ (fun x => ?_) | refine WLA.x0 rfl ?_ (fun x => ?_)); first | exact trivial | exact rfl | assumption | omega | (refine ⟨?_, ?_⟩ <;> omega) | (simp only [Room, List.length_set, List.length_append, List.length_cons, List.length_nil, List.length_replicate]; omega) | decide | skip) | (refine Stp.go ?_) | (guard_target =~ WLA _ _ _ _ _ (⟨_, .call ⟨.value (.func 53), _, _⟩, _, _, _, _⟩ :: _) _ _; refine WLA.cq rfl rfl (Ints_tr hml) ?_) | (refine WPA.ifT ?_) | (refine WPA.ifF ?_) | (refine WLA.no rfl rfl ?_) | (refine WDQ.no rfl rfl ?_) | ((first | refine WPA.dec ?_ | ((fail_if_success (guard_target =~ WLA _ _ _ _ _ _ (put1 _ _ (.bool true)) _)); (fail_if_success (guard_target =~ WLA _ _ _ _ _ _ (put1 _ _ (.bool false)) _)); refine WLA.dec rfl rfl ?_) | refine WLA.pk ?_ | refine WDQ.dec rfl rfl ?_); first | refine .inl ⟨by first | assumption | omega | with_reducible rfl | (refine fun h => h ?_; first | assumption | with_reducible rfl) | (simp only [List.length_append, List.length_cons, List.length_nil, List.length_set] <;> omega) | decide, ?_⟩ | refine .inr ⟨by first | assumption | omega | with_reducible rfl | (refine fun h => h ?_; first | assumption | with_reducible rfl) | (simp only [List.length_append, List.length_cons, List.length_nil, List.length_set] <;> omega) | decide, ?_⟩) | ((first | refine WPA.ifBt ?_ ?_ | refine WPA.ifBnf ?_ ?_); assumption) | ((first | refine WPA.ifBnt ?_ ?_ | refine WPA.ifBf ?_ ?_); assumption) | ((first | refine WPA.ifs ?_ ?_ | refine WPA.ifB ?_ ?_) <;> intro hc) | ((fail_if_success (guard_target =~ WLA _ _ _ _ _ _ (put1 _ _ (.bool true)) _)); (fail_if_success (guard_target =~ WLA _ _ _ _ _ _ (put1 _ _ (.bool false)) _)); (first | refine WLA.both rfl rfl ?_ ?_ | refine WLA.bothB rfl rfl ?_ ?_) <;> intro hg) | (guard_target =~ WPA _ _ _ (.region 6 _ true) _ _ _; refine WPA.drawT 35 (.q 0 (.q 1 (.q 2 (.q 3 (.q 4 (.q 5 (.q 6 (.q 7 (.q 8 (.q 9 (.q 10 (.q 11 (.q 12 (.q 13 (.q 14 (.q 15 (.q 16 (.q 17 (.q 18 (.q 19 (.q 20 (.q 21 (.q 22 (.q 23 (.q 24 (.q 25 (.q 26 (.q 27 (.q 28 (.q 29 (.q 30 (.q 31 (.q 32 (.q 33 (.q 34 .fin))))))))))))))))))))))))))))))))))) mixed ?_ ?_; kernel_rfl) | (refine WDA.finish (tl := [⟨_, _, _, _, _, _⟩, ⟨_, _, _, _, _, _⟩, ⟨_, _, _, _, _, _⟩]) rfl ?_) | (refine WDQ.see rfl ?_) | (guard_target =~ WDQ _ _ _ _ _ _ _ ⟨_, .call ⟨.value (.func 53), _, _⟩, _, _, _, _⟩ _ _ _; refine WDQ.cq rfl rfl (Ints_tr hml) ?_) | ((first | refine WDQ.both rfl rfl ?_ ?_) <;> intro hg))
        exact QQ.end_ rfl () (congrArg Value.bool (decide_eq_false (hne fun e => hp (by injection e with e _; rw [e]))).symm) fun w h => h
    · have hlt' : ¬ (i : Int) < xs.length := by omega
      repeat' (first | ((first | refine WLA.m rfl rfl ?_ ?_ | refine WDQ.m rfl rfl ?_ ?_ | refine WLA.st rfl ?_ ?_ | refine WLA.x rfl rfl ?_ (fun x => ?_) | refine WLA.x0 rfl ?_ (fun x => ?_)); first | exact trivial | exact rfl | assumption | omega | (refine ⟨?_, ?_⟩ <;> omega) | (simp only [Room, List.length_set, List.length_append, List.length_cons, List.length_nil, List.length_replicate]; omega) | decide | skip) | (refine Stp.go ?_) | (guard_target =~ WLA _ _ _ _ _ (⟨_, .call ⟨.value (.func 53), _, _⟩, _, _, _, _⟩ :: _) _ _; refine WLA.cq rfl rfl (Ints_tr (by assumption)) ?_) | (refine WPA.ifT ?_) | (refine WPA.ifF ?_) | (refine WLA.no rfl rfl ?_) | (refine WDQ.no rfl rfl ?_) | ((first | refine WPA.dec ?_ | ((fail_if_success (guard_target =~ WLA _ _ _ _ _ _ (put1 _ _ (.bool true)) _)); (fail_if_success (guard_target =~ WLA _ _ _ _ _ _ (put1 _ _ (.bool false)) _)); refine WLA.dec rfl rfl ?_) | refine WLA.pk ?_ | refine WDQ.dec rfl rfl ?_); first | refine .inl ⟨by first | assumption | omega | with_reducible rfl | (refine fun h => h ?_; first | assumption | with_reducible rfl) | (simp only [List.length_append, List.length_cons, List.length_nil, List.length_set] <;> omega) | decide, ?_⟩ | refine .inr ⟨by first | assumption | omega | with_reducible rfl | (refine fun h => h ?_; first | assumption | with_reducible rfl) | (simp only [List.length_append, List.length_cons, List.length_nil, List.length_set] <;> omega) | decide, ?_⟩) | ((first | refine WPA.ifBt ?_ ?_ | refine WPA.ifBnf ?_ ?_); assumption) | ((first | refine WPA.ifBnt ?_ ?_ | refine WPA.ifBf ?_ ?_); assumption) | ((first | refine WPA.ifs ?_ ?_ | refine WPA.ifB ?_ ?_) <;> intro hc) | ((fail_if_success (guard_target =~ WLA _ _ _ _ _ _ (put1 _ _ (.bool true)) _)); (fail_if_success (guard_target =~ WLA _ _ _ _ _ _ (put1 _ _ (.bool false)) _)); (first | refine WLA.both rfl rfl ?_ ?_ | refine WLA.bothB rfl rfl ?_ ?_) <;> intro hg) | (guard_target =~ WPA _ _ _ (.region 6 _ true) _ _ _; refine WPA.drawT 35 (.q 0 (.q 1 (.q 2 (.q 3 (.q 4 (.q 5 (.q 6 (.q 7 (.q 8 (.q 9 (.q 10 (.q 11 (.q 12 (.q 13 (.q 14 (.q 15 (.q 16 (.q 17 (.q 18 (.q 19 (.q 20 (.q 21 (.q 22 (.q 23 (.q 24 (.q 25 (.q 26 (.q 27 (.q 28 (.q 29 (.q 30 (.q 31 (.q 32 (.q 33 (.q 34 .fin))))))))))))))))))))))))))))))))))) mixed ?_ ?_; kernel_rfl) | (refine WDA.finish (tl := [⟨_, _, _, _, _, _⟩, ⟨_, _, _, _, _, _⟩, ⟨_, _, _, _, _, _⟩]) rfl ?_) | (refine WDQ.see rfl ?_) | (guard_target =~ WDQ _ _ _ _ _ _ _ ⟨_, .call ⟨.value (.func 53), _, _⟩, _, _, _, _⟩ _ _ _; refine WDQ.cq rfl rfl (Ints_tr (by assumption)) ?_) | ((first | refine WDQ.both rfl rfl ?_ ?_) <;> intro hg))
      refine QQ.end_ rfl () (congrArg Value.bool (decide_eq_true ?_).symm) fun w h => h
      rw [List.take_of_length_le (by simp [enV]; omega), List.take_of_length_le (by simp [enV]; omega)] at he
      exact he
  · have hl' : (xs.length : Int) ≠ ys.length := by omega
    repeat' (first | ((first | refine WLA.m rfl rfl ?_ ?_ | refine WLA.st rfl ?_ ?_ | refine WLA.x rfl rfl ?_ (fun x => ?_) | refine WLA.x0 rfl ?_ (fun x => ?_)); first | exact trivial | exact rfl | assumption | omega | (refine ⟨?_, ?_⟩ <;> omega) | (simp only [Room, List.length_set, List.length_append, List.length_cons, List.length_nil, List.length_replicate]; omega) | decide | skip) | (refine Stp.go ?_) | (refine WPA.ifT ?_) | (refine WPA.ifF ?_) | ((first | refine WPA.dec ?_); first | refine .inl ⟨by first | assumption | omega | with_reducible rfl | (refine fun h => h ?_; first | assumption | with_reducible rfl) | (simp only [List.length_append, List.length_cons, List.length_nil, List.length_set] <;> omega) | decide, ?_⟩ | refine .inr ⟨by first | assumption | omega | with_reducible rfl | (refine fun h => h ?_; first | assumption | with_reducible rfl) | (simp only [List.length_append, List.length_cons, List.length_nil, List.length_set] <;> omega) | decide, ?_⟩) | ((first | refine WPA.ifBt ?_ ?_ | refine WPA.ifBnf ?_ ?_); assumption) | ((first | refine WPA.ifBnt ?_ ?_ | refine WPA.ifBf ?_ ?_); assumption) | ((first | refine WPA.ifs ?_ ?_ | refine WPA.ifB ?_ ?_) <;> intro hc))
    exact QQ.end_ rfl () (congrArg Value.bool (decide_eq_false fun e => hl2 (by have := congrArg List.length e; simpa [enV] using this)).symm) fun w h => h
end
end Go.Proofs.Ytcomkdndddkbeaa
namespace Go.Fw
open Go Go.RowKit
set_option linter.unusedVariables false
theorem RowH.perm {α : Type} [Enc α] {e : TypeId} {l l' : List (SV × List α)} (h : l.Perm l') : ∀ {L : List HP}, Ent (RowH e (l.map Prod.fst) (l.map Prod.snd) :: L) (RowH e (l'.map Prod.fst) (l'.map Prod.snd) :: L) := by
  induction h with
  | nil => exact Ent.refl
  | cons x _ ih =>
    intro L
    simp only [List.map_cons, RowH]
    exact Ent.unstar.trans ((Ent.cons ih).trans (Ent.star Ent.refl))
  | swap x y l =>
    intro L
    simp only [List.map_cons, RowH]
    exact Ent.unstar.trans ((Ent.cons Ent.unstar).trans (Ent.swap.trans ((Ent.cons (Ent.star Ent.refl)).trans (Ent.star Ent.refl))))
  | trans _ _ i1 i2 => exact i1.trans i2
theorem Tr.ap {P : Program} {f : FuncId} {args : Array Value} {A : World → Prop} {τ : Type} {val : τ → Value} {B : τ → World → Prop} (h : Tr P f args A val B) {w : World} (hw : A w) : Calls P f args w fun e w' => ∃ x, e = .returned (val x) ∧ B x w' := h w hw
theorem Tr.mk {P : Program} {f : FuncId} {args : Array Value} {A : World → Prop} {τ : Type} {val : τ → Value} {B : τ → World → Prop} (h : ∀ w, A w → Calls P f args w fun e w' => ∃ x, e = .returned (val x) ∧ B x w') : Tr P f args A val B := h
end Go.Fw
namespace Go.Proofs.Ytcomkdndddkbeaa
open Go Go.Fw Go.RowKit
set_option linter.unusedVariables false
set_option linter.unusedSimpArgs false
set_option maxRecDepth 100000
set_option maxHeartbeats 16000000
set_option synthInstance.maxHeartbeats 200000
set_option synthInstance.maxSize 100000
attribute [local irreducible] WPA WLA WDA WDQ WDE QQ seqQ blockQ loopQ fnQ OpP OpT Tr TrP SL SLd OwnS LitS Bk BkE Ob
section
structure MdR (I : Foot) (kg : SV → List Int) (re : SV → List En) (w g : SV) (ws : List ByteArray) (gr : List SV) : Prop where
  words : SlI I w ByteArray inferInstance ws
  grams : SlI I g SV inferInstance gr
  rows : ∀ h ∈ gr, SlI I h En inferInstance (re h)
  elems : ∀ h ∈ gr, EnG I kg (re h)
  wsz : ∀ s ∈ ws, s.size ≤ 140737488351232
end
section
def FewP (kg : SV → List Int) (re : SV → List En) (ws : List ByteArray) (gr : List SV) : Prop := (ws.length ≤ 30 ∧ gr.length ≤ 10) ∧ ∀ h ∈ gr, (re h).length ≤ 100 ∧ ∀ p ∈ re h, (kg p.1).length ≤ 12
end
section
theorem MdR.few {I : Foot} {kg : SV → List Int} {re : SV → List En} {w g : SV} {ws : List ByteArray} {gr : List SV} (h : MdR I kg re w g ws gr) (f : FewP kg re ws gr) : MdI I kg re w g ws gr :=
  ⟨h.words, h.grams, h.rows, h.elems, h.wsz, by have := f.1.1; omega, by have := f.1.2; omega, fun x hx => by have := (f.2 x hx).1; omega, fun x hx p hp => by have := (f.2 x hx).2 p hp; omega⟩
end
section
variable {kg : SV → List Int} {re : SV → List En} {L : List HP} {w0 : World} {I : Foot}
theorem Small_tr31 {fr : Int} {w g : SV} {ws : List ByteArray} {gr : List SV} (hM : MdR I kg re w g ws gr) :
    Tr Try.prog 6 #[.agg #[.int .i64 fr, .slice w.a w.n w.cap, .slice g.a g.n g.cap]] (SL w0 I L) (fun b : { b : Bool // b = true → FewP kg re ws gr } => .bool b.1) (fun _ => SL w0 I L) := by
  refine Tr.intro Try.func6 rfl Try.ntmps6 rfl ?_
  obtain ⟨hW, hg, hR, hE, hz⟩ := hM
  by_cases h1 : (30 : Int) < ws.length
  · skip
    repeat' (first | ((first | refine WLA.m rfl rfl ?_ ?_ | refine WLA.st rfl ?_ ?_ | refine WLA.x rfl rfl ?_ (fun x => ?_) | refine WLA.x0 rfl ?_ (fun x => ?_)); first | exact trivial | exact rfl | assumption | omega | (refine ⟨?_, ?_⟩ <;> omega) | (simp only [Room, List.length_set, List.length_append, List.length_cons, List.length_nil, List.length_replicate]; omega) | decide | skip) | (refine Stp.go ?_) | (refine WPA.ifT ?_) | (refine WPA.ifF ?_) | (refine WLA.no rfl rfl ?_) | ((first | refine WPA.dec ?_ | ((fail_if_success (guard_target =~ WLA _ _ _ _ _ _ (put1 _ _ (.bool true)) _)); (fail_if_success (guard_target =~ WLA _ _ _ _ _ _ (put1 _ _ (.bool false)) _)); refine WLA.dec rfl rfl ?_) | refine WLA.pk ?_); first | refine .inl ⟨by first | assumption | omega | with_reducible rfl | (refine fun h => h ?_; first | assumption | with_reducible rfl) | (simp only [List.length_append, List.length_cons, List.length_nil, List.length_set] <;> omega) | decide, ?_⟩ | refine .inr ⟨by first | assumption | omega | with_reducible rfl | (refine fun h => h ?_; first | assumption | with_reducible rfl) | (simp only [List.length_append, List.length_cons, List.length_nil, List.length_set] <;> omega) | decide, ?_⟩) | ((first | refine WPA.ifBt ?_ ?_ | refine WPA.ifBnf ?_ ?_); assumption) | ((first | refine WPA.ifBnt ?_ ?_ | refine WPA.ifBf ?_ ?_); assumption) | ((first | refine WPA.ifs ?_ ?_ | refine WPA.ifB ?_ ?_) <;> intro hc) | ((fail_if_success (guard_target =~ WLA _ _ _ _ _ _ (put1 _ _ (.bool true)) _)); (fail_if_success (guard_target =~ WLA _ _ _ _ _ _ (put1 _ _ (.bool false)) _)); (first | refine WLA.both rfl rfl ?_ ?_ | refine WLA.bothB rfl rfl ?_ ?_) <;> intro hg))
    exact QQ.end_ rfl ⟨false, by simp⟩ rfl fun w h => h.to
  by_cases h2 : (10 : Int) < gr.length
  · skip
    repeat' (first | ((first | refine WLA.m rfl rfl ?_ ?_ | refine WLA.st rfl ?_ ?_ | refine WLA.x rfl rfl ?_ (fun x => ?_) | refine WLA.x0 rfl ?_ (fun x => ?_)); first | exact trivial | exact rfl | assumption | omega | (refine ⟨?_, ?_⟩ <;> omega) | (simp only [Room, List.length_set, List.length_append, List.length_cons, List.length_nil, List.length_replicate]; omega) | decide | skip) | (refine Stp.go ?_) | (refine WPA.ifT ?_) | (refine WPA.ifF ?_) | (refine WLA.no rfl rfl ?_) | ((first | refine WPA.dec ?_ | ((fail_if_success (guard_target =~ WLA _ _ _ _ _ _ (put1 _ _ (.bool true)) _)); (fail_if_success (guard_target =~ WLA _ _ _ _ _ _ (put1 _ _ (.bool false)) _)); refine WLA.dec rfl rfl ?_) | refine WLA.pk ?_); first | refine .inl ⟨by first | assumption | omega | with_reducible rfl | (refine fun h => h ?_; first | assumption | with_reducible rfl) | (simp only [List.length_append, List.length_cons, List.length_nil, List.length_set] <;> omega) | decide, ?_⟩ | refine .inr ⟨by first | assumption | omega | with_reducible rfl | (refine fun h => h ?_; first | assumption | with_reducible rfl) | (simp only [List.length_append, List.length_cons, List.length_nil, List.length_set] <;> omega) | decide, ?_⟩) | ((first | refine WPA.ifBt ?_ ?_ | refine WPA.ifBnf ?_ ?_); assumption) | ((first | refine WPA.ifBnt ?_ ?_ | refine WPA.ifBf ?_ ?_); assumption) | ((first | refine WPA.ifs ?_ ?_ | refine WPA.ifB ?_ ?_) <;> intro hc) | ((fail_if_success (guard_target =~ WLA _ _ _ _ _ _ (put1 _ _ (.bool true)) _)); (fail_if_success (guard_target =~ WLA _ _ _ _ _ _ (put1 _ _ (.bool false)) _)); (first | refine WLA.both rfl rfl ?_ ?_ | refine WLA.bothB rfl rfl ?_ ?_) <;> intro hg))
    exact QQ.end_ rfl ⟨false, by simp⟩ rfl fun w h => h.to
  repeat' (first | ((first | refine WLA.m rfl rfl ?_ ?_ | refine WLA.st rfl ?_ ?_ | refine WLA.x rfl rfl ?_ (fun x => ?_) | refine WLA.x0 rfl ?_ (fun x => ?_)); first | exact trivial | exact rfl | assumption | omega | (refine ⟨?_, ?_⟩ <;> omega) | (simp only [Room, List.length_set, List.length_append, List.length_cons, List.length_nil, List.length_replicate]; omega) | decide | skip) | (refine Stp.go ?_) | (refine WPA.ifT ?_) | (refine WPA.ifF ?_) | (refine WLA.no rfl rfl ?_) | ((first | refine WPA.dec ?_ | ((fail_if_success (guard_target =~ WLA _ _ _ _ _ _ (put1 _ _ (.bool true)) _)); (fail_if_success (guard_target =~ WLA _ _ _ _ _ _ (put1 _ _ (.bool false)) _)); refine WLA.dec rfl rfl ?_) | refine WLA.pk ?_); first | refine .inl ⟨by first | assumption | omega | with_reducible rfl | (refine fun h => h ?_; first | assumption | with_reducible rfl) | (simp only [List.length_append, List.length_cons, List.length_nil, List.length_set] <;> omega) | decide, ?_⟩ | refine .inr ⟨by first | assumption | omega | with_reducible rfl | (refine fun h => h ?_; first | assumption | with_reducible rfl) | (simp only [List.length_append, List.length_cons, List.length_nil, List.length_set] <;> omega) | decide, ?_⟩) | ((first | refine WPA.ifBt ?_ ?_ | refine WPA.ifBnf ?_ ?_); assumption) | ((first | refine WPA.ifBnt ?_ ?_ | refine WPA.ifBf ?_ ?_); assumption) | ((first | refine WPA.ifs ?_ ?_ | refine WPA.ifB ?_ ?_) <;> intro hc) | ((fail_if_success (guard_target =~ WLA _ _ _ _ _ _ (put1 _ _ (.bool true)) _)); (fail_if_success (guard_target =~ WLA _ _ _ _ _ _ (put1 _ _ (.bool false)) _)); (first | refine WLA.both rfl rfl ?_ ?_ | refine WLA.bothB rfl rfl ?_ ?_) <;> intro hg))
  revert x; intro t1
  refine WPA.loopS (σ := Nat × Nat) (fun y => [(1, .pointer (some ⟨t1, 0, none⟩)), (3, .int .i64 y.2), (4, .int .i64 y.1)]) (fun y => (y.1 ≤ gr.length ∧ y.2 ≤ 100 * y.1) ∧ ∀ h ∈ gr.take y.1, (re h).length ≤ 100 ∧ ∀ p ∈ re h, (kg p.1).length ≤ 12)
    (fun _ => SL w0 I (Bk t1 25 [.int .i64 fr, .slice w.a w.n w.cap, .slice g.a g.n g.cap] :: L)) (fun y => gr.length - y.1) (0, 0) ⟨rfl, rfl, rfl, trivial⟩ ⟨⟨Nat.zero_le _, Nat.zero_le _⟩, by simp⟩ (fun w h => h.to) ?_
  rintro ⟨k, n⟩ ρ ⟨⟨hk, hn⟩, hf⟩
  dsimp only at hk hn hf ⊢
  by_cases hkl : k < gr.length
  · have hkl' : (k : Int) < gr.length := by omega
    have hme : at_ gr (k : Int) ∈ gr := by rw [at_nat gr k hkl]; exact List.getElem_mem _
    have hRk := hR _ hme
    have hEk := hE _ hme
    have hnx : ∀ h ∈ gr.take (k + 1), h ∈ gr.take k ∨ h = at_ gr (k : Int) := by
      intro h hh
      rw [List.take_add_one, List.getElem?_eq_getElem hkl, ← at_nat gr k hkl] at hh
      rcases List.mem_append.1 hh with hh | hh
      · exact .inl hh
      · simp only [Option.toList_some, List.mem_singleton] at hh; exact .inr hh
    generalize hes : re (at_ gr (k : Int)) = es at hRk hEk
    by_cases h3 : (100 : Int) < es.length
    · skip
      repeat' (first | ((first | refine WLA.m rfl rfl ?_ ?_ | refine WLA.st rfl ?_ ?_ | refine WLA.x rfl rfl ?_ (fun x => ?_) | refine WLA.x0 rfl ?_ (fun x => ?_)); first | exact trivial | exact rfl | assumption | omega | (refine ⟨?_, ?_⟩ <;> omega) | (simp only [Room, List.length_set, List.length_append, List.length_cons, List.length_nil, List.length_replicate]; omega) | decide | skip) | (refine Stp.go ?_) | (refine WPA.ifT ?_) | (refine WPA.ifF ?_) | ((first | refine WPA.dec ?_); first | refine .inl ⟨by first | assumption | omega | with_reducible rfl | (refine fun h => h ?_; first | assumption | with_reducible rfl) | (simp only [List.length_append, List.length_cons, List.length_nil, List.length_set] <;> omega) | decide, ?_⟩ | refine .inr ⟨by first | assumption | omega | with_reducible rfl | (refine fun h => h ?_; first | assumption | with_reducible rfl) | (simp only [List.length_append, List.length_cons, List.length_nil, List.length_set] <;> omega) | decide, ?_⟩) | ((first | refine WPA.ifBt ?_ ?_ | refine WPA.ifBnf ?_ ?_); assumption) | ((first | refine WPA.ifBnt ?_ ?_ | refine WPA.ifBf ?_ ?_); assumption) | ((first | refine WPA.ifs ?_ ?_ | refine WPA.ifB ?_ ?_) <;> intro hc))
      exact QQ.end_ rfl ⟨false, by simp⟩ rfl fun w h => h.to
    · have hsm : -9223372036854775808 ≤ (n : Int) + es.length ∧ (n : Int) + es.length ≤ 9223372036854775807 := by omega
      repeat' (first | ((first | refine WLA.m rfl rfl ?_ ?_ | refine WLA.st rfl ?_ ?_ | refine WLA.x rfl rfl ?_ (fun x => ?_) | refine WLA.x0 rfl ?_ (fun x => ?_)); first | exact trivial | exact rfl | assumption | omega | (refine ⟨?_, ?_⟩ <;> omega) | (simp only [Room, List.length_set, List.length_append, List.length_cons, List.length_nil, List.length_replicate]; omega) | decide | skip) | (refine Stp.go ?_) | (refine WPA.ifT ?_) | (refine WPA.ifF ?_) | ((first | refine WPA.dec ?_); first | refine .inl ⟨by first | assumption | omega | with_reducible rfl | (refine fun h => h ?_; first | assumption | with_reducible rfl) | (simp only [List.length_append, List.length_cons, List.length_nil, List.length_set] <;> omega) | decide, ?_⟩ | refine .inr ⟨by first | assumption | omega | with_reducible rfl | (refine fun h => h ?_; first | assumption | with_reducible rfl) | (simp only [List.length_append, List.length_cons, List.length_nil, List.length_set] <;> omega) | decide, ?_⟩) | ((first | refine WPA.ifBt ?_ ?_ | refine WPA.ifBnf ?_ ?_); assumption) | ((first | refine WPA.ifBnt ?_ ?_ | refine WPA.ifBf ?_ ?_); assumption) | ((first | refine WPA.ifs ?_ ?_ | refine WPA.ifB ?_ ?_) <;> intro hc))
      refine WPA.loopS (σ := Nat) (fun i => [(1, .pointer (some ⟨t1, 0, none⟩)), (3, .int .i64 ((n : Int) + es.length)), (4, .int .i64 k), (5, .int .i64 i)]) (fun i => i ≤ es.length ∧ ∀ p ∈ es.take i, (kg p.1).length ≤ 12)
        (fun _ => SL w0 I (Bk t1 25 [.int .i64 fr, .slice w.a w.n w.cap, .slice g.a g.n g.cap] :: L)) (fun i => es.length - i) 0 ⟨rfl, rfl, rfl, rfl, trivial⟩ ⟨Nat.zero_le _, by simp⟩ (fun w h => h.to) ?_
      rintro i ρ2 ⟨hi, hfi⟩
      by_cases hil : i < es.length
      · have hil' : (i : Int) < es.length := by omega
        have hxg := hEk.at hil
        by_cases h4 : (12 : Int) < (kg (at_ es (i : Int)).1).length
        · skip
          repeat' (first | ((first | refine WLA.m rfl rfl ?_ ?_ | refine WLA.st rfl ?_ ?_ | refine WLA.x rfl rfl ?_ (fun x => ?_) | refine WLA.x0 rfl ?_ (fun x => ?_)); first | exact trivial | exact rfl | assumption | omega | (refine ⟨?_, ?_⟩ <;> omega) | (simp only [Room, List.length_set, List.length_append, List.length_cons, List.length_nil, List.length_replicate]; omega) | decide | skip) | (refine Stp.go ?_) | (refine WPA.ifT ?_) | (refine WPA.ifF ?_) | ((first | refine WPA.dec ?_); first | refine .inl ⟨by first | assumption | omega | with_reducible rfl | (refine fun h => h ?_; first | assumption | with_reducible rfl) | (simp only [List.length_append, List.length_cons, List.length_nil, List.length_set] <;> omega) | decide, ?_⟩ | refine .inr ⟨by first | assumption | omega | with_reducible rfl | (refine fun h => h ?_; first | assumption | with_reducible rfl) | (simp only [List.length_append, List.length_cons, List.length_nil, List.length_set] <;> omega) | decide, ?_⟩) | ((first | refine WPA.ifBt ?_ ?_ | refine WPA.ifBnf ?_ ?_); assumption) | ((first | refine WPA.ifBnt ?_ ?_ | refine WPA.ifBf ?_ ?_); assumption) | ((first | refine WPA.ifs ?_ ?_ | refine WPA.ifB ?_ ?_) <;> intro hc))
          exact QQ.end_ rfl ⟨false, by simp⟩ rfl fun w h => h.to
        · skip
          repeat' (first | ((first | refine WLA.m rfl rfl ?_ ?_ | refine WLA.st rfl ?_ ?_ | refine WLA.x rfl rfl ?_ (fun x => ?_) | refine WLA.x0 rfl ?_ (fun x => ?_)); first | exact trivial | exact rfl | assumption | omega | (refine ⟨?_, ?_⟩ <;> omega) | (simp only [Room, List.length_set, List.length_append, List.length_cons, List.length_nil, List.length_replicate]; omega) | decide | skip) | (refine Stp.go ?_) | (refine WPA.ifT ?_) | (refine WPA.ifF ?_) | ((first | refine WPA.dec ?_); first | refine .inl ⟨by first | assumption | omega | with_reducible rfl | (refine fun h => h ?_; first | assumption | with_reducible rfl) | (simp only [List.length_append, List.length_cons, List.length_nil, List.length_set] <;> omega) | decide, ?_⟩ | refine .inr ⟨by first | assumption | omega | with_reducible rfl | (refine fun h => h ?_; first | assumption | with_reducible rfl) | (simp only [List.length_append, List.length_cons, List.length_nil, List.length_set] <;> omega) | decide, ?_⟩) | ((first | refine WPA.ifBt ?_ ?_ | refine WPA.ifBnf ?_ ?_); assumption) | ((first | refine WPA.ifBnt ?_ ?_ | refine WPA.ifBf ?_ ?_); assumption) | ((first | refine WPA.ifs ?_ ?_ | refine WPA.ifB ?_ ?_) <;> intro hc))
          refine QQ.loopS (i + 1) ⟨rfl, rfl, rfl, rfl, trivial⟩ ⟨hil, ?_⟩ (by omega) (fun w h => h.to)
          intro p hp
          rw [List.take_add_one, List.getElem?_eq_getElem hil, ← at_nat es i hil] at hp
          rcases List.mem_append.1 hp with hp | hp
          · exact hfi p hp
          · simp only [Option.toList_some, List.mem_singleton] at hp; subst hp; omega
      · have hil' : ¬ (i : Int) < es.length := by omega
        rw [List.take_of_length_le (by omega)] at hfi
        repeat' (first | ((first | refine WLA.m rfl rfl ?_ ?_ | refine WLA.st rfl ?_ ?_ | refine WLA.x rfl rfl ?_ (fun x => ?_) | refine WLA.x0 rfl ?_ (fun x => ?_)); first | exact trivial | exact rfl | assumption | omega | (refine ⟨?_, ?_⟩ <;> omega) | (simp only [Room, List.length_set, List.length_append, List.length_cons, List.length_nil, List.length_replicate]; omega) | decide | skip) | (refine Stp.go ?_) | (refine WPA.ifT ?_) | (refine WPA.ifF ?_) | ((first | refine WPA.dec ?_); first | refine .inl ⟨by first | assumption | omega | with_reducible rfl | (refine fun h => h ?_; first | assumption | with_reducible rfl) | (simp only [List.length_append, List.length_cons, List.length_nil, List.length_set] <;> omega) | decide, ?_⟩ | refine .inr ⟨by first | assumption | omega | with_reducible rfl | (refine fun h => h ?_; first | assumption | with_reducible rfl) | (simp only [List.length_append, List.length_cons, List.length_nil, List.length_set] <;> omega) | decide, ?_⟩) | ((first | refine WPA.ifBt ?_ ?_ | refine WPA.ifBnf ?_ ?_); assumption) | ((first | refine WPA.ifBnt ?_ ?_ | refine WPA.ifBf ?_ ?_); assumption) | ((first | refine WPA.ifs ?_ ?_ | refine WPA.ifB ?_ ?_) <;> intro hc))
        refine QQ.loopS (k + 1, n + es.length) ⟨rfl, rfl, rfl, trivial⟩ ⟨⟨hkl, by dsimp only; omega⟩, fun h hh => ?_⟩ (by dsimp only; omega) (fun w h => h.to)
        rcases hnx h hh with hh | rfl
        · exact hf h hh
        · rw [hes]; exact ⟨by omega, hfi⟩
  · have hkl' : ¬ (k : Int) < gr.length := by omega
    rw [List.take_of_length_le (by omega)] at hf
    repeat' ((fail_if_success (guard_target =~ WPA _ _ _ (.region 15 _ _) _ _ _)); first | ((first | refine WLA.m rfl rfl ?_ ?_ | refine WLA.st rfl ?_ ?_ | refine WLA.x rfl rfl ?_ (fun x => ?_) | refine WLA.x0 rfl ?_ (fun x => ?_)); first | exact trivial | exact rfl | assumption | omega | (refine ⟨?_, ?_⟩ <;> omega) | (simp only [Room, List.length_set, List.length_append, List.length_cons, List.length_nil, List.length_replicate]; omega) | decide | skip) | (refine Stp.go ?_) | (refine WPA.ifT ?_) | (refine WPA.ifF ?_) | ((first | refine WPA.dec ?_); first | refine .inl ⟨by first | assumption | omega | with_reducible rfl | (refine fun h => h ?_; first | assumption | with_reducible rfl) | (simp only [List.length_append, List.length_cons, List.length_nil, List.length_set] <;> omega) | decide, ?_⟩ | refine .inr ⟨by first | assumption | omega | with_reducible rfl | (refine fun h => h ?_; first | assumption | with_reducible rfl) | (simp only [List.length_append, List.length_cons, List.length_nil, List.length_set] <;> omega) | decide, ?_⟩) | ((first | refine WPA.ifBt ?_ ?_ | refine WPA.ifBnf ?_ ?_); assumption) | ((first | refine WPA.ifBnt ?_ ?_ | refine WPA.ifBf ?_ ?_); assumption) | ((first | refine WPA.ifs ?_ ?_ | refine WPA.ifB ?_ ?_) <;> intro hc))
    repeat' (first | ((first | refine WLA.m rfl rfl ?_ ?_ | refine WLA.st rfl ?_ ?_ | refine WLA.x rfl rfl ?_ (fun x => ?_) | refine WLA.x0 rfl ?_ (fun x => ?_)); first | exact trivial | exact rfl | assumption | omega | (refine ⟨?_, ?_⟩ <;> omega) | (simp only [Room, List.length_set, List.length_append, List.length_cons, List.length_nil, List.length_replicate]; omega) | decide | skip) | (refine Stp.go ?_) | (refine WPA.ifT ?_) | (refine WPA.ifF ?_) | ((first | refine WPA.dec ?_); first | refine .inl ⟨by first | assumption | omega | with_reducible rfl | (refine fun h => h ?_; first | assumption | with_reducible rfl) | (simp only [List.length_append, List.length_cons, List.length_nil, List.length_set] <;> omega) | decide, ?_⟩ | refine .inr ⟨by first | assumption | omega | with_reducible rfl | (refine fun h => h ?_; first | assumption | with_reducible rfl) | (simp only [List.length_append, List.length_cons, List.length_nil, List.length_set] <;> omega) | decide, ?_⟩) | ((first | refine WPA.ifBt ?_ ?_ | refine WPA.ifBnf ?_ ?_); assumption) | ((first | refine WPA.ifBnt ?_ ?_ | refine WPA.ifBf ?_ ?_); assumption) | ((first | refine WPA.ifs ?_ ?_ | refine WPA.ifB ?_ ?_) <;> intro hc))
    exact QQ.end_ rfl ⟨decide ((n : Int) ≤ 200), fun _ => ⟨⟨by omega, by omega⟩, hf⟩⟩ rfl fun w h => h.to
end
section
theorem mdR_all {W : World} {w g : SV} (hw : gSl gStr 16 W w) (hg : gSl (gSl (gPair (gSl gInt 8) (gPair gInt gInt)) 40) 24 W g) : ∃ (ws : List ByteArray) (gr : List SV), MdR (allB W) (rd Int (allB W)) (rd En (allB W)) w g ws gr := by
  obtain ⟨ws, a1, a2, a3⟩ := hw
  obtain ⟨gr, b1, b2, b3⟩ := hg
  refine ⟨ws, gr, SlI.all a1, SlI.all b1, fun h hm => ?_, fun h hm p hp => ?_, fun s hs => ?_⟩
  · obtain ⟨es, c1, c2, c3⟩ := b2 h hm
    exact (SlI.all c1).rd
  · obtain ⟨es, c1, c2, c3⟩ := b2 h hm
    have e : rd En (allB W) h = es := (SlI.all c1).rd.det (SlI.all c1) (SL.all W)
    rw [e] at hp
    obtain ⟨xs, q1, q2, q3⟩ := (c2 p hp).1
    exact (SlI.all q1).rd
  · have := a2 s hs; unfold gStr at this; omega
end
section
theorem rise_id {a : Nat → Int} {n : Nat} (h1 : ∀ i, i < n → 0 ≤ a i ∧ a i < n) (h2 : ∀ i, i + 1 < n → a i < a (i + 1)) : ∀ i, i < n → a i = i := by
  have lo : ∀ i, i < n → (i : Int) ≤ a i := by
    intro i
    induction i with
    | zero => intro h; exact (h1 0 h).1
    | succ i ih => intro h; have := ih (by omega); have := h2 i h; omega
  have hi : ∀ d i, i + d < n → a i + d ≤ a (i + d) := by
    intro d
    induction d with
    | zero => intro i h; simp
    | succ d ih => intro i h; have := ih i (by omega); have := h2 (i + d) (by omega); rw [show i + (d + 1) = i + d + 1 by omega]; omega
  intro i h
  have h3 := hi (n - 1 - i) i (by omega)
  have h4 := (h1 (i + (n - 1 - i)) (by omega)).2
  have h5 := lo i h
  omega
end
section
theorem entE_code {xs : List Int} {p b n words : Int} {last : Bool} (h : entE xs p b n words last = 0) : CodeP p ∧ CodeP b := by
  unfold entE at h
  split at h
  · cases h
  split at h
  · cases h
  split at h
  · cases h
  split at h
  · cases h
  · rename_i h4
    exact Classical.byContradiction h4
end
section
theorem chkM_zero {kg : SV → List Int} {re : SV → List En} {fr : Int} {ws : List ByteArray} {gr : List SV} (h : chkM kg re fr ws gr = 0) : 1 ≤ gr.length ∧ (∀ x ∈ gr, RisE kg (re x)) ∧ CodesP re gr := by
  unfold chkM at h
  split at h
  · cases h
  · rename_i h1
    split at h
    · contradiction
    · have hk : ∀ k : Nat, k < gr.length → ∀ i : Nat, i < (re (at_ gr (k : Int))).length → chkE kg ws.length (decide ((k : Int) = (gr.length : Int) - 1)) k (re (at_ gr (k : Int))) (re (at_ gr ((k : Int) - 1))) i = 0 := by
        intro k hk
        have hz := firstN_zero h k hk
        unfold chkL chkLs at hz
        split at hz
        · contradiction
        · rename_i hf
          exact firstN_zero (Classical.byContradiction hf)
      have hat : ∀ x ∈ gr, ∃ k : Nat, k < gr.length ∧ at_ gr (k : Int) = x := by
        intro x hx
        obtain ⟨k, hk, e⟩ := List.getElem_of_mem hx
        exact ⟨k, hk, by rw [at_nat gr k hk, e]⟩
      refine ⟨Nat.le_of_not_lt fun h2 => h1 (.inr (.inr (.inl h2))), fun x hx => ?_, fun x hx p hp => ?_⟩
      · obtain ⟨k, hk1, rfl⟩ := hat x hx
        exact ris_chk (hk k hk1)
      · obtain ⟨k, hk1, rfl⟩ := hat x hx
        obtain ⟨i, hi, rfl⟩ := List.getElem_of_mem hp
        have := (chkE_gram (hk k hk1 i hi)).1
        rw [at_nat _ i hi] at this
        exact entE_code this
end
section
theorem entE_gram {xs : List Int} {p b n words : Int} {last : Bool} (h : entE xs p b n words last = 0) : (xs.length : Int) = n ∧ ¬ BadW words xs := by
  unfold entE at h
  split at h
  · cases h
  · rename_i h1
    split at h
    · cases h
    · rename_i h2
      exact ⟨Classical.byContradiction h1, h2⟩
end
section
theorem chkM_words {kg : SV → List Int} {re : SV → List En} {fr : Int} {ws : List ByteArray} {gr : List SV} (h : chkM kg re fr ws gr = 0) :
    (∀ k : Nat, k < gr.length → ∀ p ∈ re (at_ gr (k : Int)), (kg p.1).length = k + 1) ∧ (re (at_ gr 0)).length = ws.length ∧ ∀ i : Nat, i < ws.length → kg (at_ (re (at_ gr 0)) (i : Int)).1 = [(i : Int)] := by
  obtain ⟨g1, -, -⟩ := chkM_zero h
  unfold chkM at h
  split at h
  · cases h
  split at h
  · contradiction
  have hk : ∀ k : Nat, k < gr.length → (∀ i : Nat, i < (re (at_ gr (k : Int))).length → chkE kg ws.length (decide ((k : Int) = (gr.length : Int) - 1)) k (re (at_ gr (k : Int))) (re (at_ gr ((k : Int) - 1))) i = 0) ∧ (k = 0 → (re (at_ gr (k : Int))).length = ws.length) := by
    intro k hk
    have hz := firstN_zero h k hk
    unfold chkL chkLs at hz
    split at hz
    · contradiction
    · rename_i hf
      refine ⟨firstN_zero (Classical.byContradiction hf), fun h0 => ?_⟩
      split at hz
      · cases hz
      · rename_i hn
        exact Classical.byContradiction fun hc => hn ⟨h0, hc⟩
  have e0 : (re (at_ gr 0)).length = ws.length := (hk 0 (by omega)).2 rfl
  have hg : ∀ k : Nat, k < gr.length → ∀ i : Nat, i < (re (at_ gr (k : Int))).length → (kg (at_ (re (at_ gr (k : Int))) (i : Int)).1).length = k + 1 ∧ ¬ BadW ws.length (kg (at_ (re (at_ gr (k : Int))) (i : Int)).1) := by
    intro k hk' i hi
    obtain ⟨q1, q2⟩ := entE_gram (chkE_gram ((hk k hk').1 i hi)).1
    exact ⟨by omega, q2⟩
  refine ⟨fun k hk' p hp => ?_, e0, ?_⟩
  · obtain ⟨i, hi, rfl⟩ := List.getElem_of_mem hp
    have := (hg k hk' i hi).1
    rwa [at_nat _ i hi] at this
  · have h0 : ∀ i : Nat, i < ws.length → ∃ v : Int, kg (at_ (re (at_ gr 0)) (i : Int)).1 = [v] ∧ 0 ≤ v ∧ v < ws.length := by
      intro i hi
      obtain ⟨q1, q2⟩ := hg 0 (by omega) i (by rw [show ((0 : Nat) : Int) = 0 from rfl, e0]; exact hi)
      rw [show ((0 : Nat) : Int) = 0 from rfl] at q1 q2
      obtain ⟨v, hv⟩ := List.length_eq_one_iff.1 q1
      refine ⟨v, hv, ?_⟩
      rw [hv] at q2
      have : ¬ (v < 0 ∨ (ws.length : Int) ≤ v) := fun hc => q2 ⟨v, List.mem_singleton.2 rfl, hc⟩
      omega
    have key := rise_id (a := fun i => (kg (at_ (re (at_ gr 0)) (i : Int)).1).headD 0) (n := ws.length) (fun i hi => by
      obtain ⟨v, hv, hb⟩ := h0 i hi
      simp only [hv, List.headD_cons]; exact hb) (fun i hi => by
      obtain ⟨v, hv, _⟩ := h0 i (by omega)
      obtain ⟨u, hu, _⟩ := h0 (i + 1) hi
      have hc := (chkE_gram ((hk 0 (by omega)).1 (i + 1) (by rw [show ((0 : Nat) : Int) = 0 from rfl, e0]; exact hi))).2.1 (by omega)
      rw [show ((0 : Nat) : Int) = 0 from rfl, show (((i + 1 : Nat) : Int) - 1) = (i : Int) by omega, hv, hu] at hc
      simp only [hv, hu, List.headD_cons]
      simp only [cmpL] at hc
      split at hc
      · assumption
      · split at hc
        · exact absurd hc (by decide)
        · exact absurd hc (by decide))
    intro i hi
    obtain ⟨v, hv, _⟩ := h0 i hi
    have := key i hi
    simp only [hv, List.headD_cons] at this
    rw [hv, this]
end
section
theorem chkM_fnd {kg : SV → List Int} {re : SV → List En} {fr : Int} {ws : List ByteArray} {gr : List SV} (h : chkM kg re fr ws gr = 0) {i : Nat} (hi : i < ws.length) :
    FndP kg re gr [(i : Int)] ∧ cdsG kg re gr [(i : Int)] = (at_ (re (at_ gr 0)) (i : Int)).2 := by
  obtain ⟨g1, g2, -⟩ := chkM_zero h
  obtain ⟨y1, y2, y3⟩ := chkM_words h
  have hm0 : at_ gr 0 ∈ gr := by rw [show (0 : Int) = ((0 : Nat) : Int) from rfl, at_nat gr 0 (by omega)]; exact List.getElem_mem _
  have e1 : (([(i : Int)] : List Int).length : Int) - 1 = 0 := rfl
  have hi2 : i < (re (at_ gr 0)).length := by omega
  refine ⟨⟨⟨by simp, by simpa using g1⟩, ?_⟩, ?_⟩
  · rw [e1]
    refine List.mem_map.2 ⟨at_ (re (at_ gr 0)) (i : Int), by rw [at_nat _ i hi2]; exact List.getElem_mem _, y3 i hi⟩
  · unfold cdsG entG
    rw [e1, hasN_uni (g2 _ hm0) hi2 (y3 i hi)]
end
end Go.Proofs.Ytcomkdndddkbeaa
