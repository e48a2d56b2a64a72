/- Texts that PruneStrong_law leans on, part 15. Conditions: none. -/
import Derived.Test.YtcomkdndddkbeaaPu14
namespace Go.Proofs.Ytcomkdndddkbeaa
open Go Go.Fw Go.RowKit
set_option linter.unusedVariables false
set_option linter.unusedSimpArgs false
set_option maxRecDepth 100000
set_option maxHeartbeats 16000000
set_option synthInstance.maxHeartbeats 200000
set_option synthInstance.maxSize 100000
attribute [local irreducible] WPA WLA WDA WDQ WDE QQ seqQ blockQ loopQ fnQ OpP OpT Tr TrP SL SLd OwnS LitS Bk BkE Ob
attribute [local irreducible] TblH VocH
section
variable {kg : SV → List Int} {re : SV → List En} {w0 : World}
theorem rProb_tr {fr w : Int} {wv g : SV} {ws : List ByteArray} {gr : List SV} (hS : ∀ h ∈ gr, RisE kg (re h)) (hC : CodesP re gr) (hg1 : 1 ≤ gr.length) :
    ∀ (n : Nat) {I : Foot} (_ : MdI I kg re wv g ws gr) {s : SV} {hs : List Int} {L : List HP} [hr : SlI I s Int inferInstance hs], hs.length < n → hs.length ≤ 1000 →
    Tr Try.prog 21 #[.agg #[.int .i64 fr, .slice wv.a wv.n wv.cap, .slice g.a g.n g.cap], .slice s.a s.n s.cap, .int .i64 w] (SL w0 I L) (fun _ : Unit => .int .i64 (prbN kg re gr w (truL gr.length hs))) (fun _ => SL w0 I L) := by
  intro n
  induction n with
  | zero =>
    intro I hM s hs L hr hn hl
    exact absurd hn (Nat.not_lt_zero _)
  | succ n ih =>
    intro I hM s hs L hr hn hl
    refine Tr.intro Try.func21 rfl Try.ntmps21 rfl ?_
    have hg := hM.grams
    have hgn := hM.gln
    by_cases ht : gr.length ≤ hs.length
    · have ht' : (gr.length : Int) ≤ hs.length := by omega
      have e : truL gr.length hs = hs.drop (hs.length - gr.length + 1) := if_pos ht
      have hrg : 0 ≤ (hs.length : Int) - gr.length + 1 ∧ (hs.length : Int) - gr.length + 1 ≤ hs.length := by omega
      have hcut : cutL hs ((hs.length : Int) - gr.length + 1) (hs.length : Int) = hs.drop (hs.length - gr.length + 1) := by
        have := cut_drop (l := hs) (i := hs.length - gr.length + 1) (by omega)
        rwa [show ((hs.length - gr.length + 1 : Nat) : Int) = (hs.length : Int) - gr.length + 1 by omega] at this
      have h0s : SlI I (s.cut 1 ((hs.length : Int) - gr.length + 1) (hs.length : Int)) Int inferInstance (hs.drop (hs.length - gr.length + 1)) := by
        have hci : SlI I (s.cut 1 ((hs.length : Int) - gr.length + 1) (hs.length : Int)) Int inferInstance (cutL hs ((hs.length : Int) - gr.length + 1) (hs.length : Int)) := inferInstance
        rwa [hcut] at hci
      have hdl : (hs.drop (hs.length - gr.length + 1)).length < n := by rw [List.length_drop]; omega
      have hdk : (hs.drop (hs.length - gr.length + 1)).length ≤ 1000 := by rw [List.length_drop]; omega
      have e2 : truL gr.length (hs.drop (hs.length - gr.length + 1)) = hs.drop (hs.length - gr.length + 1) := if_neg (by rw [List.length_drop]; omega)
      have ih2 := fun {L : List HP} => ih hM (s := s.cut 1 ((hs.length : Int) - gr.length + 1) (hs.length : Int)) (hs := hs.drop (hs.length - gr.length + 1)) (L := L) hdl hdk
      rw [e2] at ih2
      rw [e]
      repeat' (first | ((first | refine WLA.m rfl rfl ?_ ?_ | refine WDQ.m rfl rfl ?_ ?_ | refine WLA.st rfl ?_ ?_ | refine WLA.x rfl rfl ?_ (fun x => ?_) | refine WLA.x0 rfl ?_ (fun x => ?_)); first | exact trivial | exact rfl | assumption | omega | (refine ⟨?_, ?_⟩ <;> omega) | (simp only [Room, List.length_set, List.length_append, List.length_cons, List.length_nil, List.length_replicate]; omega) | decide | skip) | (refine Stp.go ?_) | (guard_target =~ WLA _ _ _ _ _ (⟨_, .call ⟨.value (.func 21), _, _⟩, _, _, _, _⟩ :: _) _ _; first | (refine WLA.call rfl rfl (ih2) ?_; rintro ⟨⟩) | (refine WLA.call0 rfl (ih2) ?_; rintro ⟨⟩)) | (refine WPA.ifT ?_) | (refine WPA.ifF ?_) | ((first | refine WPA.dec ?_); first | refine .inl ⟨by first | assumption | omega | with_reducible rfl | (refine fun h => h ?_; first | assumption | with_reducible rfl) | (simp only [List.length_append, List.length_cons, List.length_nil, List.length_set] <;> omega) | decide, ?_⟩ | refine .inr ⟨by first | assumption | omega | with_reducible rfl | (refine fun h => h ?_; first | assumption | with_reducible rfl) | (simp only [List.length_append, List.length_cons, List.length_nil, List.length_set] <;> omega) | decide, ?_⟩) | ((first | refine WPA.ifBt ?_ ?_ | refine WPA.ifBnf ?_ ?_); assumption) | ((first | refine WPA.ifBnt ?_ ?_ | refine WPA.ifBf ?_ ?_); assumption) | ((first | refine WPA.ifs ?_ ?_ | refine WPA.ifB ?_ ?_) <;> intro hc) | (guard_target =~ WPA _ _ _ (.region 2 _ true) _ _ _; refine WPA.drawT 11 (.q 0 (.q 1 (.q 2 (.q 3 (.q 4 (.q 5 (.q 6 (.q 7 (.q 8 (.q 9 (.q 10 .fin))))))))))) mixed ?_ ?_; kernel_rfl) | (refine WDA.finish (tl := [⟨_, _, _, _, _, _⟩, ⟨_, _, _, _, _, _⟩]) rfl ?_) | (refine WDQ.see rfl ?_) | (guard_target =~ WDE _ _ _ _ _ _ _ ⟨_, .call ⟨.value (.func 21), _, _⟩, _, _, _, _⟩ _ _ _; refine WDE.call rfl rfl (ih2) ?_ ?_; (intro x w h; first | exact h | exact Ent.drop1.sl h | exact SL.unI h | exact SL.to h); rintro ⟨⟩) | (guard_target =~ WDW _ _ _ _ _ _ _ ⟨_, .call ⟨.value (.func 21), _, _⟩, _, _, _, _⟩ _ _ _; refine WDW.call rfl rfl (ih2) ?_; rintro ⟨⟩))
      all_goals exact QQ.end_ rfl () rfl fun w h => h.to
    · have ht' : ¬ (gr.length : Int) ≤ hs.length := by omega
      have e : truL gr.length hs = hs := if_neg ht
      rw [e]
      have hlw : (hs ++ [w]).length ≤ 1000000 := by rw [List.length_append, List.length_singleton]; omega
      repeat' ((fail_if_success (guard_target =~ WPA _ _ _ (.region 1 _ _) _ _ _)); first | ((first | refine WLA.m rfl rfl ?_ ?_ | refine WLA.st rfl ?_ ?_ | refine WLA.x rfl rfl ?_ (fun x => ?_) | refine WLA.x0 rfl ?_ (fun x => ?_)); first | exact trivial | exact rfl | assumption | omega | (refine ⟨?_, ?_⟩ <;> omega) | (simp only [Room, List.length_set, List.length_append, List.length_cons, List.length_nil, List.length_replicate]; omega) | decide | skip) | (refine Stp.go ?_) | (refine WPA.ifT ?_) | (refine WPA.ifF ?_) | ((first | refine WPA.dec ?_); first | refine .inl ⟨by first | assumption | omega | with_reducible rfl | (refine fun h => h ?_; first | assumption | with_reducible rfl) | (simp only [List.length_append, List.length_cons, List.length_nil, List.length_set] <;> omega) | decide, ?_⟩ | refine .inr ⟨by first | assumption | omega | with_reducible rfl | (refine fun h => h ?_; first | assumption | with_reducible rfl) | (simp only [List.length_append, List.length_cons, List.length_nil, List.length_set] <;> omega) | decide, ?_⟩) | ((first | refine WPA.ifBt ?_ ?_ | refine WPA.ifBnf ?_ ?_); assumption) | ((first | refine WPA.ifBnt ?_ ?_ | refine WPA.ifBf ?_ ?_); assumption) | ((first | refine WPA.ifs ?_ ?_ | refine WPA.ifB ?_ ?_) <;> intro hc))
      revert x; intro t3
      refine WPA.freezeBk (b := t3) ?_
      have hM2 : MdI (BkI t3 25 [.int .i64 fr, .slice wv.a wv.n wv.cap, .slice g.a g.n g.cap] ++ I) kg re wv g ws gr := hM.sub
      by_cases hF : FndP kg re gr (hs ++ [w])
      · have hpe : prbN kg re gr w hs = (cdsG kg re gr (hs ++ [w])).1 := by
          cases hs with
          | nil => rw [prbN]; exact if_pos hF
          | cons a h => rw [prbN]; exact if_pos hF
        rw [hpe]
        repeat' (first | ((first | refine WLA.m rfl rfl ?_ ?_ | refine WDQ.m rfl rfl ?_ ?_ | refine WDP.m rfl rfl ?_ ?_ | refine WLA.st rfl ?_ ?_ | refine WLA.x rfl rfl ?_ (fun x => ?_) | refine WLA.x0 rfl ?_ (fun x => ?_) | refine WDW.x rfl rfl ?_ (fun x => ?_) | refine WDW.st rfl ?_ ?_); first | exact trivial | exact rfl | assumption | omega | (refine ⟨?_, ?_⟩ <;> omega) | (simp only [Room, List.length_set, List.length_append, List.length_cons, List.length_nil, List.length_replicate]; omega) | decide | skip) | (refine Stp.go ?_) | (guard_target =~ WLA _ _ _ _ _ (⟨_, .call ⟨.value (.func 42), _, _⟩, _, _, _, _⟩ :: _) _ _; first | (refine WLA.call rfl rfl (rFind_y hM2 hlw hF) ?_; rintro ⟨⟩) | (refine WLA.call0 rfl (rFind_y hM2 hlw hF) ?_; rintro ⟨⟩)) | (refine WPA.ifT ?_) | (refine WPA.ifF ?_) | ((first | refine WPA.dec ?_); first | refine .inl ⟨by first | assumption | omega | with_reducible rfl | (refine fun h => h ?_; first | assumption | with_reducible rfl) | (simp only [List.length_append, List.length_cons, List.length_nil, List.length_set] <;> omega) | decide, ?_⟩ | refine .inr ⟨by first | assumption | omega | with_reducible rfl | (refine fun h => h ?_; first | assumption | with_reducible rfl) | (simp only [List.length_append, List.length_cons, List.length_nil, List.length_set] <;> omega) | decide, ?_⟩) | ((first | refine WPA.ifBt ?_ ?_ | refine WPA.ifBnf ?_ ?_); assumption) | ((first | refine WPA.ifBnt ?_ ?_ | refine WPA.ifBf ?_ ?_); assumption) | ((first | refine WPA.ifs ?_ ?_ | refine WPA.ifB ?_ ?_) <;> intro hc) | (guard_target =~ WPA _ _ _ (.region 2 _ true) _ _ _; refine WPA.drawT 11 (.q 0 (.q 1 (.q 2 (.q 3 (.q 4 (.q 5 (.q 6 (.q 7 (.q 8 (.q 9 (.q 10 .fin))))))))))) mixed ?_ ?_; kernel_rfl) | (guard_target =~ WPA _ _ _ (.region 3 _ true) _ _ _; refine WPA.drawT 13 (.p 0 (.p 2 (.p 4 (.t false 1 (.t true 3 (.b false 5 (.b true 6 (.b false 7 (.p 8 (.p 9 (.p 10 (.e 11 (.e 12 .fin))))) false 11 (.e 7 (.p 8 (.p 9 (.p 10 (.e 12 .fin)))))) false 11 (.w 6 (.e 7 (.p 8 (.p 9 (.p 10 (.e 12 .fin))))))) false 11 (.e 5 (.w 6 (.e 7 (.p 8 (.p 9 (.p 10 (.e 12 .fin)))))))) false 5 (.b true 3 (.b true 6 (.b false 7 (.p 8 (.p 9 (.p 10 (.e 11 (.e 12 .fin))))) false 11 (.e 7 (.p 8 (.p 9 (.p 10 (.e 12 .fin)))))) false 11 (.w 6 (.e 7 (.p 8 (.p 9 (.p 10 (.e 12 .fin))))))) false 11 (.w 3 (.w 6 (.e 7 (.p 8 (.p 9 (.p 10 (.e 12 .fin)))))))) false 11 (.b true 3 (.e 5 (.w 6 (.e 7 (.p 8 (.p 9 (.p 10 (.e 12 .fin))))))) false 5 (.w 3 (.w 6 (.e 7 (.p 8 (.p 9 (.p 10 (.e 12 .fin))))))))) false 5 (.b false 1 (.b true 3 (.b true 6 (.b false 7 (.p 8 (.p 9 (.p 10 (.e 11 (.e 12 .fin))))) false 11 (.e 7 (.p 8 (.p 9 (.p 10 (.e 12 .fin)))))) false 11 (.w 6 (.e 7 (.p 8 (.p 9 (.p 10 (.e 12 .fin))))))) false 11 (.w 3 (.w 6 (.e 7 (.p 8 (.p 9 (.p 10 (.e 12 .fin)))))))) false 11 (.e 1 (.w 3 (.w 6 (.e 7 (.p 8 (.p 9 (.p 10 (.e 12 .fin))))))))) false 11 (.b false 1 (.b true 3 (.e 5 (.w 6 (.e 7 (.p 8 (.p 9 (.p 10 (.e 12 .fin))))))) false 5 (.w 3 (.w 6 (.e 7 (.p 8 (.p 9 (.p 10 (.e 12 .fin)))))))) false 5 (.e 1 (.w 3 (.w 6 (.e 7 (.p 8 (.p 9 (.p 10 (.e 12 .fin))))))))))))) mixed ?_ ?_; kernel_rfl) | (refine WDA.finish (tl := [⟨_, _, _, _, _, _⟩]) rfl ?_) | (refine WDA.finish (tl := [⟨_, _, _, _, _, _⟩, ⟨_, _, _, _, _, _⟩]) rfl ?_) | (refine WDQ.see rfl ?_) | (refine WDP.see rfl ?_) | (refine WDW.see rfl ?_) | (first | (refine WDA.two rfl rfl ?_ ?_) | (refine WDA.twoL rfl rfl ?_ ?_) | (refine WDA.twoR rfl rfl ?_ ?_) | (refine WDA.twoW rfl rfl ?_ ?_)) | (first | (refine WDA.three rfl rfl rfl ?_ ?_ ?_) | (refine WDA.threeL rfl rfl rfl ?_ ?_ ?_) | (refine WDA.threeM rfl rfl rfl ?_ ?_ ?_) | (refine WDA.threeR rfl rfl rfl ?_ ?_ ?_)) | (refine WDE.see rfl ?_) | (refine WDE.alloc rfl rfl (fun w h => h) (fun x => ?_)) | (refine WDE.stE rfl ?_) | (refine WDE.x rfl rfl ?_ ?_ (fun x => ?_); rotate_left 1; (intro x w h; first | exact h | exact Ent.drop1.sl h | exact SL.unI h | exact SL.to h); rotate_left 1; first | exact trivial | exact rfl | assumption | omega | (refine ⟨?_, ?_⟩ <;> omega) | (simp only [Room, List.length_set, List.length_append, List.length_cons, List.length_nil, List.length_replicate]; omega) | decide | skip) | (guard_target =~ WDE _ _ _ _ _ _ _ ⟨_, .call ⟨.value (.func 42), _, _⟩, _, _, _, _⟩ _ _ _; refine WDE.call rfl rfl (rFind_y hM2 hlw hF) ?_ ?_; (intro x w h; first | exact h | exact Ent.drop1.sl h | exact SL.unI h | exact SL.to h); rintro ⟨⟩) | (guard_target =~ WDW _ _ _ _ _ _ _ ⟨_, .call ⟨.value (.func 42), _, _⟩, _, _, _, _⟩ _ _ _; refine WDW.call rfl rfl (rFind_y hM2 hlw hF) ?_; rintro ⟨⟩))
        all_goals exact QQ.end_ rfl () rfl fun w h => h.unI.to
      · cases hs with
        | nil =>
          have hpe : prbN kg re gr w [] = -1073741824 := by rw [prbN]; exact if_neg hF
          rw [hpe]
          have hz : (([] : List Int).length : Int) = 0 := rfl
          repeat' (first | ((first | refine WLA.m rfl rfl ?_ ?_ | refine WDQ.m rfl rfl ?_ ?_ | refine WDP.m rfl rfl ?_ ?_ | refine WLA.st rfl ?_ ?_ | refine WLA.x rfl rfl ?_ (fun x => ?_) | refine WLA.x0 rfl ?_ (fun x => ?_) | refine WDW.x rfl rfl ?_ (fun x => ?_) | refine WDW.st rfl ?_ ?_); first | exact trivial | exact rfl | assumption | omega | (refine ⟨?_, ?_⟩ <;> omega) | (simp only [Room, List.length_set, List.length_append, List.length_cons, List.length_nil, List.length_replicate]; omega) | decide | skip) | (refine Stp.go ?_) | (guard_target =~ WLA _ _ _ _ _ (⟨_, .call ⟨.value (.func 42), _, _⟩, _, _, _, _⟩ :: _) _ _; first | (refine WLA.call rfl rfl (rFind_n hM2 hlw hF) ?_; rintro ⟨⟩) | (refine WLA.call0 rfl (rFind_n hM2 hlw hF) ?_; rintro ⟨⟩)) | (refine WPA.ifT ?_) | (refine WPA.ifF ?_) | ((first | refine WPA.dec ?_); first | refine .inl ⟨by first | assumption | omega | with_reducible rfl | (refine fun h => h ?_; first | assumption | with_reducible rfl) | (simp only [List.length_append, List.length_cons, List.length_nil, List.length_set] <;> omega) | decide, ?_⟩ | refine .inr ⟨by first | assumption | omega | with_reducible rfl | (refine fun h => h ?_; first | assumption | with_reducible rfl) | (simp only [List.length_append, List.length_cons, List.length_nil, List.length_set] <;> omega) | decide, ?_⟩) | ((first | refine WPA.ifBt ?_ ?_ | refine WPA.ifBnf ?_ ?_); assumption) | ((first | refine WPA.ifBnt ?_ ?_ | refine WPA.ifBf ?_ ?_); assumption) | ((first | refine WPA.ifs ?_ ?_ | refine WPA.ifB ?_ ?_) <;> intro hc) | (guard_target =~ WPA _ _ _ (.region 2 _ true) _ _ _; refine WPA.drawT 11 (.q 0 (.q 1 (.q 2 (.q 3 (.q 4 (.q 5 (.q 6 (.q 7 (.q 8 (.q 9 (.q 10 .fin))))))))))) mixed ?_ ?_; kernel_rfl) | (guard_target =~ WPA _ _ _ (.region 3 _ true) _ _ _; refine WPA.drawT 13 (.p 0 (.p 2 (.p 4 (.t false 1 (.t true 3 (.b false 5 (.b true 6 (.b false 7 (.p 8 (.p 9 (.p 10 (.e 11 (.e 12 .fin))))) false 11 (.e 7 (.p 8 (.p 9 (.p 10 (.e 12 .fin)))))) false 11 (.w 6 (.e 7 (.p 8 (.p 9 (.p 10 (.e 12 .fin))))))) false 11 (.e 5 (.w 6 (.e 7 (.p 8 (.p 9 (.p 10 (.e 12 .fin)))))))) false 5 (.b true 3 (.b true 6 (.b false 7 (.p 8 (.p 9 (.p 10 (.e 11 (.e 12 .fin))))) false 11 (.e 7 (.p 8 (.p 9 (.p 10 (.e 12 .fin)))))) false 11 (.w 6 (.e 7 (.p 8 (.p 9 (.p 10 (.e 12 .fin))))))) false 11 (.w 3 (.w 6 (.e 7 (.p 8 (.p 9 (.p 10 (.e 12 .fin)))))))) false 11 (.b true 3 (.e 5 (.w 6 (.e 7 (.p 8 (.p 9 (.p 10 (.e 12 .fin))))))) false 5 (.w 3 (.w 6 (.e 7 (.p 8 (.p 9 (.p 10 (.e 12 .fin))))))))) false 5 (.b false 1 (.b true 3 (.b true 6 (.b false 7 (.p 8 (.p 9 (.p 10 (.e 11 (.e 12 .fin))))) false 11 (.e 7 (.p 8 (.p 9 (.p 10 (.e 12 .fin)))))) false 11 (.w 6 (.e 7 (.p 8 (.p 9 (.p 10 (.e 12 .fin))))))) false 11 (.w 3 (.w 6 (.e 7 (.p 8 (.p 9 (.p 10 (.e 12 .fin)))))))) false 11 (.e 1 (.w 3 (.w 6 (.e 7 (.p 8 (.p 9 (.p 10 (.e 12 .fin))))))))) false 11 (.b false 1 (.b true 3 (.e 5 (.w 6 (.e 7 (.p 8 (.p 9 (.p 10 (.e 12 .fin))))))) false 5 (.w 3 (.w 6 (.e 7 (.p 8 (.p 9 (.p 10 (.e 12 .fin)))))))) false 5 (.e 1 (.w 3 (.w 6 (.e 7 (.p 8 (.p 9 (.p 10 (.e 12 .fin))))))))))))) mixed ?_ ?_; kernel_rfl) | (refine WDA.finish (tl := [⟨_, _, _, _, _, _⟩]) rfl ?_) | (refine WDA.finish (tl := [⟨_, _, _, _, _, _⟩, ⟨_, _, _, _, _, _⟩]) rfl ?_) | (refine WDQ.see rfl ?_) | (refine WDP.see rfl ?_) | (refine WDW.see rfl ?_) | (first | (refine WDA.two rfl rfl ?_ ?_) | (refine WDA.twoL rfl rfl ?_ ?_) | (refine WDA.twoR rfl rfl ?_ ?_) | (refine WDA.twoW rfl rfl ?_ ?_)) | (first | (refine WDA.three rfl rfl rfl ?_ ?_ ?_) | (refine WDA.threeL rfl rfl rfl ?_ ?_ ?_) | (refine WDA.threeM rfl rfl rfl ?_ ?_ ?_) | (refine WDA.threeR rfl rfl rfl ?_ ?_ ?_)) | (refine WDE.see rfl ?_) | (refine WDE.alloc rfl rfl (fun w h => h) (fun x => ?_)) | (refine WDE.stE rfl ?_) | (refine WDE.x rfl rfl ?_ ?_ (fun x => ?_); rotate_left 1; (intro x w h; first | exact h | exact Ent.drop1.sl h | exact SL.unI h | exact SL.to h); rotate_left 1; first | exact trivial | exact rfl | assumption | omega | (refine ⟨?_, ?_⟩ <;> omega) | (simp only [Room, List.length_set, List.length_append, List.length_cons, List.length_nil, List.length_replicate]; omega) | decide | skip) | (guard_target =~ WDE _ _ _ _ _ _ _ ⟨_, .call ⟨.value (.func 42), _, _⟩, _, _, _, _⟩ _ _ _; refine WDE.call rfl rfl (rFind_n hM2 hlw hF) ?_ ?_; (intro x w h; first | exact h | exact Ent.drop1.sl h | exact SL.unI h | exact SL.to h); rintro ⟨⟩) | (guard_target =~ WDW _ _ _ _ _ _ _ ⟨_, .call ⟨.value (.func 42), _, _⟩, _, _, _, _⟩ _ _ _; refine WDW.call rfl rfl (rFind_n hM2 hlw hF) ?_; rintro ⟨⟩))
          all_goals exact QQ.end_ rfl () rfl fun w h => h.unI.to
        | cons a h =>
          have hpe : prbN kg re gr w (a :: h) = bckN kg re gr (a :: h) + prbN kg re gr w h := by rw [prbN]; exact if_neg hF
          have hbk := bck_code (kg := kg) (g := a :: h) hC
          rw [hpe]
          have hbh := prb_bd (kg := kg) (w := w) hC h
          have hne : ¬ ((a :: h).length : Int) = 0 := by simp only [List.length_cons]; omega
          have hal : (a :: h).length ≤ 1000000 := by omega
          have hlc : (a :: h).length = h.length + 1 := by simp
          have hlc' : ((a :: h).length : Int) = (h.length : Int) + 1 := by simp
          have hcut : cutL (a :: h) 1 ((a :: h).length : Int) = h := cut_drop (l := a :: h) (i := 1) (by simp)
          have hcs : SlI (BkI t3 25 [.int .i64 fr, .slice wv.a wv.n wv.cap, .slice g.a g.n g.cap] ++ I) (s.cut 1 1 ((a :: h).length : Int)) Int inferInstance h := by
            have hci : SlI (BkI t3 25 [.int .i64 fr, .slice wv.a wv.n wv.cap, .slice g.a g.n g.cap] ++ I) (s.cut 1 1 ((a :: h).length : Int)) Int inferInstance (cutL (a :: h) 1 ((a :: h).length : Int)) := inferInstance
            rwa [hcut] at hci
          have hrg : (0 : Int) ≤ 1 ∧ (1 : Int) ≤ (a :: h).length := by omega
          have e2 : truL gr.length h = h := if_neg (by omega)
          have ih2 := fun {L : List HP} => ih hM2 (s := s.cut 1 1 ((a :: h).length : Int)) (hs := h) (L := L) (by omega) (by omega)
          rw [e2] at ih2
          by_cases hF2 : FndP kg re gr (a :: h)
          · have hb : bckN kg re gr (a :: h) = (entG kg re gr (a :: h)).2.2 := if_pos hF2
            rw [hb] at hbk ⊢
            have hsm : -9223372036854775808 ≤ (entG kg re gr (a :: h)).2.2 + prbN kg re gr w h ∧ (entG kg re gr (a :: h)).2.2 + prbN kg re gr w h ≤ 9223372036854775807 := by omega
            repeat' (first | (guard_target =~ WLA _ _ _ _ _ (⟨_, .call ⟨.value (.func 42), _, _⟩, _, _, _, _⟩ :: _) _ _; refine WLA.call rfl rfl (rFind_y hM2 hal hF2) ?_; rintro ⟨⟩) | ((first | refine WLA.m rfl rfl ?_ ?_ | refine WDQ.m rfl rfl ?_ ?_ | refine WDP.m rfl rfl ?_ ?_ | refine WLA.st rfl ?_ ?_ | refine WLA.x rfl rfl ?_ (fun x => ?_) | refine WLA.x0 rfl ?_ (fun x => ?_) | refine WDW.x rfl rfl ?_ (fun x => ?_) | refine WDW.st rfl ?_ ?_); first | exact trivial | exact rfl | assumption | omega | (refine ⟨?_, ?_⟩ <;> omega) | (simp only [Room, List.length_set, List.length_append, List.length_cons, List.length_nil, List.length_replicate]; omega) | decide | skip) | (refine Stp.go ?_) | (guard_target =~ WLA _ _ _ _ _ (⟨_, .call ⟨.value (.func 42), _, _⟩, _, _, _, _⟩ :: _) _ _; first | (refine WLA.call rfl rfl (rFind_n hM2 hlw hF) ?_; rintro ⟨⟩) | (refine WLA.call0 rfl (rFind_n hM2 hlw hF) ?_; rintro ⟨⟩)) | (guard_target =~ WLA _ _ _ _ _ (⟨_, .call ⟨.value (.func 21), _, _⟩, _, _, _, _⟩ :: _) _ _; first | (refine WLA.call rfl rfl (ih2) ?_; rintro ⟨⟩) | (refine WLA.call0 rfl (ih2) ?_; rintro ⟨⟩)) | (refine WPA.ifT ?_) | (refine WPA.ifF ?_) | ((first | refine WPA.dec ?_); first | refine .inl ⟨by first | assumption | omega | with_reducible rfl | (refine fun h => h ?_; first | assumption | with_reducible rfl) | (simp only [List.length_append, List.length_cons, List.length_nil, List.length_set] <;> omega) | decide, ?_⟩ | refine .inr ⟨by first | assumption | omega | with_reducible rfl | (refine fun h => h ?_; first | assumption | with_reducible rfl) | (simp only [List.length_append, List.length_cons, List.length_nil, List.length_set] <;> omega) | decide, ?_⟩) | ((first | refine WPA.ifBt ?_ ?_ | refine WPA.ifBnf ?_ ?_); assumption) | ((first | refine WPA.ifBnt ?_ ?_ | refine WPA.ifBf ?_ ?_); assumption) | ((first | refine WPA.ifs ?_ ?_ | refine WPA.ifB ?_ ?_) <;> intro hc) | (guard_target =~ WPA _ _ _ (.region 2 _ true) _ _ _; refine WPA.drawT 11 (.q 0 (.q 1 (.q 2 (.q 3 (.q 4 (.q 5 (.q 6 (.q 7 (.q 8 (.q 9 (.q 10 .fin))))))))))) mixed ?_ ?_; kernel_rfl) | (guard_target =~ WPA _ _ _ (.region 3 _ true) _ _ _; refine WPA.drawT 13 (.p 0 (.p 2 (.p 4 (.t false 1 (.t true 3 (.b false 5 (.b true 6 (.b false 7 (.p 8 (.p 9 (.p 10 (.e 11 (.e 12 .fin))))) false 11 (.e 7 (.p 8 (.p 9 (.p 10 (.e 12 .fin)))))) false 11 (.w 6 (.e 7 (.p 8 (.p 9 (.p 10 (.e 12 .fin))))))) false 11 (.e 5 (.w 6 (.e 7 (.p 8 (.p 9 (.p 10 (.e 12 .fin)))))))) false 5 (.b true 3 (.b true 6 (.b false 7 (.p 8 (.p 9 (.p 10 (.e 11 (.e 12 .fin))))) false 11 (.e 7 (.p 8 (.p 9 (.p 10 (.e 12 .fin)))))) false 11 (.w 6 (.e 7 (.p 8 (.p 9 (.p 10 (.e 12 .fin))))))) false 11 (.w 3 (.w 6 (.e 7 (.p 8 (.p 9 (.p 10 (.e 12 .fin)))))))) false 11 (.b true 3 (.e 5 (.w 6 (.e 7 (.p 8 (.p 9 (.p 10 (.e 12 .fin))))))) false 5 (.w 3 (.w 6 (.e 7 (.p 8 (.p 9 (.p 10 (.e 12 .fin))))))))) false 5 (.b false 1 (.b true 3 (.b true 6 (.b false 7 (.p 8 (.p 9 (.p 10 (.e 11 (.e 12 .fin))))) false 11 (.e 7 (.p 8 (.p 9 (.p 10 (.e 12 .fin)))))) false 11 (.w 6 (.e 7 (.p 8 (.p 9 (.p 10 (.e 12 .fin))))))) false 11 (.w 3 (.w 6 (.e 7 (.p 8 (.p 9 (.p 10 (.e 12 .fin)))))))) false 11 (.e 1 (.w 3 (.w 6 (.e 7 (.p 8 (.p 9 (.p 10 (.e 12 .fin))))))))) false 11 (.b false 1 (.b true 3 (.e 5 (.w 6 (.e 7 (.p 8 (.p 9 (.p 10 (.e 12 .fin))))))) false 5 (.w 3 (.w 6 (.e 7 (.p 8 (.p 9 (.p 10 (.e 12 .fin)))))))) false 5 (.e 1 (.w 3 (.w 6 (.e 7 (.p 8 (.p 9 (.p 10 (.e 12 .fin))))))))))))) mixed ?_ ?_; kernel_rfl) | (guard_target =~ WPA _ _ _ (.region 9 _ true) _ _ _; refine WPA.drawT 7 (.q 0 (.q 1 (.q 2 (.q 3 (.q 4 (.q 5 (.e 6 .fin))))))) mixed ?_ ?_; kernel_rfl) | (refine WDA.finish (tl := [⟨_, _, _, _, _, _⟩]) rfl ?_) | (refine WDA.finish (tl := [⟨_, _, _, _, _, _⟩, ⟨_, _, _, _, _, _⟩]) rfl ?_) | (refine WDQ.see rfl ?_) | (refine WDP.see rfl ?_) | (refine WDW.see rfl ?_) | (first | (refine WDA.two rfl rfl ?_ ?_) | (refine WDA.twoL rfl rfl ?_ ?_) | (refine WDA.twoR rfl rfl ?_ ?_) | (refine WDA.twoW rfl rfl ?_ ?_)) | (first | (refine WDA.three rfl rfl rfl ?_ ?_ ?_) | (refine WDA.threeL rfl rfl rfl ?_ ?_ ?_) | (refine WDA.threeM rfl rfl rfl ?_ ?_ ?_) | (refine WDA.threeR rfl rfl rfl ?_ ?_ ?_)) | (refine WDE.see rfl ?_) | (refine WDE.alloc rfl rfl (fun w h => h) (fun x => ?_)) | (refine WDE.stE rfl ?_) | (refine WDE.x rfl rfl ?_ ?_ (fun x => ?_); rotate_left 1; (intro x w h; first | exact h | exact Ent.drop1.sl h | exact SL.unI h | exact SL.to h); rotate_left 1; first | exact trivial | exact rfl | assumption | omega | (refine ⟨?_, ?_⟩ <;> omega) | (simp only [Room, List.length_set, List.length_append, List.length_cons, List.length_nil, List.length_replicate]; omega) | decide | skip) | (guard_target =~ WDE _ _ _ _ _ _ _ ⟨_, .call ⟨.value (.func 42), _, _⟩, _, _, _, _⟩ _ _ _; refine WDE.call rfl rfl (rFind_n hM2 hlw hF) ?_ ?_; (intro x w h; first | exact h | exact Ent.drop1.sl h | exact SL.unI h | exact SL.to h); rintro ⟨⟩) | (guard_target =~ WDW _ _ _ _ _ _ _ ⟨_, .call ⟨.value (.func 42), _, _⟩, _, _, _, _⟩ _ _ _; refine WDW.call rfl rfl (rFind_n hM2 hlw hF) ?_; rintro ⟨⟩) | (guard_target =~ WDE _ _ _ _ _ _ _ ⟨_, .call ⟨.value (.func 21), _, _⟩, _, _, _, _⟩ _ _ _; refine WDE.call rfl rfl (ih2) ?_ ?_; (intro x w h; first | exact h | exact Ent.drop1.sl h | exact SL.unI h | exact SL.to h); rintro ⟨⟩) | (guard_target =~ WDW _ _ _ _ _ _ _ ⟨_, .call ⟨.value (.func 21), _, _⟩, _, _, _, _⟩ _ _ _; refine WDW.call rfl rfl (ih2) ?_; rintro ⟨⟩))
            all_goals exact QQ.end_ rfl () rfl fun w h => h.unI.to
          · have hb : bckN kg re gr (a :: h) = 0 := if_neg hF2
            rw [hb] at hbk ⊢
            have hsm : -9223372036854775808 ≤ 0 + prbN kg re gr w h ∧ 0 + prbN kg re gr w h ≤ 9223372036854775807 := by omega
            repeat' (first | (guard_target =~ WLA _ _ _ _ _ (⟨_, .call ⟨.value (.func 42), _, _⟩, _, _, _, _⟩ :: _) _ _; refine WLA.call rfl rfl (rFind_n hM2 hal hF2) ?_; rintro ⟨⟩) | ((first | refine WLA.m rfl rfl ?_ ?_ | refine WDQ.m rfl rfl ?_ ?_ | refine WDP.m rfl rfl ?_ ?_ | refine WLA.st rfl ?_ ?_ | refine WLA.x rfl rfl ?_ (fun x => ?_) | refine WLA.x0 rfl ?_ (fun x => ?_) | refine WDW.x rfl rfl ?_ (fun x => ?_) | refine WDW.st rfl ?_ ?_); first | exact trivial | exact rfl | assumption | omega | (refine ⟨?_, ?_⟩ <;> omega) | (simp only [Room, List.length_set, List.length_append, List.length_cons, List.length_nil, List.length_replicate]; omega) | decide | skip) | (refine Stp.go ?_) | (guard_target =~ WLA _ _ _ _ _ (⟨_, .call ⟨.value (.func 42), _, _⟩, _, _, _, _⟩ :: _) _ _; first | (refine WLA.call rfl rfl (rFind_n hM2 hlw hF) ?_; rintro ⟨⟩) | (refine WLA.call0 rfl (rFind_n hM2 hlw hF) ?_; rintro ⟨⟩)) | (guard_target =~ WLA _ _ _ _ _ (⟨_, .call ⟨.value (.func 21), _, _⟩, _, _, _, _⟩ :: _) _ _; first | (refine WLA.call rfl rfl (ih2) ?_; rintro ⟨⟩) | (refine WLA.call0 rfl (ih2) ?_; rintro ⟨⟩)) | (refine WPA.ifT ?_) | (refine WPA.ifF ?_) | ((first | refine WPA.dec ?_); first | refine .inl ⟨by first | assumption | omega | with_reducible rfl | (refine fun h => h ?_; first | assumption | with_reducible rfl) | (simp only [List.length_append, List.length_cons, List.length_nil, List.length_set] <;> omega) | decide, ?_⟩ | refine .inr ⟨by first | assumption | omega | with_reducible rfl | (refine fun h => h ?_; first | assumption | with_reducible rfl) | (simp only [List.length_append, List.length_cons, List.length_nil, List.length_set] <;> omega) | decide, ?_⟩) | ((first | refine WPA.ifBt ?_ ?_ | refine WPA.ifBnf ?_ ?_); assumption) | ((first | refine WPA.ifBnt ?_ ?_ | refine WPA.ifBf ?_ ?_); assumption) | ((first | refine WPA.ifs ?_ ?_ | refine WPA.ifB ?_ ?_) <;> intro hc) | (guard_target =~ WPA _ _ _ (.region 2 _ true) _ _ _; refine WPA.drawT 11 (.q 0 (.q 1 (.q 2 (.q 3 (.q 4 (.q 5 (.q 6 (.q 7 (.q 8 (.q 9 (.q 10 .fin))))))))))) mixed ?_ ?_; kernel_rfl) | (guard_target =~ WPA _ _ _ (.region 3 _ true) _ _ _; refine WPA.drawT 13 (.p 0 (.p 2 (.p 4 (.t false 1 (.t true 3 (.b false 5 (.b true 6 (.b false 7 (.p 8 (.p 9 (.p 10 (.e 11 (.e 12 .fin))))) false 11 (.e 7 (.p 8 (.p 9 (.p 10 (.e 12 .fin)))))) false 11 (.w 6 (.e 7 (.p 8 (.p 9 (.p 10 (.e 12 .fin))))))) false 11 (.e 5 (.w 6 (.e 7 (.p 8 (.p 9 (.p 10 (.e 12 .fin)))))))) false 5 (.b true 3 (.b true 6 (.b false 7 (.p 8 (.p 9 (.p 10 (.e 11 (.e 12 .fin))))) false 11 (.e 7 (.p 8 (.p 9 (.p 10 (.e 12 .fin)))))) false 11 (.w 6 (.e 7 (.p 8 (.p 9 (.p 10 (.e 12 .fin))))))) false 11 (.w 3 (.w 6 (.e 7 (.p 8 (.p 9 (.p 10 (.e 12 .fin)))))))) false 11 (.b true 3 (.e 5 (.w 6 (.e 7 (.p 8 (.p 9 (.p 10 (.e 12 .fin))))))) false 5 (.w 3 (.w 6 (.e 7 (.p 8 (.p 9 (.p 10 (.e 12 .fin))))))))) false 5 (.b false 1 (.b true 3 (.b true 6 (.b false 7 (.p 8 (.p 9 (.p 10 (.e 11 (.e 12 .fin))))) false 11 (.e 7 (.p 8 (.p 9 (.p 10 (.e 12 .fin)))))) false 11 (.w 6 (.e 7 (.p 8 (.p 9 (.p 10 (.e 12 .fin))))))) false 11 (.w 3 (.w 6 (.e 7 (.p 8 (.p 9 (.p 10 (.e 12 .fin)))))))) false 11 (.e 1 (.w 3 (.w 6 (.e 7 (.p 8 (.p 9 (.p 10 (.e 12 .fin))))))))) false 11 (.b false 1 (.b true 3 (.e 5 (.w 6 (.e 7 (.p 8 (.p 9 (.p 10 (.e 12 .fin))))))) false 5 (.w 3 (.w 6 (.e 7 (.p 8 (.p 9 (.p 10 (.e 12 .fin)))))))) false 5 (.e 1 (.w 3 (.w 6 (.e 7 (.p 8 (.p 9 (.p 10 (.e 12 .fin))))))))))))) mixed ?_ ?_; kernel_rfl) | (guard_target =~ WPA _ _ _ (.region 9 _ true) _ _ _; refine WPA.drawT 7 (.q 0 (.q 1 (.q 2 (.q 3 (.q 4 (.q 5 (.e 6 .fin))))))) mixed ?_ ?_; kernel_rfl) | (refine WDA.finish (tl := [⟨_, _, _, _, _, _⟩]) rfl ?_) | (refine WDA.finish (tl := [⟨_, _, _, _, _, _⟩, ⟨_, _, _, _, _, _⟩]) rfl ?_) | (refine WDQ.see rfl ?_) | (refine WDP.see rfl ?_) | (refine WDW.see rfl ?_) | (first | (refine WDA.two rfl rfl ?_ ?_) | (refine WDA.twoL rfl rfl ?_ ?_) | (refine WDA.twoR rfl rfl ?_ ?_) | (refine WDA.twoW rfl rfl ?_ ?_)) | (first | (refine WDA.three rfl rfl rfl ?_ ?_ ?_) | (refine WDA.threeL rfl rfl rfl ?_ ?_ ?_) | (refine WDA.threeM rfl rfl rfl ?_ ?_ ?_) | (refine WDA.threeR rfl rfl rfl ?_ ?_ ?_)) | (refine WDE.see rfl ?_) | (refine WDE.alloc rfl rfl (fun w h => h) (fun x => ?_)) | (refine WDE.stE rfl ?_) | (refine WDE.x rfl rfl ?_ ?_ (fun x => ?_); rotate_left 1; (intro x w h; first | exact h | exact Ent.drop1.sl h | exact SL.unI h | exact SL.to h); rotate_left 1; first | exact trivial | exact rfl | assumption | omega | (refine ⟨?_, ?_⟩ <;> omega) | (simp only [Room, List.length_set, List.length_append, List.length_cons, List.length_nil, List.length_replicate]; omega) | decide | skip) | (guard_target =~ WDE _ _ _ _ _ _ _ ⟨_, .call ⟨.value (.func 42), _, _⟩, _, _, _, _⟩ _ _ _; refine WDE.call rfl rfl (rFind_n hM2 hlw hF) ?_ ?_; (intro x w h; first | exact h | exact Ent.drop1.sl h | exact SL.unI h | exact SL.to h); rintro ⟨⟩) | (guard_target =~ WDW _ _ _ _ _ _ _ ⟨_, .call ⟨.value (.func 42), _, _⟩, _, _, _, _⟩ _ _ _; refine WDW.call rfl rfl (rFind_n hM2 hlw hF) ?_; rintro ⟨⟩) | (guard_target =~ WDE _ _ _ _ _ _ _ ⟨_, .call ⟨.value (.func 21), _, _⟩, _, _, _, _⟩ _ _ _; refine WDE.call rfl rfl (ih2) ?_ ?_; (intro x w h; first | exact h | exact Ent.drop1.sl h | exact SL.unI h | exact SL.to h); rintro ⟨⟩) | (guard_target =~ WDW _ _ _ _ _ _ _ ⟨_, .call ⟨.value (.func 21), _, _⟩, _, _, _, _⟩ _ _ _; refine WDW.call rfl rfl (ih2) ?_; rintro ⟨⟩))
            all_goals exact QQ.end_ rfl () rfl fun w h => h.unI.to
end
end Go.Proofs.Ytcomkdndddkbeaa
namespace Go.Proofs.Ytcomkdndddkbeaa
open Go Go.Fw Go.RowKit
set_option linter.unusedVariables false
set_option linter.unusedSimpArgs false
set_option maxRecDepth 100000
set_option maxHeartbeats 16000000
set_option synthInstance.maxHeartbeats 200000
set_option synthInstance.maxSize 100000
attribute [local irreducible] WPA WLA WDA WDQ WDE QQ seqQ blockQ loopQ fnQ OpP OpT Tr TrP SL SLd OwnS LitS Bk BkE Ob
def enV (kg : SV → List Int) (es : List En) : List ((Int × Int) × List Int) := es.map fun p => (p.2, kg p.1)
end Go.Proofs.Ytcomkdndddkbeaa
namespace Go.Fw
open Go Go.RowKit
set_option linter.unusedVariables false
theorem SL.borrow {w0 : World} {I : Foot} {p : HP} {L : List HP} {w : World} (h : SL w0 I (p :: L) w) : ∃ R, p R ∧ SL w0 (R ++ I) L w ∧ ∀ L' w', SL w0 (R ++ I) L' w' → SL w0 I (p :: L') w' := by
  obtain ⟨H, R, Rs, h1, hp, h2, h3⟩ := h.uncons
  refine ⟨R, hp, ?_, fun L' w' h' => ?_⟩
  · have key : ∀ (R : Foot) (H : HeapP) (I : Foot), (∀ b o, (b, o) ∈ I → H b = some o) → St w0 H (R ++ Rs.flatten) w → ∃ H', (∀ b o, (b, o) ∈ R ++ I → H' b = some o) ∧ St w0 H' Rs.flatten w := by
      intro R
      induction R with
      | nil => intro H I h1 h3; exact ⟨H, h1, h3⟩
      | cons q R ih =>
        intro H I h1 h3
        obtain ⟨H1, hle, hb, h4⟩ := St.freeze (b := q.1) (o := q.2) h3
        obtain ⟨H2, h5, h6⟩ := ih H1 ((q.1, q.2) :: I) (fun b o hm => by
          rcases List.mem_cons.1 hm with e | hm
          · cases e; exact hb
          · exact hle _ _ (h1 b o hm)) h4
        refine ⟨H2, fun b o hm => h5 b o ?_, h6⟩
        simp only [List.cons_append, List.mem_cons, List.mem_append] at hm ⊢
        rcases hm with e | hm | hm
        · exact .inr (.inl e)
        · exact .inl hm
        · exact .inr (.inr hm)
    obtain ⟨H', h4, h5⟩ := key R H I h1 h3
    exact ⟨H', Rs, h4, h2, h5⟩
  · obtain ⟨H', Rs', a1, a2, a3⟩ := h'
    classical
    have hR : ∀ q ∈ R, H q.1 = none ∧ w0.heap.size ≤ q.1 := fun q hq => (h3.own q (List.mem_append_left _ hq)).2
    have hR2 : ∀ q ∈ R, H' q.1 = some q.2 := fun q hq => a1 q.1 q.2 (List.mem_append_left _ hq)
    have hn := h3.nodup
    rw [List.map_append, List.nodup_append] at hn
    refine SL.cons (H := fun b => if b ∈ R.map (·.1) then none else H' b) (fun b o hb => ?_) hp a2 ⟨a3.below, fun b o hb => ?_, fun q hq => ?_, ?_, a3.drw⟩
    · have hnb : ¬ b ∈ R.map (·.1) := fun hm => by
        obtain ⟨q, hq, rfl⟩ := List.mem_map.1 hm
        have := h1 _ _ hb
        rw [(hR q hq).1] at this; cases this
      simp only [hnb, if_false]
      exact a1 b o (List.mem_append_right _ hb)
    · by_cases hm : b ∈ R.map (·.1)
      · simp only [hm, if_true] at hb; cases hb
      · simp only [hm, if_false] at hb; exact a3.imm b o hb
    · rcases List.mem_append.1 hq with hq | hq
      · have hm : q.1 ∈ R.map (·.1) := List.mem_map_of_mem hq
        exact ⟨a3.imm _ _ (hR2 q hq), by simp only [hm, if_true], (hR q hq).2⟩
      · obtain ⟨g1, g2, g3⟩ := a3.own q hq
        refine ⟨g1, ?_, g3⟩
        show (if q.1 ∈ R.map (·.1) then none else H' q.1) = none
        split
        · rfl
        · exact g2
    · rw [List.map_append, List.nodup_append]
      refine ⟨hn.1, a3.nodup, fun a ha b hb e => ?_⟩
      obtain ⟨q, hq, rfl⟩ := List.mem_map.1 ha
      obtain ⟨r, hr, rfl⟩ := List.mem_map.1 hb
      have := hR2 q hq
      rw [e, (a3.own r hr).2.1] at this; cases this
theorem RowH.perm {α : Type} [Enc α] {e : TypeId} {l l' : List (SV × List α)} (h : l.Perm l') : ∀ {L : List HP}, Ent (RowH e (l.map Prod.fst) (l.map Prod.snd) :: L) (RowH e (l'.map Prod.fst) (l'.map Prod.snd) :: L) := by
  induction h with
  | nil => exact Ent.refl
  | cons x _ ih =>
    intro L
    simp only [List.map_cons, RowH]
    exact Ent.unstar.trans ((Ent.cons ih).trans (Ent.star Ent.refl))
  | swap x y l =>
    intro L
    simp only [List.map_cons, RowH]
    exact Ent.unstar.trans ((Ent.cons Ent.unstar).trans (Ent.swap.trans ((Ent.cons (Ent.star Ent.refl)).trans (Ent.star Ent.refl))))
  | trans _ _ i1 i2 => exact i1.trans i2
theorem Tr.ap {P : Program} {f : FuncId} {args : Array Value} {A : World → Prop} {τ : Type} {val : τ → Value} {B : τ → World → Prop} (h : Tr P f args A val B) {w : World} (hw : A w) : Calls P f args w fun e w' => ∃ x, e = .returned (val x) ∧ B x w' := h w hw
theorem Tr.mk {P : Program} {f : FuncId} {args : Array Value} {A : World → Prop} {τ : Type} {val : τ → Value} {B : τ → World → Prop} (h : ∀ w, A w → Calls P f args w fun e w' => ∃ x, e = .returned (val x) ∧ B x w') : Tr P f args A val B := h
end Go.Fw
namespace Go.Proofs.Ytcomkdndddkbeaa
open Go Go.Fw Go.RowKit
set_option linter.unusedVariables false
set_option linter.unusedSimpArgs false
set_option maxRecDepth 100000
set_option maxHeartbeats 16000000
set_option synthInstance.maxHeartbeats 200000
set_option synthInstance.maxSize 100000
attribute [local irreducible] WPA WLA WDA WDQ WDE QQ seqQ blockQ loopQ fnQ OpP OpT Tr TrP SL SLd OwnS LitS Bk BkE Ob
section
structure MdR (I : Foot) (kg : SV → List Int) (re : SV → List En) (w g : SV) (ws : List ByteArray) (gr : List SV) : Prop where
  words : SlI I w ByteArray inferInstance ws
  grams : SlI I g SV inferInstance gr
  rows : ∀ h ∈ gr, SlI I h En inferInstance (re h)
  elems : ∀ h ∈ gr, EnG I kg (re h)
  wsz : ∀ s ∈ ws, s.size ≤ 140737488351232
end
section
def FewP (kg : SV → List Int) (re : SV → List En) (ws : List ByteArray) (gr : List SV) : Prop := (ws.length ≤ 30 ∧ gr.length ≤ 10) ∧ ∀ h ∈ gr, (re h).length ≤ 100 ∧ ∀ p ∈ re h, (kg p.1).length ≤ 12
end
section
theorem MdR.few {I : Foot} {kg : SV → List Int} {re : SV → List En} {w g : SV} {ws : List ByteArray} {gr : List SV} (h : MdR I kg re w g ws gr) (f : FewP kg re ws gr) : MdI I kg re w g ws gr :=
  ⟨h.words, h.grams, h.rows, h.elems, h.wsz, by have := f.1.1; omega, by have := f.1.2; omega, fun x hx => by have := (f.2 x hx).1; omega, fun x hx p hp => by have := (f.2 x hx).2 p hp; omega⟩
end
section
variable {kg : SV → List Int} {re : SV → List En} {L : List HP} {w0 : World} {I : Foot}
theorem Small_tr31 {fr : Int} {w g : SV} {ws : List ByteArray} {gr : List SV} (hM : MdR I kg re w g ws gr) :
    Tr Try.prog 6 #[.agg #[.int .i64 fr, .slice w.a w.n w.cap, .slice g.a g.n g.cap]] (SL w0 I L) (fun b : { b : Bool // b = true → FewP kg re ws gr } => .bool b.1) (fun _ => SL w0 I L) := by
  refine Tr.intro Try.func6 rfl Try.ntmps6 rfl ?_
  obtain ⟨hW, hg, hR, hE, hz⟩ := hM
  by_cases h1 : (30 : Int) < ws.length
  · skip
    repeat' (first | ((first | refine WLA.m rfl rfl ?_ ?_ | refine WLA.st rfl ?_ ?_ | refine WLA.x rfl rfl ?_ (fun x => ?_) | refine WLA.x0 rfl ?_ (fun x => ?_)); first | exact trivial | exact rfl | assumption | omega | (refine ⟨?_, ?_⟩ <;> omega) | (simp only [Room, List.length_set, List.length_append, List.length_cons, List.length_nil, List.length_replicate]; omega) | decide | skip) | (refine Stp.go ?_) | (refine WPA.ifT ?_) | (refine WPA.ifF ?_) | (refine WLA.no rfl rfl ?_) | ((first | refine WPA.dec ?_ | ((fail_if_success (guard_target =~ WLA _ _ _ _ _ _ (put1 _ _ (.bool true)) _)); (fail_if_success (guard_target =~ WLA _ _ _ _ _ _ (put1 _ _ (.bool false)) _)); refine WLA.dec rfl rfl ?_) | refine WLA.pk ?_); first | refine .inl ⟨by first | assumption | omega | with_reducible rfl | (refine fun h => h ?_; first | assumption | with_reducible rfl) | (simp only [List.length_append, List.length_cons, List.length_nil, List.length_set] <;> omega) | decide, ?_⟩ | refine .inr ⟨by first | assumption | omega | with_reducible rfl | (refine fun h => h ?_; first | assumption | with_reducible rfl) | (simp only [List.length_append, List.length_cons, List.length_nil, List.length_set] <;> omega) | decide, ?_⟩) | ((first | refine WPA.ifBt ?_ ?_ | refine WPA.ifBnf ?_ ?_); assumption) | ((first | refine WPA.ifBnt ?_ ?_ | refine WPA.ifBf ?_ ?_); assumption) | ((first | refine WPA.ifs ?_ ?_ | refine WPA.ifB ?_ ?_) <;> intro hc) | ((fail_if_success (guard_target =~ WLA _ _ _ _ _ _ (put1 _ _ (.bool true)) _)); (fail_if_success (guard_target =~ WLA _ _ _ _ _ _ (put1 _ _ (.bool false)) _)); (first | refine WLA.both rfl rfl ?_ ?_ | refine WLA.bothB rfl rfl ?_ ?_) <;> intro hg))
    exact QQ.end_ rfl ⟨false, by simp⟩ rfl fun w h => h.to
  by_cases h2 : (10 : Int) < gr.length
  · skip
    repeat' (first | ((first | refine WLA.m rfl rfl ?_ ?_ | refine WLA.st rfl ?_ ?_ | refine WLA.x rfl rfl ?_ (fun x => ?_) | refine WLA.x0 rfl ?_ (fun x => ?_)); first | exact trivial | exact rfl | assumption | omega | (refine ⟨?_, ?_⟩ <;> omega) | (simp only [Room, List.length_set, List.length_append, List.length_cons, List.length_nil, List.length_replicate]; omega) | decide | skip) | (refine Stp.go ?_) | (refine WPA.ifT ?_) | (refine WPA.ifF ?_) | (refine WLA.no rfl rfl ?_) | ((first | refine WPA.dec ?_ | ((fail_if_success (guard_target =~ WLA _ _ _ _ _ _ (put1 _ _ (.bool true)) _)); (fail_if_success (guard_target =~ WLA _ _ _ _ _ _ (put1 _ _ (.bool false)) _)); refine WLA.dec rfl rfl ?_) | refine WLA.pk ?_); first | refine .inl ⟨by first | assumption | omega | with_reducible rfl | (refine fun h => h ?_; first | assumption | with_reducible rfl) | (simp only [List.length_append, List.length_cons, List.length_nil, List.length_set] <;> omega) | decide, ?_⟩ | refine .inr ⟨by first | assumption | omega | with_reducible rfl | (refine fun h => h ?_; first | assumption | with_reducible rfl) | (simp only [List.length_append, List.length_cons, List.length_nil, List.length_set] <;> omega) | decide, ?_⟩) | ((first | refine WPA.ifBt ?_ ?_ | refine WPA.ifBnf ?_ ?_); assumption) | ((first | refine WPA.ifBnt ?_ ?_ | refine WPA.ifBf ?_ ?_); assumption) | ((first | refine WPA.ifs ?_ ?_ | refine WPA.ifB ?_ ?_) <;> intro hc) | ((fail_if_success (guard_target =~ WLA _ _ _ _ _ _ (put1 _ _ (.bool true)) _)); (fail_if_success (guard_target =~ WLA _ _ _ _ _ _ (put1 _ _ (.bool false)) _)); (first | refine WLA.both rfl rfl ?_ ?_ | refine WLA.bothB rfl rfl ?_ ?_) <;> intro hg))
    exact QQ.end_ rfl ⟨false, by simp⟩ rfl fun w h => h.to
  repeat' (first | ((first | refine WLA.m rfl rfl ?_ ?_ | refine WLA.st rfl ?_ ?_ | refine WLA.x rfl rfl ?_ (fun x => ?_) | refine WLA.x0 rfl ?_ (fun x => ?_)); first | exact trivial | exact rfl | assumption | omega | (refine ⟨?_, ?_⟩ <;> omega) | (simp only [Room, List.length_set, List.length_append, List.length_cons, List.length_nil, List.length_replicate]; omega) | decide | skip) | (refine Stp.go ?_) | (refine WPA.ifT ?_) | (refine WPA.ifF ?_) | (refine WLA.no rfl rfl ?_) | ((first | refine WPA.dec ?_ | ((fail_if_success (guard_target =~ WLA _ _ _ _ _ _ (put1 _ _ (.bool true)) _)); (fail_if_success (guard_target =~ WLA _ _ _ _ _ _ (put1 _ _ (.bool false)) _)); refine WLA.dec rfl rfl ?_) | refine WLA.pk ?_); first | refine .inl ⟨by first | assumption | omega | with_reducible rfl | (refine fun h => h ?_; first | assumption | with_reducible rfl) | (simp only [List.length_append, List.length_cons, List.length_nil, List.length_set] <;> omega) | decide, ?_⟩ | refine .inr ⟨by first | assumption | omega | with_reducible rfl | (refine fun h => h ?_; first | assumption | with_reducible rfl) | (simp only [List.length_append, List.length_cons, List.length_nil, List.length_set] <;> omega) | decide, ?_⟩) | ((first | refine WPA.ifBt ?_ ?_ | refine WPA.ifBnf ?_ ?_); assumption) | ((first | refine WPA.ifBnt ?_ ?_ | refine WPA.ifBf ?_ ?_); assumption) | ((first | refine WPA.ifs ?_ ?_ | refine WPA.ifB ?_ ?_) <;> intro hc) | ((fail_if_success (guard_target =~ WLA _ _ _ _ _ _ (put1 _ _ (.bool true)) _)); (fail_if_success (guard_target =~ WLA _ _ _ _ _ _ (put1 _ _ (.bool false)) _)); (first | refine WLA.both rfl rfl ?_ ?_ | refine WLA.bothB rfl rfl ?_ ?_) <;> intro hg))
  revert x; intro t1
  refine WPA.loopS (σ := Nat × Nat) (fun y => [(1, .pointer (some ⟨t1, 0, none⟩)), (3, .int .i64 y.2), (4, .int .i64 y.1)]) (fun y => (y.1 ≤ gr.length ∧ y.2 ≤ 100 * y.1) ∧ ∀ h ∈ gr.take y.1, (re h).length ≤ 100 ∧ ∀ p ∈ re h, (kg p.1).length ≤ 12)
    (fun _ => SL w0 I (Bk t1 25 [.int .i64 fr, .slice w.a w.n w.cap, .slice g.a g.n g.cap] :: L)) (fun y => gr.length - y.1) (0, 0) ⟨rfl, rfl, rfl, trivial⟩ ⟨⟨Nat.zero_le _, Nat.zero_le _⟩, by simp⟩ (fun w h => h.to) ?_
  rintro ⟨k, n⟩ ρ ⟨⟨hk, hn⟩, hf⟩
  dsimp only at hk hn hf ⊢
  by_cases hkl : k < gr.length
  · have hkl' : (k : Int) < gr.length := by omega
    have hme : at_ gr (k : Int) ∈ gr := by rw [at_nat gr k hkl]; exact List.getElem_mem _
    have hRk := hR _ hme
    have hEk := hE _ hme
    have hnx : ∀ h ∈ gr.take (k + 1), h ∈ gr.take k ∨ h = at_ gr (k : Int) := by
      intro h hh
      rw [List.take_add_one, List.getElem?_eq_getElem hkl, ← at_nat gr k hkl] at hh
      rcases List.mem_append.1 hh with hh | hh
      · exact .inl hh
      · simp only [Option.toList_some, List.mem_singleton] at hh; exact .inr hh
    generalize hes : re (at_ gr (k : Int)) = es at hRk hEk
    by_cases h3 : (100 : Int) < es.length
    · skip
      repeat' (first | ((first | refine WLA.m rfl rfl ?_ ?_ | refine WLA.st rfl ?_ ?_ | refine WLA.x rfl rfl ?_ (fun x => ?_) | refine WLA.x0 rfl ?_ (fun x => ?_)); first | exact trivial | exact rfl | assumption | omega | (refine ⟨?_, ?_⟩ <;> omega) | (simp only [Room, List.length_set, List.length_append, List.length_cons, List.length_nil, List.length_replicate]; omega) | decide | skip) | (refine Stp.go ?_) | (refine WPA.ifT ?_) | (refine WPA.ifF ?_) | ((first | refine WPA.dec ?_); first | refine .inl ⟨by first | assumption | omega | with_reducible rfl | (refine fun h => h ?_; first | assumption | with_reducible rfl) | (simp only [List.length_append, List.length_cons, List.length_nil, List.length_set] <;> omega) | decide, ?_⟩ | refine .inr ⟨by first | assumption | omega | with_reducible rfl | (refine fun h => h ?_; first | assumption | with_reducible rfl) | (simp only [List.length_append, List.length_cons, List.length_nil, List.length_set] <;> omega) | decide, ?_⟩) | ((first | refine WPA.ifBt ?_ ?_ | refine WPA.ifBnf ?_ ?_); assumption) | ((first | refine WPA.ifBnt ?_ ?_ | refine WPA.ifBf ?_ ?_); assumption) | ((first | refine WPA.ifs ?_ ?_ | refine WPA.ifB ?_ ?_) <;> intro hc))
      exact QQ.end_ rfl ⟨false, by simp⟩ rfl fun w h => h.to
    · have hsm : -9223372036854775808 ≤ (n : Int) + es.length ∧ (n : Int) + es.length ≤ 9223372036854775807 := by omega
      repeat' (first | ((first | refine WLA.m rfl rfl ?_ ?_ | refine WLA.st rfl ?_ ?_ | refine WLA.x rfl rfl ?_ (fun x => ?_) | refine WLA.x0 rfl ?_ (fun x => ?_)); first | exact trivial | exact rfl | assumption | omega | (refine ⟨?_, ?_⟩ <;> omega) | (simp only [Room, List.length_set, List.length_append, List.length_cons, List.length_nil, List.length_replicate]; omega) | decide | skip) | (refine Stp.go ?_) | (refine WPA.ifT ?_) | (refine WPA.ifF ?_) | ((first | refine WPA.dec ?_); first | refine .inl ⟨by first | assumption | omega | with_reducible rfl | (refine fun h => h ?_; first | assumption | with_reducible rfl) | (simp only [List.length_append, List.length_cons, List.length_nil, List.length_set] <;> omega) | decide, ?_⟩ | refine .inr ⟨by first | assumption | omega | with_reducible rfl | (refine fun h => h ?_; first | assumption | with_reducible rfl) | (simp only [List.length_append, List.length_cons, List.length_nil, List.length_set] <;> omega) | decide, ?_⟩) | ((first | refine WPA.ifBt ?_ ?_ | refine WPA.ifBnf ?_ ?_); assumption) | ((first | refine WPA.ifBnt ?_ ?_ | refine WPA.ifBf ?_ ?_); assumption) | ((first | refine WPA.ifs ?_ ?_ | refine WPA.ifB ?_ ?_) <;> intro hc))
      refine WPA.loopS (σ := Nat) (fun i => [(1, .pointer (some ⟨t1, 0, none⟩)), (3, .int .i64 ((n : Int) + es.length)), (4, .int .i64 k), (5, .int .i64 i)]) (fun i => i ≤ es.length ∧ ∀ p ∈ es.take i, (kg p.1).length ≤ 12)
        (fun _ => SL w0 I (Bk t1 25 [.int .i64 fr, .slice w.a w.n w.cap, .slice g.a g.n g.cap] :: L)) (fun i => es.length - i) 0 ⟨rfl, rfl, rfl, rfl, trivial⟩ ⟨Nat.zero_le _, by simp⟩ (fun w h => h.to) ?_
      rintro i ρ2 ⟨hi, hfi⟩
      by_cases hil : i < es.length
      · have hil' : (i : Int) < es.length := by omega
        have hxg := hEk.at hil
        by_cases h4 : (12 : Int) < (kg (at_ es (i : Int)).1).length
        · skip
          repeat' (first | ((first | refine WLA.m rfl rfl ?_ ?_ | refine WLA.st rfl ?_ ?_ | refine WLA.x rfl rfl ?_ (fun x => ?_) | refine WLA.x0 rfl ?_ (fun x => ?_)); first | exact trivial | exact rfl | assumption | omega | (refine ⟨?_, ?_⟩ <;> omega) | (simp only [Room, List.length_set, List.length_append, List.length_cons, List.length_nil, List.length_replicate]; omega) | decide | skip) | (refine Stp.go ?_) | (refine WPA.ifT ?_) | (refine WPA.ifF ?_) | ((first | refine WPA.dec ?_); first | refine .inl ⟨by first | assumption | omega | with_reducible rfl | (refine fun h => h ?_; first | assumption | with_reducible rfl) | (simp only [List.length_append, List.length_cons, List.length_nil, List.length_set] <;> omega) | decide, ?_⟩ | refine .inr ⟨by first | assumption | omega | with_reducible rfl | (refine fun h => h ?_; first | assumption | with_reducible rfl) | (simp only [List.length_append, List.length_cons, List.length_nil, List.length_set] <;> omega) | decide, ?_⟩) | ((first | refine WPA.ifBt ?_ ?_ | refine WPA.ifBnf ?_ ?_); assumption) | ((first | refine WPA.ifBnt ?_ ?_ | refine WPA.ifBf ?_ ?_); assumption) | ((first | refine WPA.ifs ?_ ?_ | refine WPA.ifB ?_ ?_) <;> intro hc))
          exact QQ.end_ rfl ⟨false, by simp⟩ rfl fun w h => h.to
        · skip
          repeat' (first | ((first | refine WLA.m rfl rfl ?_ ?_ | refine WLA.st rfl ?_ ?_ | refine WLA.x rfl rfl ?_ (fun x => ?_) | refine WLA.x0 rfl ?_ (fun x => ?_)); first | exact trivial | exact rfl | assumption | omega | (refine ⟨?_, ?_⟩ <;> omega) | (simp only [Room, List.length_set, List.length_append, List.length_cons, List.length_nil, List.length_replicate]; omega) | decide | skip) | (refine Stp.go ?_) | (refine WPA.ifT ?_) | (refine WPA.ifF ?_) | ((first | refine WPA.dec ?_); first | refine .inl ⟨by first | assumption | omega | with_reducible rfl | (refine fun h => h ?_; first | assumption | with_reducible rfl) | (simp only [List.length_append, List.length_cons, List.length_nil, List.length_set] <;> omega) | decide, ?_⟩ | refine .inr ⟨by first | assumption | omega | with_reducible rfl | (refine fun h => h ?_; first | assumption | with_reducible rfl) | (simp only [List.length_append, List.length_cons, List.length_nil, List.length_set] <;> omega) | decide, ?_⟩) | ((first | refine WPA.ifBt ?_ ?_ | refine WPA.ifBnf ?_ ?_); assumption) | ((first | refine WPA.ifBnt ?_ ?_ | refine WPA.ifBf ?_ ?_); assumption) | ((first | refine WPA.ifs ?_ ?_ | refine WPA.ifB ?_ ?_) <;> intro hc))
          refine QQ.loopS (i + 1) ⟨rfl, rfl, rfl, rfl, trivial⟩ ⟨hil, ?_⟩ (by omega) (fun w h => h.to)
          intro p hp
          rw [List.take_add_one, List.getElem?_eq_getElem hil, ← at_nat es i hil] at hp
          rcases List.mem_append.1 hp with hp | hp
          · exact hfi p hp
          · simp only [Option.toList_some, List.mem_singleton] at hp; subst hp; omega
      · have hil' : ¬ (i : Int) < es.length := by omega
        rw [List.take_of_length_le (by omega)] at hfi
        repeat' (first | ((first | refine WLA.m rfl rfl ?_ ?_ | refine WLA.st rfl ?_ ?_ | refine WLA.x rfl rfl ?_ (fun x => ?_) | refine WLA.x0 rfl ?_ (fun x => ?_)); first | exact trivial | exact rfl | assumption | omega | (refine ⟨?_, ?_⟩ <;> omega) | (simp only [Room, List.length_set, List.length_append, List.length_cons, List.length_nil, List.length_replicate]; omega) | decide | skip) | (refine Stp.go ?_) | (refine WPA.ifT ?_) | (refine WPA.ifF ?_) | ((first | refine WPA.dec ?_); first | refine .inl ⟨by first | assumption | omega | with_reducible rfl | (refine fun h => h ?_; first | assumption | with_reducible rfl) | (simp only [List.length_append, List.length_cons, List.length_nil, List.length_set] <;> omega) | decide, ?_⟩ | refine .inr ⟨by first | assumption | omega | with_reducible rfl | (refine fun h => h ?_; first | assumption | with_reducible rfl) | (simp only [List.length_append, List.length_cons, List.length_nil, List.length_set] <;> omega) | decide, ?_⟩) | ((first | refine WPA.ifBt ?_ ?_ | refine WPA.ifBnf ?_ ?_); assumption) | ((first | refine WPA.ifBnt ?_ ?_ | refine WPA.ifBf ?_ ?_); assumption) | ((first | refine WPA.ifs ?_ ?_ | refine WPA.ifB ?_ ?_) <;> intro hc))
        refine QQ.loopS (k + 1, n + es.length) ⟨rfl, rfl, rfl, trivial⟩ ⟨⟨hkl, by dsimp only; omega⟩, fun h hh => ?_⟩ (by dsimp only; omega) (fun w h => h.to)
        rcases hnx h hh with hh | rfl
        · exact hf h hh
        · rw [hes]; exact ⟨by omega, hfi⟩
  · have hkl' : ¬ (k : Int) < gr.length := by omega
    rw [List.take_of_length_le (by omega)] at hf
    repeat' ((fail_if_success (guard_target =~ WPA _ _ _ (.region 15 _ _) _ _ _)); first | ((first | refine WLA.m rfl rfl ?_ ?_ | refine WLA.st rfl ?_ ?_ | refine WLA.x rfl rfl ?_ (fun x => ?_) | refine WLA.x0 rfl ?_ (fun x => ?_)); first | exact trivial | exact rfl | assumption | omega | (refine ⟨?_, ?_⟩ <;> omega) | (simp only [Room, List.length_set, List.length_append, List.length_cons, List.length_nil, List.length_replicate]; omega) | decide | skip) | (refine Stp.go ?_) | (refine WPA.ifT ?_) | (refine WPA.ifF ?_) | ((first | refine WPA.dec ?_); first | refine .inl ⟨by first | assumption | omega | with_reducible rfl | (refine fun h => h ?_; first | assumption | with_reducible rfl) | (simp only [List.length_append, List.length_cons, List.length_nil, List.length_set] <;> omega) | decide, ?_⟩ | refine .inr ⟨by first | assumption | omega | with_reducible rfl | (refine fun h => h ?_; first | assumption | with_reducible rfl) | (simp only [List.length_append, List.length_cons, List.length_nil, List.length_set] <;> omega) | decide, ?_⟩) | ((first | refine WPA.ifBt ?_ ?_ | refine WPA.ifBnf ?_ ?_); assumption) | ((first | refine WPA.ifBnt ?_ ?_ | refine WPA.ifBf ?_ ?_); assumption) | ((first | refine WPA.ifs ?_ ?_ | refine WPA.ifB ?_ ?_) <;> intro hc))
    repeat' (first | ((first | refine WLA.m rfl rfl ?_ ?_ | refine WLA.st rfl ?_ ?_ | refine WLA.x rfl rfl ?_ (fun x => ?_) | refine WLA.x0 rfl ?_ (fun x => ?_)); first | exact trivial | exact rfl | assumption | omega | (refine ⟨?_, ?_⟩ <;> omega) | (simp only [Room, List.length_set, List.length_append, List.length_cons, List.length_nil, List.length_replicate]; omega) | decide | skip) | (refine Stp.go ?_) | (refine WPA.ifT ?_) | (refine WPA.ifF ?_) | ((first | refine WPA.dec ?_); first | refine .inl ⟨by first | assumption | omega | with_reducible rfl | (refine fun h => h ?_; first | assumption | with_reducible rfl) | (simp only [List.length_append, List.length_cons, List.length_nil, List.length_set] <;> omega) | decide, ?_⟩ | refine .inr ⟨by first | assumption | omega | with_reducible rfl | (refine fun h => h ?_; first | assumption | with_reducible rfl) | (simp only [List.length_append, List.length_cons, List.length_nil, List.length_set] <;> omega) | decide, ?_⟩) | ((first | refine WPA.ifBt ?_ ?_ | refine WPA.ifBnf ?_ ?_); assumption) | ((first | refine WPA.ifBnt ?_ ?_ | refine WPA.ifBf ?_ ?_); assumption) | ((first | refine WPA.ifs ?_ ?_ | refine WPA.ifB ?_ ?_) <;> intro hc))
    exact QQ.end_ rfl ⟨decide ((n : Int) ≤ 200), fun _ => ⟨⟨by omega, by omega⟩, hf⟩⟩ rfl fun w h => h.to
end
section
theorem mdR_all {W : World} {w g : SV} (hw : gSl gStr 16 W w) (hg : gSl (gSl (gPair (gSl gInt 8) (gPair gInt gInt)) 40) 24 W g) : ∃ (ws : List ByteArray) (gr : List SV), MdR (allB W) (rd Int (allB W)) (rd En (allB W)) w g ws gr := by
  obtain ⟨ws, a1, a2, a3⟩ := hw
  obtain ⟨gr, b1, b2, b3⟩ := hg
  refine ⟨ws, gr, SlI.all a1, SlI.all b1, fun h hm => ?_, fun h hm p hp => ?_, fun s hs => ?_⟩
  · obtain ⟨es, c1, c2, c3⟩ := b2 h hm
    exact (SlI.all c1).rd
  · obtain ⟨es, c1, c2, c3⟩ := b2 h hm
    have e : rd En (allB W) h = es := (SlI.all c1).rd.det (SlI.all c1) (SL.all W)
    rw [e] at hp
    obtain ⟨xs, q1, q2, q3⟩ := (c2 p hp).1
    exact (SlI.all q1).rd
  · have := a2 s hs; unfold gStr at this; omega
end
section
theorem rise_id {a : Nat → Int} {n : Nat} (h1 : ∀ i, i < n → 0 ≤ a i ∧ a i < n) (h2 : ∀ i, i + 1 < n → a i < a (i + 1)) : ∀ i, i < n → a i = i := by
  have lo : ∀ i, i < n → (i : Int) ≤ a i := by
    intro i
    induction i with
    | zero => intro h; exact (h1 0 h).1
    | succ i ih => intro h; have := ih (by omega); have := h2 i h; omega
  have hi : ∀ d i, i + d < n → a i + d ≤ a (i + d) := by
    intro d
    induction d with
    | zero => intro i h; simp
    | succ d ih => intro i h; have := ih i (by omega); have := h2 (i + d) (by omega); rw [show i + (d + 1) = i + d + 1 by omega]; omega
  intro i h
  have h3 := hi (n - 1 - i) i (by omega)
  have h4 := (h1 (i + (n - 1 - i)) (by omega)).2
  have h5 := lo i h
  omega
end
section
theorem entE_code {xs : List Int} {p b n words : Int} {last : Bool} (h : entE xs p b n words last = 0) : CodeP p ∧ CodeP b := by
  unfold entE at h
  split at h
  · cases h
  split at h
  · cases h
  split at h
  · cases h
  split at h
  · cases h
  · rename_i h4
    exact Classical.byContradiction h4
end
section
theorem chkM_zero {kg : SV → List Int} {re : SV → List En} {fr : Int} {ws : List ByteArray} {gr : List SV} (h : chkM kg re fr ws gr = 0) : 1 ≤ gr.length ∧ (∀ x ∈ gr, RisE kg (re x)) ∧ CodesP re gr := by
  unfold chkM at h
  split at h
  · cases h
  · rename_i h1
    split at h
    · contradiction
    · have hk : ∀ k : Nat, k < gr.length → ∀ i : Nat, i < (re (at_ gr (k : Int))).length → chkE kg ws.length (decide ((k : Int) = (gr.length : Int) - 1)) k (re (at_ gr (k : Int))) (re (at_ gr ((k : Int) - 1))) i = 0 := by
        intro k hk
        have hz := firstN_zero h k hk
        unfold chkL chkLs at hz
        split at hz
        · contradiction
        · rename_i hf
          exact firstN_zero (Classical.byContradiction hf)
      have hat : ∀ x ∈ gr, ∃ k : Nat, k < gr.length ∧ at_ gr (k : Int) = x := by
        intro x hx
        obtain ⟨k, hk, e⟩ := List.getElem_of_mem hx
        exact ⟨k, hk, by rw [at_nat gr k hk, e]⟩
      refine ⟨Nat.le_of_not_lt fun h2 => h1 (.inr (.inr (.inl h2))), fun x hx => ?_, fun x hx p hp => ?_⟩
      · obtain ⟨k, hk1, rfl⟩ := hat x hx
        exact ris_chk (hk k hk1)
      · obtain ⟨k, hk1, rfl⟩ := hat x hx
        obtain ⟨i, hi, rfl⟩ := List.getElem_of_mem hp
        have := (chkE_gram (hk k hk1 i hi)).1
        rw [at_nat _ i hi] at this
        exact entE_code this
end
section
theorem entE_gram {xs : List Int} {p b n words : Int} {last : Bool} (h : entE xs p b n words last = 0) : (xs.length : Int) = n ∧ ¬ BadW words xs := by
  unfold entE at h
  split at h
  · cases h
  · rename_i h1
    split at h
    · cases h
    · rename_i h2
      exact ⟨Classical.byContradiction h1, h2⟩
end
section
theorem chkM_words {kg : SV → List Int} {re : SV → List En} {fr : Int} {ws : List ByteArray} {gr : List SV} (h : chkM kg re fr ws gr = 0) :
    (∀ k : Nat, k < gr.length → ∀ p ∈ re (at_ gr (k : Int)), (kg p.1).length = k + 1) ∧ (re (at_ gr 0)).length = ws.length ∧ ∀ i : Nat, i < ws.length → kg (at_ (re (at_ gr 0)) (i : Int)).1 = [(i : Int)] := by
  obtain ⟨g1, -, -⟩ := chkM_zero h
  unfold chkM at h
  split at h
  · cases h
  split at h
  · contradiction
  have hk : ∀ k : Nat, k < gr.length → (∀ i : Nat, i < (re (at_ gr (k : Int))).length → chkE kg ws.length (decide ((k : Int) = (gr.length : Int) - 1)) k (re (at_ gr (k : Int))) (re (at_ gr ((k : Int) - 1))) i = 0) ∧ (k = 0 → (re (at_ gr (k : Int))).length = ws.length) := by
    intro k hk
    have hz := firstN_zero h k hk
    unfold chkL chkLs at hz
    split at hz
    · contradiction
    · rename_i hf
      refine ⟨firstN_zero (Classical.byContradiction hf), fun h0 => ?_⟩
      split at hz
      · cases hz
      · rename_i hn
        exact Classical.byContradiction fun hc => hn ⟨h0, hc⟩
  have e0 : (re (at_ gr 0)).length = ws.length := (hk 0 (by omega)).2 rfl
  have hg : ∀ k : Nat, k < gr.length → ∀ i : Nat, i < (re (at_ gr (k : Int))).length → (kg (at_ (re (at_ gr (k : Int))) (i : Int)).1).length = k + 1 ∧ ¬ BadW ws.length (kg (at_ (re (at_ gr (k : Int))) (i : Int)).1) := by
    intro k hk' i hi
    obtain ⟨q1, q2⟩ := entE_gram (chkE_gram ((hk k hk').1 i hi)).1
    exact ⟨by omega, q2⟩
  refine ⟨fun k hk' p hp => ?_, e0, ?_⟩
  · obtain ⟨i, hi, rfl⟩ := List.getElem_of_mem hp
    have := (hg k hk' i hi).1
    rwa [at_nat _ i hi] at this
  · have h0 : ∀ i : Nat, i < ws.length → ∃ v : Int, kg (at_ (re (at_ gr 0)) (i : Int)).1 = [v] ∧ 0 ≤ v ∧ v < ws.length := by
      intro i hi
      obtain ⟨q1, q2⟩ := hg 0 (by omega) i (by rw [show ((0 : Nat) : Int) = 0 from rfl, e0]; exact hi)
      rw [show ((0 : Nat) : Int) = 0 from rfl] at q1 q2
      obtain ⟨v, hv⟩ := List.length_eq_one_iff.1 q1
      refine ⟨v, hv, ?_⟩
      rw [hv] at q2
      have : ¬ (v < 0 ∨ (ws.length : Int) ≤ v) := fun hc => q2 ⟨v, List.mem_singleton.2 rfl, hc⟩
      omega
    have key := rise_id (a := fun i => (kg (at_ (re (at_ gr 0)) (i : Int)).1).headD 0) (n := ws.length) (fun i hi => by
      obtain ⟨v, hv, hb⟩ := h0 i hi
      simp only [hv, List.headD_cons]; exact hb) (fun i hi => by
      obtain ⟨v, hv, _⟩ := h0 i (by omega)
      obtain ⟨u, hu, _⟩ := h0 (i + 1) hi
      have hc := (chkE_gram ((hk 0 (by omega)).1 (i + 1) (by rw [show ((0 : Nat) : Int) = 0 from rfl, e0]; exact hi))).2.1 (by omega)
      rw [show ((0 : Nat) : Int) = 0 from rfl, show (((i + 1 : Nat) : Int) - 1) = (i : Int) by omega, hv, hu] at hc
      simp only [hv, hu, List.headD_cons]
      simp only [cmpL] at hc
      split at hc
      · assumption
      · split at hc
        · exact absurd hc (by decide)
        · exact absurd hc (by decide))
    intro i hi
    obtain ⟨v, hv, _⟩ := h0 i hi
    have := key i hi
    simp only [hv, List.headD_cons] at this
    rw [hv, this]
end
section
theorem chkM_fnd {kg : SV → List Int} {re : SV → List En} {fr : Int} {ws : List ByteArray} {gr : List SV} (h : chkM kg re fr ws gr = 0) {i : Nat} (hi : i < ws.length) :
    FndP kg re gr [(i : Int)] ∧ cdsG kg re gr [(i : Int)] = (at_ (re (at_ gr 0)) (i : Int)).2 := by
  obtain ⟨g1, g2, -⟩ := chkM_zero h
  obtain ⟨y1, y2, y3⟩ := chkM_words h
  have hm0 : at_ gr 0 ∈ gr := by rw [show (0 : Int) = ((0 : Nat) : Int) from rfl, at_nat gr 0 (by omega)]; exact List.getElem_mem _
  have e1 : (([(i : Int)] : List Int).length : Int) - 1 = 0 := rfl
  have hi2 : i < (re (at_ gr 0)).length := by omega
  refine ⟨⟨⟨by simp, by simpa using g1⟩, ?_⟩, ?_⟩
  · rw [e1]
    refine List.mem_map.2 ⟨at_ (re (at_ gr 0)) (i : Int), by rw [at_nat _ i hi2]; exact List.getElem_mem _, y3 i hi⟩
  · unfold cdsG entG
    rw [e1, hasN_uni (g2 _ hm0) hi2 (y3 i hi)]
end
end Go.Proofs.Ytcomkdndddkbeaa
namespace Go.Proofs.Ytcomkdndddkbeaa
open Go Go.Fw Go.RowKit
set_option linter.unusedVariables false
set_option linter.unusedSimpArgs false
set_option maxRecDepth 100000
set_option maxHeartbeats 16000000
set_option synthInstance.maxHeartbeats 200000
set_option synthInstance.maxSize 100000
attribute [local irreducible] WPA WLA WDA WDQ WDE QQ seqQ blockQ loopQ fnQ OpP OpT Tr TrP SL SLd OwnS LitS Bk BkE Ob
def GridH (x : SV) (bss : List (List Bool)) : HP := exH fun svs : List SV => pureH (svs.length = bss.length) (star (OwnS 35 x svs) (RowH 4 svs bss))
def GdI (J : Foot) (x : SV) (bss : List (List Bool)) : Prop := ∃ svs : List SV, SlI J x SV inferInstance svs ∧ svs.length = bss.length ∧ ∀ k : Nat, k < bss.length → SlI J (at_ svs (k : Int)) Bool inferInstance (bss.getD k [])
theorem GdI.sub {J J' : Foot} {x : SV} {bss : List (List Bool)} (h : GdI J x bss) (hs : SubI J' J) : GdI J' x bss := by
  obtain ⟨svs, h1, h2, h3⟩ := h
  exact ⟨svs, h1.sub, h2, fun k hk => (h3 k hk).sub⟩
theorem GridH.gd {J R : Foot} {x : SV} {bss : List (List Bool)} (h : GridH x bss R) (hs : SubI J R) : GdI J x bss := by
  obtain ⟨svs, h1, R1, R2, h2, h3, rfl⟩ := h
  have s1 : SubI J R1 := ⟨fun x hx => hs.out (List.mem_append_left _ hx)⟩
  have s2 : SubI J R2 := ⟨fun x hx => hs.out (List.mem_append_right _ hx)⟩
  refine ⟨svs, (SlI.ofOwn h2).sub, h1, fun k hk => ?_⟩
  have h := RowH.frozen h3 k (by omega) hk
  exact h.sub
theorem GridH.fold {x : SV} {svs : List SV} {bss : List (List Bool)} {L : List HP} (h : svs.length = bss.length) : Ent (OwnS 35 x svs :: RowH 4 svs bss :: L) (GridH x bss :: L) := Ent.ex svs (Ent.pure h (Ent.star Ent.refl))
def chR (n : Nat) (K : Nat → Bool) (k : Nat) : List Bool := (List.range n).map fun i : Nat => decide (k = 0) || K i
def chS (re : SV → List En) (gr : List SV) (K : Nat → Nat → Bool) : List (List Bool) := (List.range gr.length).map fun k : Nat => chR (re (at_ gr (k : Int))).length (K k) k
theorem chR_get {n : Nat} {K : Nat → Bool} {k i : Nat} (hi : i < n) : (chR n K k)[i]? = some (decide (k = 0) || K i) := by simp [chR, hi]
theorem chS_get {re : SV → List En} {gr : List SV} {K : Nat → Nat → Bool} {k : Nat} (hk : k < gr.length) : (chS re gr K)[k]? = some (chR (re (at_ gr (k : Int))).length (K k) k) := by simp [chS, hk]
theorem chS_len {re : SV → List En} {gr : List SV} {K : Nat → Nat → Bool} : (chS re gr K).length = gr.length := by simp [chS]
theorem take_set_snoc {α : Type} {l : List α} {k : Nat} (hk : k < l.length) (x : α) : (l.set k x).take (k + 1) = l.take k ++ [x] := by
  rw [List.take_add_one, List.take_set_of_le (Nat.le_refl _), List.getElem?_set_self hk]; rfl
theorem at_set {α : Type} [Enc α] {l : List α} {k : Nat} (hk : k < l.length) (x : α) : at_ (l.set k x) (k : Int) = x := by
  rw [at_nat _ k (by rw [List.length_set]; exact hk), List.getElem_set_self]
section
variable {ro : Option Nat} {P : Program} {N n i : Nat} {ops : Array Oper} {Q : Hnd} {T : World → Prop} {ρ : Env} {A : World → Prop} {r : Plan} {ty : TypeId} {pos : String} {af : Array Edge} {g : Option (Nat × Bool)} {d : Tmp}
theorem WDE.callV {c : Operand} {caps : List Value} {f : FuncId} {args : List Operand} {argTypes : Array TypeId} {vs : List Value} {w0 : World} {I : Foot} {L : List HP} {τ : Type} {val : τ → Value} {B : τ → World → Prop} [hv : EvAll ρ args vs] [hcv : Ev ρ c (.func (.func f) #[] caps.toArray)] [hf : Callb P f] [hA : InSL A w0 I L] (hw : Region.wanted ⟨some d, .call { callee := .value c, args := args.toArray, argTypes := argTypes }, ty, pos, af, g⟩ (yieldedE N ops ρ) = true) (hd : Nat.blt d N = true)
    (hc : Tr P f (vs ++ caps).toArray (SL w0 I L) val B) [hdr : ∀ x, DrC (B x)] [hT : ∀ x, SubT (B x) T] (hm : ∀ x w, B x w → A w) (k : ∀ x, WDA ro P N ops Q T n r (put1 ρ d (val x)) (B x)) : WDE ro P N ops Q T n ⟨some d, .call { callee := .value c, args := args.toArray, argTypes := argTypes }, ty, pos, af, g⟩ r ρ A :=
  WDE.ev hw (OpT.callV hc) hdr (fun x => (hT x).out) hm (fun x => by rw [upd_put1 hd]; exact k x)
end
attribute [local irreducible] RowH
section
variable {L : List HP} {w0 : World} {I : Foot}
theorem choice_tr {fid : FuncId} [hf : Callb Try.prog fid] {caps : List Value} {fr : Int} {wv g : SV} {gr : List SV} {re : SV → List En} {K : Nat → Nat → Bool} (hg : SlI I g SV inferInstance gr) (hR : ∀ h ∈ gr, SlI I h En inferInstance (re h)) (hn : gr.length ≤ 1000000) (hl : ∀ h ∈ gr, (re h).length ≤ 1000000)
    (hK : ∀ (k i : Nat) (L : List HP), 0 < k → k < gr.length → i < (re (at_ gr (k : Int))).length → Tr Try.prog fid (([.int .i64 k, .int .i64 i, .agg #[.slice (at_ (re (at_ gr (k : Int))) (i : Int)).1.a (at_ (re (at_ gr (k : Int))) (i : Int)).1.n (at_ (re (at_ gr (k : Int))) (i : Int)).1.cap, .int .i64 (at_ (re (at_ gr (k : Int))) (i : Int)).2.1, .int .i64 (at_ (re (at_ gr (k : Int))) (i : Int)).2.2]] ++ caps : List Value).toArray) (SL w0 I L) (fun _ : Unit => .bool (K k i)) (fun _ => SL w0 I L)) :
    Tr Try.prog 25 #[.agg #[.int .i64 fr, .slice wv.a wv.n wv.cap, .slice g.a g.n g.cap], .func (.func fid) #[] caps.toArray] (SL w0 I L) (fun x : SV => .slice x.a x.n x.cap) (fun x => SL w0 I (GridH x (chS re gr K) :: L)) := by
  refine Tr.intro Try.func25 rfl Try.ntmps25 rfl ?_
  repeat' (first | ((first | refine WLA.m rfl rfl ?_ ?_ | refine WLA.st rfl ?_ ?_ | refine WLA.x rfl rfl ?_ (fun x => ?_) | refine WLA.x0 rfl ?_ (fun x => ?_)); first | exact trivial | exact rfl | assumption | omega | (refine ⟨?_, ?_⟩ <;> omega) | (simp only [Room, List.length_set, List.length_append, List.length_cons, List.length_nil, List.length_replicate]; omega) | decide | skip) | (refine Stp.go ?_) | (refine WPA.ifT ?_) | (refine WPA.ifF ?_) | ((first | refine WPA.dec ?_); first | refine .inl ⟨by first | assumption | omega | with_reducible rfl | (refine fun h => h ?_; first | assumption | with_reducible rfl) | (simp only [List.length_append, List.length_cons, List.length_nil, List.length_set] <;> omega) | decide, ?_⟩ | refine .inr ⟨by first | assumption | omega | with_reducible rfl | (refine fun h => h ?_; first | assumption | with_reducible rfl) | (simp only [List.length_append, List.length_cons, List.length_nil, List.length_set] <;> omega) | decide, ?_⟩) | ((first | refine WPA.ifBt ?_ ?_ | refine WPA.ifBnf ?_ ?_); assumption) | ((first | refine WPA.ifBnt ?_ ?_ | refine WPA.ifBf ?_ ?_); assumption) | ((first | refine WPA.ifs ?_ ?_ | refine WPA.ifB ?_ ?_) <;> intro hc))
  rename_i t2
  revert x; intro o
  rw [show List.replicate (gr.length : Int).toNat SV.nil = List.replicate gr.length SV.nil from rfl]
  refine WPA.loopS (σ := Nat × List SV) (fun y => [(1, .func (.func fid) #[] caps.toArray), (2, .pointer (some ⟨t2, 0, none⟩)), (5, .slice o.a o.n o.cap), (15, .slice g.a g.n g.cap), (16, .int .i64 gr.length), (17, .int .i64 y.1)]) (fun y => y.1 ≤ gr.length ∧ y.2.length = gr.length)
    (fun y => SL w0 I (OwnS 35 o y.2 :: RowH 4 (y.2.take y.1) ((chS re gr K).take y.1) :: Bk t2 25 [.int .i64 fr, .slice wv.a wv.n wv.cap, .slice g.a g.n g.cap] :: L)) (fun y => gr.length - y.1) (0, List.replicate gr.length SV.nil) ⟨rfl, rfl, rfl, rfl, rfl, rfl, trivial⟩ ⟨Nat.zero_le _, by simp⟩ (fun w h => ?_) ?_
  · have h2 := (RowH.nil (α := Bool) (e := 4)).sl h
    show SL w0 I (OwnS 35 o (List.replicate gr.length SV.nil) :: RowH 4 [] ([] : List (List Bool)) :: Bk t2 25 [.int .i64 fr, .slice wv.a wv.n wv.cap, .slice g.a g.n g.cap] :: L) w
    exact h2.to
  rintro ⟨k, svs⟩ ρ ⟨hk, hs⟩
  dsimp only at hk hs ⊢
  by_cases hkl : k < gr.length
  · have hkl' : (k : Int) < gr.length := by omega
    have hks : (k : Int) < svs.length := by omega
    have hme : at_ gr (k : Int) ∈ gr := by rw [at_nat gr k hkl]; exact List.getElem_mem _
    have hRk := hR _ hme
    have hlk := hl _ hme
    have hKk := fun (i : Nat) (L : List HP) (h0 : 0 < k) => hK k i L h0 hkl
    have hget := chS_get (re := re) (K := K) hkl
    generalize re (at_ gr (k : Int)) = es at hRk hlk hKk hget
    repeat' (first | ((first | refine WLA.m rfl rfl ?_ ?_ | refine WLA.st rfl ?_ ?_ | refine WLA.x rfl rfl ?_ (fun x => ?_) | refine WLA.x0 rfl ?_ (fun x => ?_)); first | exact trivial | exact rfl | assumption | omega | (refine ⟨?_, ?_⟩ <;> omega) | (simp only [Room, List.length_set, List.length_append, List.length_cons, List.length_nil, List.length_replicate]; omega) | decide | skip) | (refine Stp.go ?_) | (refine WPA.ifT ?_) | (refine WPA.ifF ?_) | ((first | refine WPA.dec ?_); first | refine .inl ⟨by first | assumption | omega | with_reducible rfl | (refine fun h => h ?_; first | assumption | with_reducible rfl) | (simp only [List.length_append, List.length_cons, List.length_nil, List.length_set] <;> omega) | decide, ?_⟩ | refine .inr ⟨by first | assumption | omega | with_reducible rfl | (refine fun h => h ?_; first | assumption | with_reducible rfl) | (simp only [List.length_append, List.length_cons, List.length_nil, List.length_set] <;> omega) | decide, ?_⟩) | ((first | refine WPA.ifBt ?_ ?_ | refine WPA.ifBnf ?_ ?_); assumption) | ((first | refine WPA.ifBnt ?_ ?_ | refine WPA.ifBf ?_ ?_); assumption) | ((first | refine WPA.ifs ?_ ?_ | refine WPA.ifB ?_ ?_) <;> intro hc))
    revert x; intro c
    have hat : at_ (svs.set k c) (k : Int) = c := at_set (by omega) c
    have hsl : (svs.set k c).length = gr.length := by rw [List.length_set, hs]
    have htk : (svs.set k c).take (k + 1) = svs.take k ++ [c] := take_set_snoc (by omega) c
    rw [show List.replicate (es.length : Int).toNat false = List.replicate es.length false from rfl, show svs.set (k : Int).toNat c = svs.set k c from rfl]
    generalize svs.set k c = svs' at hat hsl htk
    have hks' : (k : Int) < svs'.length := by omega
    refine WPA.loopS (σ := Nat × List Bool) (fun y => [(1, .func (.func fid) #[] caps.toArray), (2, .pointer (some ⟨t2, 0, none⟩)), (5, .slice o.a o.n o.cap), (15, .slice g.a g.n g.cap), (16, .int .i64 gr.length), (17, .int .i64 k), (6, .int .i64 k), (28, .slice (at_ gr (k : Int)).a (at_ gr (k : Int)).n (at_ gr (k : Int)).cap), (29, .int .i64 es.length), (30, .int .i64 y.1)]) (fun y => (y.1 ≤ es.length ∧ y.2.length = es.length) ∧ y.2.take y.1 = (chR es.length (K k) k).take y.1)
      (fun y => SL w0 I (OwnS 4 c y.2 :: OwnS 35 o svs' :: RowH 4 (svs.take k) ((chS re gr K).take k) :: Bk t2 25 [.int .i64 fr, .slice wv.a wv.n wv.cap, .slice g.a g.n g.cap] :: L)) (fun y => es.length - y.1) (0, List.replicate es.length false) ⟨rfl, rfl, rfl, rfl, rfl, rfl, rfl, rfl, rfl, rfl, trivial⟩ ⟨⟨Nat.zero_le _, by simp⟩, rfl⟩ (fun w h => h.to) ?_
    rintro ⟨i, bs⟩ ρ ⟨⟨hi, hb⟩, ht⟩
    dsimp only at hi hb ht ⊢
    by_cases hil : i < es.length
    · have hil' : (i : Int) < es.length := by omega
      have hib : (i : Int) < bs.length := by omega
      have hnew : ∀ b : Bool, b = (decide (k = 0) || K k i) → (bs.set (i : Int).toNat b).take (i + 1) = (chR es.length (K k) k).take (i + 1) := by
        intro b hb'
        rw [show (i : Int).toNat = i from rfl, take_set_snoc (by omega), ht, List.take_add_one, chR_get hil, hb']; rfl
      by_cases h0 : k = 0
      · have h0' : (k : Int) = 0 := by omega
        repeat' (first | ((rw [hat])) | ((first | refine WLA.m rfl rfl ?_ ?_ | refine WDQ.m rfl rfl ?_ ?_ | refine WLA.st rfl ?_ ?_ | refine WLA.x rfl rfl ?_ (fun x => ?_) | refine WLA.x0 rfl ?_ (fun x => ?_)); first | exact trivial | exact rfl | assumption | omega | (refine ⟨?_, ?_⟩ <;> omega) | (simp only [Room, List.length_set, List.length_append, List.length_cons, List.length_nil, List.length_replicate]; omega) | decide | skip) | (refine Stp.go ?_) | (refine WPA.ifT ?_) | (refine WPA.ifF ?_) | (refine WLA.no rfl rfl ?_) | (refine WDQ.no rfl rfl ?_) | ((first | refine WPA.dec ?_ | ((fail_if_success (guard_target =~ WLA _ _ _ _ _ _ (put1 _ _ (.bool true)) _)); (fail_if_success (guard_target =~ WLA _ _ _ _ _ _ (put1 _ _ (.bool false)) _)); refine WLA.dec rfl rfl ?_) | refine WLA.pk ?_ | refine WDQ.dec rfl rfl ?_); first | refine .inl ⟨by first | assumption | omega | with_reducible rfl | (refine fun h => h ?_; first | assumption | with_reducible rfl) | (simp only [List.length_append, List.length_cons, List.length_nil, List.length_set] <;> omega) | decide, ?_⟩ | refine .inr ⟨by first | assumption | omega | with_reducible rfl | (refine fun h => h ?_; first | assumption | with_reducible rfl) | (simp only [List.length_append, List.length_cons, List.length_nil, List.length_set] <;> omega) | decide, ?_⟩) | ((first | refine WPA.ifBt ?_ ?_ | refine WPA.ifBnf ?_ ?_); assumption) | ((first | refine WPA.ifBnt ?_ ?_ | refine WPA.ifBf ?_ ?_); assumption) | ((first | refine WPA.ifs ?_ ?_ | refine WPA.ifB ?_ ?_) <;> intro hc) | ((fail_if_success (guard_target =~ WLA _ _ _ _ _ _ (put1 _ _ (.bool true)) _)); (fail_if_success (guard_target =~ WLA _ _ _ _ _ _ (put1 _ _ (.bool false)) _)); (first | refine WLA.both rfl rfl ?_ ?_ | refine WLA.bothB rfl rfl ?_ ?_) <;> intro hg) | (guard_target =~ WPA _ _ _ (.region 9 _ true) _ _ _; refine WPA.drawT 14 (.q 0 (.q 1 (.q 2 (.q 3 (.q 4 (.q 5 (.q 6 (.q 7 (.q 8 (.q 9 (.q 10 (.q 11 (.q 12 (.q 13 .fin)))))))))))))) mixed ?_ ?_; kernel_rfl) | (refine WDA.finish (tl := [⟨_, _, _, _, _, _⟩, ⟨_, _, _, _, _, _⟩]) rfl ?_) | (refine WDQ.see rfl ?_) | ((first | refine WDQ.both rfl rfl ?_ ?_) <;> intro hg))
        all_goals exact QQ.loopS (i + 1, bs.set (i : Int).toNat true) ⟨rfl, rfl, rfl, rfl, rfl, rfl, rfl, rfl, rfl, rfl, trivial⟩ ⟨⟨hil, by simp [hb]⟩, hnew true (by simp [h0])⟩ (by dsimp only; omega) (fun w h => h.to)
      · have h0' : ¬ (k : Int) = 0 := by omega
        have hKi := fun L => hKk i L (by omega) hil
        repeat' (first | ((rw [hat])) | ((first | refine WLA.m rfl rfl ?_ ?_ | refine WDQ.m rfl rfl ?_ ?_ | refine WLA.st rfl ?_ ?_ | refine WLA.x rfl rfl ?_ (fun x => ?_) | refine WLA.x0 rfl ?_ (fun x => ?_)); first | exact trivial | exact rfl | assumption | omega | (refine ⟨?_, ?_⟩ <;> omega) | (simp only [Room, List.length_set, List.length_append, List.length_cons, List.length_nil, List.length_replicate]; omega) | decide | skip) | (refine Stp.go ?_) | (guard_target =~ WLA _ _ _ _ _ (⟨_, .call ⟨.value (.tmp _), _, _⟩, _, _, _, _⟩ :: _) _ _; refine WLA.callV rfl rfl (hKi _) ?_; rintro ⟨⟩) | (refine WPA.ifT ?_) | (refine WPA.ifF ?_) | (refine WLA.no rfl rfl ?_) | (refine WDQ.no rfl rfl ?_) | ((first | refine WPA.dec ?_ | ((fail_if_success (guard_target =~ WLA _ _ _ _ _ _ (put1 _ _ (.bool true)) _)); (fail_if_success (guard_target =~ WLA _ _ _ _ _ _ (put1 _ _ (.bool false)) _)); refine WLA.dec rfl rfl ?_) | refine WLA.pk ?_ | refine WDQ.dec rfl rfl ?_); first | refine .inl ⟨by first | assumption | omega | with_reducible rfl | (refine fun h => h ?_; first | assumption | with_reducible rfl) | (simp only [List.length_append, List.length_cons, List.length_nil, List.length_set] <;> omega) | decide, ?_⟩ | refine .inr ⟨by first | assumption | omega | with_reducible rfl | (refine fun h => h ?_; first | assumption | with_reducible rfl) | (simp only [List.length_append, List.length_cons, List.length_nil, List.length_set] <;> omega) | decide, ?_⟩) | ((first | refine WPA.ifBt ?_ ?_ | refine WPA.ifBnf ?_ ?_); assumption) | ((first | refine WPA.ifBnt ?_ ?_ | refine WPA.ifBf ?_ ?_); assumption) | ((first | refine WPA.ifs ?_ ?_ | refine WPA.ifB ?_ ?_) <;> intro hc) | ((fail_if_success (guard_target =~ WLA _ _ _ _ _ _ (put1 _ _ (.bool true)) _)); (fail_if_success (guard_target =~ WLA _ _ _ _ _ _ (put1 _ _ (.bool false)) _)); (first | refine WLA.both rfl rfl ?_ ?_ | refine WLA.bothB rfl rfl ?_ ?_) <;> intro hg) | (guard_target =~ WPA _ _ _ (.region 9 _ true) _ _ _; refine WPA.drawT 14 (.q 0 (.q 1 (.q 2 (.q 3 (.q 4 (.q 5 (.q 6 (.q 7 (.q 8 (.q 9 (.q 10 (.q 11 (.e 12 (.q 13 .fin)))))))))))))) mixed ?_ ?_; kernel_rfl) | (refine WDA.finish (tl := [⟨_, _, _, _, _, _⟩, ⟨_, _, _, _, _, _⟩]) rfl ?_) | (refine WDQ.see rfl ?_) | (refine WDE.see rfl ?_) | (refine WDE.alloc rfl rfl (fun w h => h) (fun x => ?_)) | (refine WDE.stE rfl ?_) | (refine WDE.x rfl rfl ?_ ?_ (fun x => ?_); rotate_left 1; (intro x w h; first | exact h | exact Ent.drop1.sl h | exact SL.unI h | exact SL.to h); rotate_left 1; first | exact trivial | exact rfl | assumption | omega | (refine ⟨?_, ?_⟩ <;> omega) | (simp only [Room, List.length_set, List.length_append, List.length_cons, List.length_nil, List.length_replicate]; omega) | decide | skip) | (guard_target =~ WDE _ _ _ _ _ _ _ ⟨_, .call ⟨.value (.tmp _), _, _⟩, _, _, _, _⟩ _ _ _; refine WDE.callV rfl rfl (hKi _) ?_ ?_; (intro x w h; first | exact h | exact Ent.drop1.sl h | exact SL.unI h | exact SL.to h); rintro ⟨⟩) | ((first | refine WDQ.both rfl rfl ?_ ?_) <;> intro hg))
        all_goals exact QQ.loopS (i + 1, bs.set (i : Int).toNat (K k i)) ⟨rfl, rfl, rfl, rfl, rfl, rfl, rfl, rfl, rfl, rfl, trivial⟩ ⟨⟨hil, by simp [hb]⟩, hnew (K k i) (by simp [h0])⟩ (by dsimp only; omega) (fun w h => h.to)
    · have hil' : ¬ (i : Int) < es.length := by omega
      rw [List.take_of_length_le (by omega), List.take_of_length_le (by simp [chR]; omega)] at ht
      repeat' (first | ((first | refine WLA.m rfl rfl ?_ ?_ | refine WLA.st rfl ?_ ?_ | refine WLA.x rfl rfl ?_ (fun x => ?_) | refine WLA.x0 rfl ?_ (fun x => ?_)); first | exact trivial | exact rfl | assumption | omega | (refine ⟨?_, ?_⟩ <;> omega) | (simp only [Room, List.length_set, List.length_append, List.length_cons, List.length_nil, List.length_replicate]; omega) | decide | skip) | (refine Stp.go ?_) | (refine WPA.ifT ?_) | (refine WPA.ifF ?_) | ((first | refine WPA.dec ?_); first | refine .inl ⟨by first | assumption | omega | with_reducible rfl | (refine fun h => h ?_; first | assumption | with_reducible rfl) | (simp only [List.length_append, List.length_cons, List.length_nil, List.length_set] <;> omega) | decide, ?_⟩ | refine .inr ⟨by first | assumption | omega | with_reducible rfl | (refine fun h => h ?_; first | assumption | with_reducible rfl) | (simp only [List.length_append, List.length_cons, List.length_nil, List.length_set] <;> omega) | decide, ?_⟩) | ((first | refine WPA.ifBt ?_ ?_ | refine WPA.ifBnf ?_ ?_); assumption) | ((first | refine WPA.ifBnt ?_ ?_ | refine WPA.ifBf ?_ ?_); assumption) | ((first | refine WPA.ifs ?_ ?_ | refine WPA.ifB ?_ ?_) <;> intro hc))
      refine QQ.loopS (k + 1, svs') ⟨rfl, rfl, rfl, rfl, rfl, rfl, trivial⟩ ⟨by dsimp only; omega, hsl⟩ (by dsimp only; omega) (fun w h => ?_)
      dsimp only
      have e : (chS re gr K).take (k + 1) = (chS re gr K).take k ++ [bs] := by rw [List.take_add_one, hget, ht]; rfl
      rw [e, htk]
      have h2 := (EntC.out (L' := OwnS 4 c bs :: RowH 4 (svs.take k) ((chS re gr K).take k) :: OwnS 35 o svs' :: Bk t2 25 [.int .i64 fr, .slice wv.a wv.n wv.cap, .slice g.a g.n g.cap] :: L)).sl h
      have h3 := (RowH.snoc (by rw [List.length_take, List.length_take, chS_len]; omega)).sl h2
      exact h3.to
  · have hkl' : ¬ (k : Int) < gr.length := by omega
    rw [List.take_of_length_le (by omega), List.take_of_length_le (by rw [chS_len]; omega)]
    repeat' (first | ((first | refine WLA.m rfl rfl ?_ ?_ | refine WLA.st rfl ?_ ?_ | refine WLA.x rfl rfl ?_ (fun x => ?_) | refine WLA.x0 rfl ?_ (fun x => ?_)); first | exact trivial | exact rfl | assumption | omega | (refine ⟨?_, ?_⟩ <;> omega) | (simp only [Room, List.length_set, List.length_append, List.length_cons, List.length_nil, List.length_replicate]; omega) | decide | skip) | (refine Stp.go ?_) | (refine WPA.ifT ?_) | (refine WPA.ifF ?_) | ((first | refine WPA.dec ?_); first | refine .inl ⟨by first | assumption | omega | with_reducible rfl | (refine fun h => h ?_; first | assumption | with_reducible rfl) | (simp only [List.length_append, List.length_cons, List.length_nil, List.length_set] <;> omega) | decide, ?_⟩ | refine .inr ⟨by first | assumption | omega | with_reducible rfl | (refine fun h => h ?_; first | assumption | with_reducible rfl) | (simp only [List.length_append, List.length_cons, List.length_nil, List.length_set] <;> omega) | decide, ?_⟩) | ((first | refine WPA.ifBt ?_ ?_ | refine WPA.ifBnf ?_ ?_); assumption) | ((first | refine WPA.ifBnt ?_ ?_ | refine WPA.ifBf ?_ ?_); assumption) | ((first | refine WPA.ifs ?_ ?_ | refine WPA.ifB ?_ ?_) <;> intro hc))
    exact QQ.end_ rfl o rfl fun w h => ((GridH.fold (by rw [chS_len]; exact hs)).sl h).to
end
end Go.Proofs.Ytcomkdndddkbeaa
