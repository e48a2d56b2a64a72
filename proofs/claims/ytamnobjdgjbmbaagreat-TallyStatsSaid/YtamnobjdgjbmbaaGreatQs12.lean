/- Texts that TallyStats_law leans on, part 12. Conditions: none. -/
import Derived.Test.YtamnobjdgjbmbaaGreatQs11
namespace Go.Proofs.YtamnobjdgjbmbaaGreat
open Go Go.Fw Go.RowKit
set_option linter.unusedVariables false
set_option linter.unusedSimpArgs false
set_option maxRecDepth 100000
set_option maxHeartbeats 16000000
set_option synthInstance.maxHeartbeats 200000
set_option synthInstance.maxSize 100000
attribute [local irreducible] WPA WLA WDA WDQ WDE QQ seqQ blockQ loopQ fnQ OpP OpT Tr TrP SL SLd OwnS LitS Bk BkE Ob
section
variable {R p : Nat} {t : ByteArray} {L L' M : List HP} {w0 : World} {I : Foot}
abbrev RdV (t : ByteArray) (p e : Int) : List Value := [.string t, .int .i64 p, .int .i64 e]
theorem step_no {e : Int} {f : Value} [h : FindBk L R 158 (RdV t p e) L'] (he : e ≠ 0) : TrP Tryz.prog 102 #[.pointer (some ⟨R, 0, none⟩), f] (SL w0 I L) (.bool false) := by
  refine TrP.ofD fun u => Tr.intro Tryz.func102 rfl Tryz.ntmps102 rfl ?_
  repeat' (first | ((first | refine WLA.m rfl rfl ?_ ?_ | refine WLA.st rfl ?_ ?_ | refine WLA.x rfl rfl ?_ (fun x => ?_) | refine WLA.x0 rfl ?_ (fun x => ?_)); first | exact trivial | exact rfl | assumption | omega | (refine ⟨?_, ?_⟩ <;> omega) | (simp only [Room, lenS]; omega) | decide | skip) | (refine Stp.go ?_) | (refine WPA.ifT ?_) | (refine WPA.ifF ?_) | (refine WLA.no rfl rfl ?_) | ((first | refine WPA.dec ?_ | ((fail_if_success (guard_target =~ WLA _ _ _ _ _ _ (put1 _ _ (.bool true)) _)); (fail_if_success (guard_target =~ WLA _ _ _ _ _ _ (put1 _ _ (.bool false)) _)); refine WLA.dec rfl rfl ?_) | refine WLA.pk ?_); first | refine .inl ⟨by first | assumption | omega | with_reducible rfl | (refine fun h => h ?_; first | assumption | with_reducible rfl) | (simp only [lenS] <;> omega) | decide, ?_⟩ | refine .inr ⟨by first | assumption | omega | with_reducible rfl | (refine fun h => h ?_; first | assumption | with_reducible rfl) | (simp only [lenS] <;> omega) | decide, ?_⟩) | ((first | refine WPA.ifBt ?_ ?_ | refine WPA.ifBnf ?_ ?_); assumption) | ((first | refine WPA.ifBnt ?_ ?_ | refine WPA.ifBf ?_ ?_); assumption) | ((first | refine WPA.ifs ?_ ?_ | refine WPA.ifB ?_ ?_) <;> intro hc) | ((fail_if_success (guard_target =~ WLA _ _ _ _ _ _ (put1 _ _ (.bool true)) _)); (fail_if_success (guard_target =~ WLA _ _ _ _ _ _ (put1 _ _ (.bool false)) _)); (first | refine WLA.both rfl rfl ?_ ?_ | refine WLA.bothB rfl rfl ?_ ?_) <;> intro hg))
  exact QQ.end_ rfl () rfl fun w h => h
theorem step_bad {fid : FuncId} [hf : Callb Tryz.prog fid] {caps : List Value} {n e : Int} [h : FindBk L R 158 (RdV t p 0) L'] (he : e ≠ 0) (hp : p ≤ t.size)
    (hc : Tr Tryz.prog fid ([Value.string (t.extract p t.size)] ++ caps).toArray (SL w0 I (Bk R 158 (RdV t p 0) :: L')) (fun _ : Unit => .tuple #[.int .i64 n, .int .i64 e]) (fun _ => SL w0 I (Bk R 158 (RdV t p 0) :: M))) :
    Tr Tryz.prog 102 #[.pointer (some ⟨R, 0, none⟩), .func (.func fid) #[] caps.toArray] (SL w0 I L) (fun _ : Unit => .bool false) (fun _ => SL w0 I (Bk R 158 (RdV t p e) :: M)) := by
  refine Tr.at h.out ?_
  refine Tr.intro Tryz.func102 rfl Tryz.ntmps102 rfl ?_
  have hpr : (0 : Int) ≤ p ∧ (p : Int) ≤ t.size := by omega
  have hpx : t.extract (p : Int).toNat (t.size : Int).toNat = t.extract p t.size := rfl
  repeat' (first | ((rw [hpx])) | ((first | refine WLA.m rfl rfl ?_ ?_ | refine WDQ.m rfl rfl ?_ ?_ | refine WDP.m rfl rfl ?_ ?_ | refine WLA.st rfl ?_ ?_ | refine WLA.x rfl rfl ?_ (fun x => ?_) | refine WLA.x0 rfl ?_ (fun x => ?_) | refine WDW.x rfl rfl ?_ (fun x => ?_) | refine WDW.st rfl ?_ ?_); first | exact trivial | exact rfl | assumption | omega | (refine ⟨?_, ?_⟩ <;> omega) | (simp only [Room, lenS]; omega) | decide | skip) | (refine Stp.go ?_) | (guard_target =~ WLA _ _ _ _ _ (⟨_, .call ⟨.value (.tmp _), _, _⟩, _, _, _, _⟩ :: _) _ _; refine WLA.callV rfl rfl (hc) ?_; rintro ⟨⟩) | (refine WPA.ifT ?_) | (refine WPA.ifF ?_) | (refine WLA.no rfl rfl ?_) | ((first | refine WPA.dec ?_ | ((fail_if_success (guard_target =~ WLA _ _ _ _ _ _ (put1 _ _ (.bool true)) _)); (fail_if_success (guard_target =~ WLA _ _ _ _ _ _ (put1 _ _ (.bool false)) _)); refine WLA.dec rfl rfl ?_) | refine WLA.pk ?_); first | refine .inl ⟨by first | assumption | omega | with_reducible rfl | (refine fun h => h ?_; first | assumption | with_reducible rfl) | (simp only [lenS] <;> omega) | decide, ?_⟩ | refine .inr ⟨by first | assumption | omega | with_reducible rfl | (refine fun h => h ?_; first | assumption | with_reducible rfl) | (simp only [lenS] <;> omega) | decide, ?_⟩) | ((first | refine WPA.ifBt ?_ ?_ | refine WPA.ifBnf ?_ ?_); assumption) | ((first | refine WPA.ifBnt ?_ ?_ | refine WPA.ifBf ?_ ?_); assumption) | ((first | refine WPA.ifs ?_ ?_ | refine WPA.ifB ?_ ?_) <;> intro hc) | ((fail_if_success (guard_target =~ WLA _ _ _ _ _ _ (put1 _ _ (.bool true)) _)); (fail_if_success (guard_target =~ WLA _ _ _ _ _ _ (put1 _ _ (.bool false)) _)); (first | refine WLA.both rfl rfl ?_ ?_ | refine WLA.bothB rfl rfl ?_ ?_) <;> intro hg) | (guard_target =~ WPA _ _ _ (.region 3 _ true) _ _ _; refine WPA.drawT 15 (.p 0 (.p 1 (.p 2 (.p 3 (.q 4 (.p 5 (.p 6 (.p 7 (.q 8 (.q 9 (.w 10 (.p 11 (.p 12 (.p 13 (.p 14 .fin))))))))))))))) mixed ?_ ?_; kernel_rfl) | (refine WDA.finish (tl := [⟨_, _, _, _, _, _⟩]) rfl ?_) | (refine WDQ.see rfl ?_) | (refine WDP.see rfl ?_) | (refine WDW.see rfl ?_) | (guard_target =~ WDW _ _ _ _ _ _ _ ⟨_, .call ⟨.value (.tmp _), _, _⟩, _, _, _, _⟩ _ _ _; refine WDW.callV rfl rfl (hc) ?_; rintro ⟨⟩))
  exact QQ.end_ rfl () rfl fun w h => h.to
theorem step_ok {fid : FuncId} [hf : Callb Tryz.prog fid] {caps : List Value} {n : Int} [h : FindBk L R 158 (RdV t p 0) L'] (hp : p ≤ t.size) (hn : 0 ≤ p + n ∧ p + n ≤ 1000000000000)
    (hc : Tr Tryz.prog fid ([Value.string (t.extract p t.size)] ++ caps).toArray (SL w0 I (Bk R 158 (RdV t p 0) :: L')) (fun _ : Unit => .tuple #[.int .i64 n, .int .i64 0]) (fun _ => SL w0 I (Bk R 158 (RdV t p 0) :: M))) :
    Tr Tryz.prog 102 #[.pointer (some ⟨R, 0, none⟩), .func (.func fid) #[] caps.toArray] (SL w0 I L) (fun _ : Unit => .bool true) (fun _ => SL w0 I (Bk R 158 (RdV t (p + n) 0) :: M)) := by
  refine Tr.at h.out ?_
  refine Tr.intro Tryz.func102 rfl Tryz.ntmps102 rfl ?_
  have hpr : (0 : Int) ≤ p ∧ (p : Int) ≤ t.size := by omega
  have hpx : t.extract (p : Int).toNat (t.size : Int).toNat = t.extract p t.size := rfl
  repeat' (first | ((rw [hpx])) | ((first | refine WLA.m rfl rfl ?_ ?_ | refine WDQ.m rfl rfl ?_ ?_ | refine WDP.m rfl rfl ?_ ?_ | refine WLA.st rfl ?_ ?_ | refine WLA.x rfl rfl ?_ (fun x => ?_) | refine WLA.x0 rfl ?_ (fun x => ?_) | refine WDW.x rfl rfl ?_ (fun x => ?_) | refine WDW.st rfl ?_ ?_); first | exact trivial | exact rfl | assumption | omega | (refine ⟨?_, ?_⟩ <;> omega) | (simp only [Room, lenS]; omega) | decide | skip) | (refine Stp.go ?_) | (guard_target =~ WLA _ _ _ _ _ (⟨_, .call ⟨.value (.tmp _), _, _⟩, _, _, _, _⟩ :: _) _ _; refine WLA.callV rfl rfl (hc) ?_; rintro ⟨⟩) | (refine WPA.ifT ?_) | (refine WPA.ifF ?_) | (refine WLA.no rfl rfl ?_) | ((first | refine WPA.dec ?_ | ((fail_if_success (guard_target =~ WLA _ _ _ _ _ _ (put1 _ _ (.bool true)) _)); (fail_if_success (guard_target =~ WLA _ _ _ _ _ _ (put1 _ _ (.bool false)) _)); refine WLA.dec rfl rfl ?_) | refine WLA.pk ?_); first | refine .inl ⟨by first | assumption | omega | with_reducible rfl | (refine fun h => h ?_; first | assumption | with_reducible rfl) | (simp only [lenS] <;> omega) | decide, ?_⟩ | refine .inr ⟨by first | assumption | omega | with_reducible rfl | (refine fun h => h ?_; first | assumption | with_reducible rfl) | (simp only [lenS] <;> omega) | decide, ?_⟩) | ((first | refine WPA.ifBt ?_ ?_ | refine WPA.ifBnf ?_ ?_); assumption) | ((first | refine WPA.ifBnt ?_ ?_ | refine WPA.ifBf ?_ ?_); assumption) | ((first | refine WPA.ifs ?_ ?_ | refine WPA.ifB ?_ ?_) <;> intro hc) | ((fail_if_success (guard_target =~ WLA _ _ _ _ _ _ (put1 _ _ (.bool true)) _)); (fail_if_success (guard_target =~ WLA _ _ _ _ _ _ (put1 _ _ (.bool false)) _)); (first | refine WLA.both rfl rfl ?_ ?_ | refine WLA.bothB rfl rfl ?_ ?_) <;> intro hg) | (guard_target =~ WPA _ _ _ (.region 3 _ true) _ _ _; refine WPA.drawT 15 (.p 0 (.p 1 (.p 2 (.p 3 (.q 4 (.p 5 (.p 6 (.p 7 (.q 8 (.q 9 (.w 10 (.p 11 (.p 12 (.p 13 (.p 14 .fin))))))))))))))) mixed ?_ ?_; kernel_rfl) | (refine WDA.finish (tl := [⟨_, _, _, _, _, _⟩]) rfl ?_) | (refine WDQ.see rfl ?_) | (refine WDP.see rfl ?_) | (refine WDW.see rfl ?_) | (guard_target =~ WDW _ _ _ _ _ _ _ ⟨_, .call ⟨.value (.tmp _), _, _⟩, _, _, _, _⟩ _ _ _; refine WDW.callV rfl rfl (hc) ?_; rintro ⟨⟩))
  exact QQ.end_ rfl () rfl fun w h => h.to
theorem Err_tr {q e : Int} [h : FindBk L R 158 (RdV t q e) L'] : TrP Tryz.prog 80 #[.pointer (some ⟨R, 0, none⟩)] (SL w0 I L) (.int .i64 e) := by
  refine TrP.ofD fun u => Tr.intro Tryz.func80 rfl Tryz.ntmps80 rfl ?_
  repeat' (first | ((first | refine WLA.m rfl rfl ?_ ?_ | refine WLA.st rfl ?_ ?_ | refine WLA.x rfl rfl ?_ (fun x => ?_) | refine WLA.x0 rfl ?_ (fun x => ?_)); first | exact trivial | exact rfl | assumption | omega | (refine ⟨?_, ?_⟩ <;> omega) | (simp only [Room, lenS]; omega) | decide | skip) | (refine Stp.go ?_) | (refine WPA.ifT ?_) | (refine WPA.ifF ?_) | ((first | refine WPA.dec ?_); first | refine .inl ⟨by first | assumption | omega | with_reducible rfl | (refine fun h => h ?_; first | assumption | with_reducible rfl) | (simp only [lenS] <;> omega) | decide, ?_⟩ | refine .inr ⟨by first | assumption | omega | with_reducible rfl | (refine fun h => h ?_; first | assumption | with_reducible rfl) | (simp only [lenS] <;> omega) | decide, ?_⟩) | ((first | refine WPA.ifBt ?_ ?_ | refine WPA.ifBnf ?_ ?_); assumption) | ((first | refine WPA.ifBnt ?_ ?_ | refine WPA.ifBf ?_ ?_); assumption) | ((first | refine WPA.ifs ?_ ?_ | refine WPA.ifB ?_ ?_) <;> intro hc))
  exact QQ.end_ rfl () rfl fun w h => h
theorem RLeft_tr {e : Int} [h : FindBk L R 158 (RdV t p e) L'] (hp : p ≤ t.size) (ht : t.size ≤ 1000000000000) : TrP Tryz.prog 83 #[.pointer (some ⟨R, 0, none⟩)] (SL w0 I L) (.int .i64 ((t.size : Int) - p)) := by
  refine TrP.ofD fun u => Tr.intro Tryz.func83 rfl Tryz.ntmps83 rfl ?_
  repeat' (first | ((first | refine WLA.m rfl rfl ?_ ?_ | refine WDQ.m rfl rfl ?_ ?_ | refine WLA.st rfl ?_ ?_ | refine WLA.x rfl rfl ?_ (fun x => ?_) | refine WLA.x0 rfl ?_ (fun x => ?_)); first | exact trivial | exact rfl | assumption | omega | (refine ⟨?_, ?_⟩ <;> omega) | (simp only [Room, lenS]; omega) | decide | skip) | (refine Stp.go ?_) | (refine WPA.ifT ?_) | (refine WPA.ifF ?_) | ((first | refine WPA.dec ?_); first | refine .inl ⟨by first | assumption | omega | with_reducible rfl | (refine fun h => h ?_; first | assumption | with_reducible rfl) | (simp only [lenS] <;> omega) | decide, ?_⟩ | refine .inr ⟨by first | assumption | omega | with_reducible rfl | (refine fun h => h ?_; first | assumption | with_reducible rfl) | (simp only [lenS] <;> omega) | decide, ?_⟩) | ((first | refine WPA.ifBt ?_ ?_ | refine WPA.ifBnf ?_ ?_); assumption) | ((first | refine WPA.ifBnt ?_ ?_ | refine WPA.ifBf ?_ ?_); assumption) | ((first | refine WPA.ifs ?_ ?_ | refine WPA.ifB ?_ ?_) <;> intro hc) | (guard_target =~ WPA _ _ _ (.region 3 _ true) _ _ _; refine WPA.drawT 9 (.q 0 (.q 1 (.q 2 (.q 3 (.q 4 (.q 5 (.q 6 (.q 7 (.q 8 .fin))))))))) mixed ?_ ?_; kernel_rfl) | (refine WDA.finish (tl := [⟨_, _, _, _, _, _⟩, ⟨_, _, _, _, _, _⟩]) rfl ?_) | (refine WDQ.see rfl ?_))
  exact QQ.end_ rfl () rfl fun w h => h
theorem End_tr {e : Int} [h : FindBk L R 158 (RdV t p e) L'] (hp : p ≤ t.size) (ht : t.size ≤ 1000000000000) : Tr Tryz.prog 52 #[.pointer (some ⟨R, 0, none⟩)] (SL w0 I L) (fun _ : Unit => .int .i64 (if e = 0 ∧ p < t.size then 3 else e)) (fun _ => SL w0 I L) := by
  refine Tr.intro Tryz.func52 rfl Tryz.ntmps52 rfl ?_
  by_cases he : e = 0
  · by_cases hl : p < t.size
    · have hl' : (0 : Int) < (t.size : Int) - p := by omega
      rw [if_pos ⟨he, hl⟩]
      repeat' (first | ((first | refine WLA.m rfl rfl ?_ ?_ | refine WLA.st rfl ?_ ?_ | refine WLA.x rfl rfl ?_ (fun x => ?_) | refine WLA.x0 rfl ?_ (fun x => ?_)); first | exact trivial | exact rfl | assumption | omega | (refine ⟨?_, ?_⟩ <;> omega) | (simp only [Room, lenS]; omega) | decide | skip) | (refine Stp.go ?_) | (guard_target =~ WLA _ _ _ _ _ (⟨_, .call ⟨.value (.func 80), _, _⟩, _, _, _, _⟩ :: _) _ _; refine WLA.cq rfl rfl (Err_tr) ?_) | (guard_target =~ WLA _ _ _ _ _ (⟨_, .call ⟨.value (.func 83), _, _⟩, _, _, _, _⟩ :: _) _ _; refine WLA.cq rfl rfl (RLeft_tr hp ht) ?_) | (refine WPA.ifT ?_) | (refine WPA.ifF ?_) | (refine WLA.no rfl rfl ?_) | ((first | refine WPA.dec ?_ | ((fail_if_success (guard_target =~ WLA _ _ _ _ _ _ (put1 _ _ (.bool true)) _)); (fail_if_success (guard_target =~ WLA _ _ _ _ _ _ (put1 _ _ (.bool false)) _)); refine WLA.dec rfl rfl ?_) | refine WLA.pk ?_); first | refine .inl ⟨by first | assumption | omega | with_reducible rfl | (refine fun h => h ?_; first | assumption | with_reducible rfl) | (simp only [lenS] <;> omega) | decide, ?_⟩ | refine .inr ⟨by first | assumption | omega | with_reducible rfl | (refine fun h => h ?_; first | assumption | with_reducible rfl) | (simp only [lenS] <;> omega) | decide, ?_⟩) | ((first | refine WPA.ifBt ?_ ?_ | refine WPA.ifBnf ?_ ?_); assumption) | ((first | refine WPA.ifBnt ?_ ?_ | refine WPA.ifBf ?_ ?_); assumption) | ((first | refine WPA.ifs ?_ ?_ | refine WPA.ifB ?_ ?_) <;> intro hc) | ((fail_if_success (guard_target =~ WLA _ _ _ _ _ _ (put1 _ _ (.bool true)) _)); (fail_if_success (guard_target =~ WLA _ _ _ _ _ _ (put1 _ _ (.bool false)) _)); (first | refine WLA.both rfl rfl ?_ ?_ | refine WLA.bothB rfl rfl ?_ ?_) <;> intro hg))
      exact QQ.end_ rfl () rfl fun w h => h
    · have hl' : ¬ (0 : Int) < (t.size : Int) - p := by omega
      rw [if_neg (fun h => hl h.2)]
      repeat' (first | ((first | refine WLA.m rfl rfl ?_ ?_ | refine WLA.st rfl ?_ ?_ | refine WLA.x rfl rfl ?_ (fun x => ?_) | refine WLA.x0 rfl ?_ (fun x => ?_)); first | exact trivial | exact rfl | assumption | omega | (refine ⟨?_, ?_⟩ <;> omega) | (simp only [Room, lenS]; omega) | decide | skip) | (refine Stp.go ?_) | (guard_target =~ WLA _ _ _ _ _ (⟨_, .call ⟨.value (.func 80), _, _⟩, _, _, _, _⟩ :: _) _ _; refine WLA.cq rfl rfl (Err_tr) ?_) | (guard_target =~ WLA _ _ _ _ _ (⟨_, .call ⟨.value (.func 83), _, _⟩, _, _, _, _⟩ :: _) _ _; refine WLA.cq rfl rfl (RLeft_tr hp ht) ?_) | (refine WPA.ifT ?_) | (refine WPA.ifF ?_) | (refine WLA.no rfl rfl ?_) | ((first | refine WPA.dec ?_ | ((fail_if_success (guard_target =~ WLA _ _ _ _ _ _ (put1 _ _ (.bool true)) _)); (fail_if_success (guard_target =~ WLA _ _ _ _ _ _ (put1 _ _ (.bool false)) _)); refine WLA.dec rfl rfl ?_) | refine WLA.pk ?_); first | refine .inl ⟨by first | assumption | omega | with_reducible rfl | (refine fun h => h ?_; first | assumption | with_reducible rfl) | (simp only [lenS] <;> omega) | decide, ?_⟩ | refine .inr ⟨by first | assumption | omega | with_reducible rfl | (refine fun h => h ?_; first | assumption | with_reducible rfl) | (simp only [lenS] <;> omega) | decide, ?_⟩) | ((first | refine WPA.ifBt ?_ ?_ | refine WPA.ifBnf ?_ ?_); assumption) | ((first | refine WPA.ifBnt ?_ ?_ | refine WPA.ifBf ?_ ?_); assumption) | ((first | refine WPA.ifs ?_ ?_ | refine WPA.ifB ?_ ?_) <;> intro hc) | ((fail_if_success (guard_target =~ WLA _ _ _ _ _ _ (put1 _ _ (.bool true)) _)); (fail_if_success (guard_target =~ WLA _ _ _ _ _ _ (put1 _ _ (.bool false)) _)); (first | refine WLA.both rfl rfl ?_ ?_ | refine WLA.bothB rfl rfl ?_ ?_) <;> intro hg))
      exact QQ.end_ rfl () rfl fun w h => h
  · rw [if_neg (fun h => he h.1)]
    repeat' (first | ((first | refine WLA.m rfl rfl ?_ ?_ | refine WLA.st rfl ?_ ?_ | refine WLA.x rfl rfl ?_ (fun x => ?_) | refine WLA.x0 rfl ?_ (fun x => ?_)); first | exact trivial | exact rfl | assumption | omega | (refine ⟨?_, ?_⟩ <;> omega) | (simp only [Room, lenS]; omega) | decide | skip) | (refine Stp.go ?_) | (guard_target =~ WLA _ _ _ _ _ (⟨_, .call ⟨.value (.func 80), _, _⟩, _, _, _, _⟩ :: _) _ _; refine WLA.cq rfl rfl (Err_tr) ?_) | (guard_target =~ WLA _ _ _ _ _ (⟨_, .call ⟨.value (.func 83), _, _⟩, _, _, _, _⟩ :: _) _ _; refine WLA.cq rfl rfl (RLeft_tr hp ht) ?_) | (refine WPA.ifT ?_) | (refine WPA.ifF ?_) | (refine WLA.no rfl rfl ?_) | ((first | refine WPA.dec ?_ | ((fail_if_success (guard_target =~ WLA _ _ _ _ _ _ (put1 _ _ (.bool true)) _)); (fail_if_success (guard_target =~ WLA _ _ _ _ _ _ (put1 _ _ (.bool false)) _)); refine WLA.dec rfl rfl ?_) | refine WLA.pk ?_); first | refine .inl ⟨by first | assumption | omega | with_reducible rfl | (refine fun h => h ?_; first | assumption | with_reducible rfl) | (simp only [lenS] <;> omega) | decide, ?_⟩ | refine .inr ⟨by first | assumption | omega | with_reducible rfl | (refine fun h => h ?_; first | assumption | with_reducible rfl) | (simp only [lenS] <;> omega) | decide, ?_⟩) | ((first | refine WPA.ifBt ?_ ?_ | refine WPA.ifBnf ?_ ?_); assumption) | ((first | refine WPA.ifBnt ?_ ?_ | refine WPA.ifBf ?_ ?_); assumption) | ((first | refine WPA.ifs ?_ ?_ | refine WPA.ifB ?_ ?_) <;> intro hc) | ((fail_if_success (guard_target =~ WLA _ _ _ _ _ _ (put1 _ _ (.bool true)) _)); (fail_if_success (guard_target =~ WLA _ _ _ _ _ _ (put1 _ _ (.bool false)) _)); (first | refine WLA.both rfl rfl ?_ ?_ | refine WLA.bothB rfl rfl ?_ ?_) <;> intro hg))
    exact QQ.end_ rfl () rfl fun w h => h
theorem Open_tr : Tr Tryz.prog 50 #[.string t] (SL w0 I L) (fun R : Nat => .pointer (some ⟨R, 0, none⟩)) (fun R => SL w0 I (Bk R 158 (RdV t 0 0) :: L)) := by
  refine Tr.intro Tryz.func50 rfl Tryz.ntmps50 rfl ?_
  repeat' (first | ((first | refine WLA.m rfl rfl ?_ ?_ | refine WLA.st rfl ?_ ?_ | refine WLA.x rfl rfl ?_ (fun x => ?_) | refine WLA.x0 rfl ?_ (fun x => ?_)); first | exact trivial | exact rfl | assumption | omega | (refine ⟨?_, ?_⟩ <;> omega) | (simp only [Room, lenS]; omega) | decide | skip) | (refine Stp.go ?_) | (refine WPA.ifT ?_) | (refine WPA.ifF ?_) | ((first | refine WPA.dec ?_); first | refine .inl ⟨by first | assumption | omega | with_reducible rfl | (refine fun h => h ?_; first | assumption | with_reducible rfl) | (simp only [lenS] <;> omega) | decide, ?_⟩ | refine .inr ⟨by first | assumption | omega | with_reducible rfl | (refine fun h => h ?_; first | assumption | with_reducible rfl) | (simp only [lenS] <;> omega) | decide, ?_⟩) | ((first | refine WPA.ifBt ?_ ?_ | refine WPA.ifBnf ?_ ?_); assumption) | ((first | refine WPA.ifBnt ?_ ?_ | refine WPA.ifBf ?_ ?_); assumption) | ((first | refine WPA.ifs ?_ ?_ | refine WPA.ifB ?_ ?_) <;> intro hc))
  exact QQ.end_ rfl x rfl fun w h => h.to
theorem FailC_tr {F : Nat} {e : Int} {u : ByteArray} : Tr Tryz.prog 106 ([Value.string u] ++ [Value.pointer (some ⟨F, 0, none⟩)]).toArray (SL w0 I (Bk R 158 (RdV t p 0) :: Bk F 30 [.int .i64 e] :: L)) (fun _ : Unit => .tuple #[.int .i64 0, .int .i64 e]) (fun _ => SL w0 I (Bk R 158 (RdV t p 0) :: Bk F 30 [.int .i64 e] :: L)) := by
  show Tr Tryz.prog 106 #[.string u, .pointer (some ⟨F, 0, none⟩)] _ _ _
  refine Tr.intro Tryz.func106 rfl Tryz.ntmps106 rfl ?_
  repeat' (first | ((first | refine WLA.m rfl rfl ?_ ?_ | refine WDQ.m rfl rfl ?_ ?_ | refine WLA.st rfl ?_ ?_ | refine WLA.x rfl rfl ?_ (fun x => ?_) | refine WLA.x0 rfl ?_ (fun x => ?_)); first | exact trivial | exact rfl | assumption | omega | (refine ⟨?_, ?_⟩ <;> omega) | (simp only [Room, lenS]; omega) | decide | skip) | (refine Stp.go ?_) | (refine WPA.ifT ?_) | (refine WPA.ifF ?_) | ((first | refine WPA.dec ?_); first | refine .inl ⟨by first | assumption | omega | with_reducible rfl | (refine fun h => h ?_; first | assumption | with_reducible rfl) | (simp only [lenS] <;> omega) | decide, ?_⟩ | refine .inr ⟨by first | assumption | omega | with_reducible rfl | (refine fun h => h ?_; first | assumption | with_reducible rfl) | (simp only [lenS] <;> omega) | decide, ?_⟩) | ((first | refine WPA.ifBt ?_ ?_ | refine WPA.ifBnf ?_ ?_); assumption) | ((first | refine WPA.ifBnt ?_ ?_ | refine WPA.ifBf ?_ ?_); assumption) | ((first | refine WPA.ifs ?_ ?_ | refine WPA.ifB ?_ ?_) <;> intro hc) | (guard_target =~ WPA _ _ _ (.region 1 _ true) _ _ _; refine WPA.drawT 2 (.q 0 (.q 1 .fin)) mixed ?_ ?_; kernel_rfl) | (refine WDA.finish (tl := [⟨_, _, _, _, _, _⟩]) rfl ?_) | (refine WDQ.see rfl ?_))
  exact QQ.end_ rfl () rfl fun w h => h.to
theorem Fail_tr {e : Int} [h : FindBk L R 158 (RdV t p 0) L'] (hp : p ≤ t.size) (ht : t.size ≤ 1000000000000) (he : e ≠ 0) : Tr Tryz.prog 82 #[.pointer (some ⟨R, 0, none⟩), .int .i64 e] (SL w0 I L) (fun _ : Unit => .tuple #[]) (fun _ => SL w0 I (Bk R 158 (RdV t p e) :: L')) := by
  refine Tr.at h.out ?_
  refine Tr.intro Tryz.func82 rfl Tryz.ntmps82 rfl ?_
  repeat' (first | ((first | refine WLA.m rfl rfl ?_ ?_ | refine WLA.st rfl ?_ ?_ | refine WLA.x rfl rfl ?_ (fun x => ?_) | refine WLA.x0 rfl ?_ (fun x => ?_)); first | exact trivial | exact rfl | assumption | omega | (refine ⟨?_, ?_⟩ <;> omega) | (simp only [Room, lenS]; omega) | decide | skip) | (refine Stp.go ?_) | (guard_target =~ WLA _ _ _ _ _ (⟨_, .call ⟨.value (.func 102), _, _⟩, _, _, _, _⟩ :: _) _ _; refine WLA.call rfl rfl (step_bad (n := 0) (e := e) he hp FailC_tr) ?_; rintro ⟨⟩) | (refine WPA.ifT ?_) | (refine WPA.ifF ?_) | ((first | refine WPA.dec ?_); first | refine .inl ⟨by first | assumption | omega | with_reducible rfl | (refine fun h => h ?_; first | assumption | with_reducible rfl) | (simp only [lenS] <;> omega) | decide, ?_⟩ | refine .inr ⟨by first | assumption | omega | with_reducible rfl | (refine fun h => h ?_; first | assumption | with_reducible rfl) | (simp only [lenS] <;> omega) | decide, ?_⟩) | ((first | refine WPA.ifBt ?_ ?_ | refine WPA.ifBnf ?_ ?_); assumption) | ((first | refine WPA.ifBnt ?_ ?_ | refine WPA.ifBf ?_ ?_); assumption) | ((first | refine WPA.ifs ?_ ?_ | refine WPA.ifB ?_ ?_) <;> intro hc))
  exact QQ.endn rfl () rfl fun w h => h.to
theorem RawC_short {N O : Nat} {n : Int} {u x : ByteArray} (hn : (u.size : Int) < n) : Tr Tryz.prog 103 ([Value.string u] ++ [Value.pointer (some ⟨N, 0, none⟩), Value.pointer (some ⟨O, 0, none⟩)]).toArray (SL w0 I (Bk R 158 (RdV t p 0) :: Bk O 9 [.string x] :: Bk N 3 [.int .i64 n] :: L)) (fun _ : Unit => .tuple #[.int .i64 0, .int .i64 2]) (fun _ => SL w0 I (Bk R 158 (RdV t p 0) :: Bk O 9 [.string x] :: Bk N 3 [.int .i64 n] :: L)) := by
  show Tr Tryz.prog 103 #[.string u, .pointer (some ⟨N, 0, none⟩), .pointer (some ⟨O, 0, none⟩)] _ _ _
  refine Tr.intro Tryz.func103 rfl Tryz.ntmps103 rfl ?_
  have h0 : ¬ n < 0 := by omega
  repeat' (first | ((first | refine WLA.m rfl rfl ?_ ?_ | refine WLA.st rfl ?_ ?_ | refine WLA.x rfl rfl ?_ (fun x => ?_) | refine WLA.x0 rfl ?_ (fun x => ?_)); first | exact trivial | exact rfl | assumption | omega | (refine ⟨?_, ?_⟩ <;> omega) | (simp only [Room, lenS]; omega) | decide | skip) | (refine Stp.go ?_) | (refine WPA.ifT ?_) | (refine WPA.ifF ?_) | ((first | refine WPA.dec ?_); first | refine .inl ⟨by first | assumption | omega | with_reducible rfl | (refine fun h => h ?_; first | assumption | with_reducible rfl) | (simp only [lenS] <;> omega) | decide, ?_⟩ | refine .inr ⟨by first | assumption | omega | with_reducible rfl | (refine fun h => h ?_; first | assumption | with_reducible rfl) | (simp only [lenS] <;> omega) | decide, ?_⟩) | ((first | refine WPA.ifBt ?_ ?_ | refine WPA.ifBnf ?_ ?_); assumption) | ((first | refine WPA.ifBnt ?_ ?_ | refine WPA.ifBf ?_ ?_); assumption) | ((first | refine WPA.ifs ?_ ?_ | refine WPA.ifB ?_ ?_) <;> intro hc))
  exact QQ.end_ rfl () rfl fun w h => h.to
theorem RawC_tr {N O : Nat} {n : Nat} {u x : ByteArray} (hn : n ≤ u.size) : Tr Tryz.prog 103 ([Value.string u] ++ [Value.pointer (some ⟨N, 0, none⟩), Value.pointer (some ⟨O, 0, none⟩)]).toArray (SL w0 I (Bk R 158 (RdV t p 0) :: Bk O 9 [.string x] :: Bk N 3 [.int .i64 n] :: L)) (fun _ : Unit => .tuple #[.int .i64 n, .int .i64 0]) (fun _ => SL w0 I (Bk R 158 (RdV t p 0) :: Bk O 9 [.string (u.extract 0 n)] :: Bk N 3 [.int .i64 n] :: L)) := by
  show Tr Tryz.prog 103 #[.string u, .pointer (some ⟨N, 0, none⟩), .pointer (some ⟨O, 0, none⟩)] _ _ _
  refine Tr.intro Tryz.func103 rfl Tryz.ntmps103 rfl ?_
  have h0 : ¬ (n : Int) < 0 := by omega
  have h1 : ¬ (u.size : Int) < n := by omega
  have h3 : (0 : Int) ≤ n ∧ (n : Int) ≤ u.size := by omega
  have hx0 : u.extract (Int.toNat 0) (n : Int).toNat = u.extract 0 n := rfl
  repeat' (first | ((rw [hx0])) | ((first | refine WLA.m rfl rfl ?_ ?_ | refine WLA.st rfl ?_ ?_ | refine WLA.x rfl rfl ?_ (fun x => ?_) | refine WLA.x0 rfl ?_ (fun x => ?_)); first | exact trivial | exact rfl | assumption | omega | (refine ⟨?_, ?_⟩ <;> omega) | (simp only [Room, lenS]; omega) | decide | skip) | (refine Stp.go ?_) | (refine WPA.ifT ?_) | (refine WPA.ifF ?_) | ((first | refine WPA.dec ?_); first | refine .inl ⟨by first | assumption | omega | with_reducible rfl | (refine fun h => h ?_; first | assumption | with_reducible rfl) | (simp only [lenS] <;> omega) | decide, ?_⟩ | refine .inr ⟨by first | assumption | omega | with_reducible rfl | (refine fun h => h ?_; first | assumption | with_reducible rfl) | (simp only [lenS] <;> omega) | decide, ?_⟩) | ((first | refine WPA.ifBt ?_ ?_ | refine WPA.ifBnf ?_ ?_); assumption) | ((first | refine WPA.ifBnt ?_ ?_ | refine WPA.ifBf ?_ ?_); assumption) | ((first | refine WPA.ifs ?_ ?_ | refine WPA.ifB ?_ ?_) <;> intro hc))
  exact QQ.end_ rfl () rfl fun w h => h.to
theorem Raw_short {n : Int} [h : FindBk L R 158 (RdV t p 0) L'] (hp : p ≤ t.size) (ht : t.size ≤ 1000000000000) (hn : (t.size : Int) < p + n) : Tr Tryz.prog 78 #[.pointer (some ⟨R, 0, none⟩), .int .i64 n] (SL w0 I L) (fun _ : Unit => .string ⟨#[]⟩) (fun _ => SL w0 I (Bk R 158 (RdV t p 2) :: L')) := by
  refine Tr.at h.out ?_
  refine Tr.intro Tryz.func78 rfl Tryz.ntmps78 rfl ?_
  have hsz := ext_size' t p hp
  repeat' (first | ((first | refine WLA.m rfl rfl ?_ ?_ | refine WLA.st rfl ?_ ?_ | refine WLA.x rfl rfl ?_ (fun x => ?_) | refine WLA.x0 rfl ?_ (fun x => ?_)); first | exact trivial | exact rfl | assumption | omega | (refine ⟨?_, ?_⟩ <;> omega) | (simp only [Room, lenS]; omega) | decide | skip) | (refine Stp.go ?_) | (guard_target =~ WLA _ _ _ _ _ (⟨_, .call ⟨.value (.func 102), _, _⟩, _, _, _, _⟩ :: _) _ _; refine WLA.call rfl rfl (step_bad (n := 0) (e := 2) (by decide) hp (RawC_short (by omega))) ?_; rintro ⟨⟩) | (refine WPA.ifT ?_) | (refine WPA.ifF ?_) | ((first | refine WPA.dec ?_); first | refine .inl ⟨by first | assumption | omega | with_reducible rfl | (refine fun h => h ?_; first | assumption | with_reducible rfl) | (simp only [lenS] <;> omega) | decide, ?_⟩ | refine .inr ⟨by first | assumption | omega | with_reducible rfl | (refine fun h => h ?_; first | assumption | with_reducible rfl) | (simp only [lenS] <;> omega) | decide, ?_⟩) | ((first | refine WPA.ifBt ?_ ?_ | refine WPA.ifBnf ?_ ?_); assumption) | ((first | refine WPA.ifBnt ?_ ?_ | refine WPA.ifBf ?_ ?_); assumption) | ((first | refine WPA.ifs ?_ ?_ | refine WPA.ifB ?_ ?_) <;> intro hc))
  exact QQ.end_ rfl () rfl fun w h => h.to
theorem Raw_tr {n : Nat} [h : FindBk L R 158 (RdV t p 0) L'] (ht : t.size ≤ 1000000000000) (hn : p + n ≤ t.size) : Tr Tryz.prog 78 #[.pointer (some ⟨R, 0, none⟩), .int .i64 n] (SL w0 I L) (fun _ : Unit => .string (t.extract p (p + n))) (fun _ => SL w0 I (Bk R 158 (RdV t ((p + n : Nat) : Int) 0) :: L')) := by
  refine Tr.at h.out ?_
  refine Tr.intro Tryz.func78 rfl Tryz.ntmps78 rfl ?_
  have hsz := ext_size' t p (by omega)
  have hx : (t.extract p t.size).extract 0 n = t.extract p (p + n) := by rw [ext_ext' _ _ _ _ hn]; rfl
  rw [← hx]
  repeat' (first | ((first | refine WLA.m rfl rfl ?_ ?_ | refine WLA.st rfl ?_ ?_ | refine WLA.x rfl rfl ?_ (fun x => ?_) | refine WLA.x0 rfl ?_ (fun x => ?_)); first | exact trivial | exact rfl | assumption | omega | (refine ⟨?_, ?_⟩ <;> omega) | (simp only [Room, lenS]; omega) | decide | skip) | (refine Stp.go ?_) | (guard_target =~ WLA _ _ _ _ _ (⟨_, .call ⟨.value (.func 102), _, _⟩, _, _, _, _⟩ :: _) _ _; refine WLA.call rfl rfl (step_ok (n := n) (by omega) (by omega) (RawC_tr (by omega))) ?_; rintro ⟨⟩) | (refine WPA.ifT ?_) | (refine WPA.ifF ?_) | ((first | refine WPA.dec ?_); first | refine .inl ⟨by first | assumption | omega | with_reducible rfl | (refine fun h => h ?_; first | assumption | with_reducible rfl) | (simp only [lenS] <;> omega) | decide, ?_⟩ | refine .inr ⟨by first | assumption | omega | with_reducible rfl | (refine fun h => h ?_; first | assumption | with_reducible rfl) | (simp only [lenS] <;> omega) | decide, ?_⟩) | ((first | refine WPA.ifBt ?_ ?_ | refine WPA.ifBnf ?_ ?_); assumption) | ((first | refine WPA.ifBnt ?_ ?_ | refine WPA.ifBf ?_ ?_); assumption) | ((first | refine WPA.ifs ?_ ?_ | refine WPA.ifB ?_ ?_) <;> intro hc))
  exact QQ.end_ rfl () rfl fun w h => (h.to : SL w0 I (Bk R 158 (RdV t ((p : Int) + n) 0) :: L') w)
theorem UptoC_bad {N O : Nat} {u : ByteArray} {x n e e' : Int} (hv : (numR u).2.2 = e') (hu : e' ≠ 0 ∧ e = e' ∨ e' = 0 ∧ 0 ≤ n ∧ n < (numR u).1 ∧ e = 8) (hn : n ≤ 1099511627776) : Tr Tryz.prog 104 ([Value.string u] ++ [Value.pointer (some ⟨N, 0, none⟩), Value.pointer (some ⟨O, 0, none⟩)]).toArray (SL w0 I (Bk R 158 (RdV t p 0) :: Bk O 3 [.int .i64 x] :: Bk N 3 [.int .i64 n] :: L)) (fun _ : Unit => .tuple #[.int .i64 ((numR u).2.1 : Nat), .int .i64 e]) (fun _ => SL w0 I (Bk R 158 (RdV t p 0) :: Bk O 3 [.int .i64 x] :: Bk N 3 [.int .i64 n] :: L)) := by
  show Tr Tryz.prog 104 #[.string u, .pointer (some ⟨N, 0, none⟩), .pointer (some ⟨O, 0, none⟩)] _ _ _
  refine Tr.intro Tryz.func104 rfl Tryz.ntmps104 rfl ?_
  generalize hq : numR u = q at *
  obtain ⟨v, m, e2⟩ := q
  dsimp only at hv hu ⊢
  subst hv
  rcases hu with ⟨he, rfl⟩ | ⟨rfl, hn0, hnv, rfl⟩
  · skip
    repeat' (first | ((rw [hq])) | ((first | refine WLA.m rfl rfl ?_ ?_ | refine WLA.st rfl ?_ ?_ | refine WLA.x rfl rfl ?_ (fun x => ?_) | refine WLA.x0 rfl ?_ (fun x => ?_)); first | exact trivial | exact rfl | assumption | omega | (refine ⟨?_, ?_⟩ <;> omega) | (simp only [Room, lenS]; omega) | decide | skip) | (refine Stp.go ?_) | (guard_target =~ WLA _ _ _ _ _ (⟨_, .call ⟨.value (.func 105), _, _⟩, _, _, _, _⟩ :: _) _ _; refine WLA.call rfl rfl (number_tr) ?_; rintro ⟨⟩) | (refine WPA.ifT ?_) | (refine WPA.ifF ?_) | (refine WLA.no rfl rfl ?_) | ((first | refine WPA.dec ?_ | ((fail_if_success (guard_target =~ WLA _ _ _ _ _ _ (put1 _ _ (.bool true)) _)); (fail_if_success (guard_target =~ WLA _ _ _ _ _ _ (put1 _ _ (.bool false)) _)); refine WLA.dec rfl rfl ?_) | refine WLA.pk ?_); first | refine .inl ⟨by first | assumption | omega | with_reducible rfl | (refine fun h => h ?_; first | assumption | with_reducible rfl) | (simp only [lenS] <;> omega) | decide, ?_⟩ | refine .inr ⟨by first | assumption | omega | with_reducible rfl | (refine fun h => h ?_; first | assumption | with_reducible rfl) | (simp only [lenS] <;> omega) | decide, ?_⟩) | ((first | refine WPA.ifBt ?_ ?_ | refine WPA.ifBnf ?_ ?_); assumption) | ((first | refine WPA.ifBnt ?_ ?_ | refine WPA.ifBf ?_ ?_); assumption) | ((first | refine WPA.ifs ?_ ?_ | refine WPA.ifB ?_ ?_) <;> intro hc) | ((fail_if_success (guard_target =~ WLA _ _ _ _ _ _ (put1 _ _ (.bool true)) _)); (fail_if_success (guard_target =~ WLA _ _ _ _ _ _ (put1 _ _ (.bool false)) _)); (first | refine WLA.both rfl rfl ?_ ?_ | refine WLA.bothB rfl rfl ?_ ?_) <;> intro hg))
    exact QQ.end_ rfl () rfl fun w h => h.to
  · have h1 : ¬ n < 0 := by omega
    have hb : (0 : Int) ≤ n ∧ n ≤ 18446744073709551615 := by omega
    repeat' (first | ((rw [hq])) | ((first | refine WLA.m rfl rfl ?_ ?_ | refine WLA.st rfl ?_ ?_ | refine WLA.x rfl rfl ?_ (fun x => ?_) | refine WLA.x0 rfl ?_ (fun x => ?_)); first | exact trivial | exact rfl | assumption | omega | (refine ⟨?_, ?_⟩ <;> omega) | (simp only [Room, lenS]; omega) | decide | skip) | (refine Stp.go ?_) | (guard_target =~ WLA _ _ _ _ _ (⟨_, .call ⟨.value (.func 105), _, _⟩, _, _, _, _⟩ :: _) _ _; refine WLA.call rfl rfl (number_tr) ?_; rintro ⟨⟩) | (refine WPA.ifT ?_) | (refine WPA.ifF ?_) | (refine WLA.no rfl rfl ?_) | ((first | refine WPA.dec ?_ | ((fail_if_success (guard_target =~ WLA _ _ _ _ _ _ (put1 _ _ (.bool true)) _)); (fail_if_success (guard_target =~ WLA _ _ _ _ _ _ (put1 _ _ (.bool false)) _)); refine WLA.dec rfl rfl ?_) | refine WLA.pk ?_); first | refine .inl ⟨by first | assumption | omega | with_reducible rfl | (refine fun h => h ?_; first | assumption | with_reducible rfl) | (simp only [lenS] <;> omega) | decide, ?_⟩ | refine .inr ⟨by first | assumption | omega | with_reducible rfl | (refine fun h => h ?_; first | assumption | with_reducible rfl) | (simp only [lenS] <;> omega) | decide, ?_⟩) | ((first | refine WPA.ifBt ?_ ?_ | refine WPA.ifBnf ?_ ?_); assumption) | ((first | refine WPA.ifBnt ?_ ?_ | refine WPA.ifBf ?_ ?_); assumption) | ((first | refine WPA.ifs ?_ ?_ | refine WPA.ifB ?_ ?_) <;> intro hc) | ((fail_if_success (guard_target =~ WLA _ _ _ _ _ _ (put1 _ _ (.bool true)) _)); (fail_if_success (guard_target =~ WLA _ _ _ _ _ _ (put1 _ _ (.bool false)) _)); (first | refine WLA.both rfl rfl ?_ ?_ | refine WLA.bothB rfl rfl ?_ ?_) <;> intro hg))
    exact QQ.end_ rfl () rfl fun w h => h.to
theorem UptoC_tr {N O v m : Nat} {u : ByteArray} {x n : Int} (hv : numR u = (v, m, 0)) (hu : (v : Int) ≤ n) (hn : n ≤ 1099511627776) : Tr Tryz.prog 104 ([Value.string u] ++ [Value.pointer (some ⟨N, 0, none⟩), Value.pointer (some ⟨O, 0, none⟩)]).toArray (SL w0 I (Bk R 158 (RdV t p 0) :: Bk O 3 [.int .i64 x] :: Bk N 3 [.int .i64 n] :: L)) (fun _ : Unit => .tuple #[.int .i64 m, .int .i64 0]) (fun _ => SL w0 I (Bk R 158 (RdV t p 0) :: Bk O 3 [.int .i64 v] :: Bk N 3 [.int .i64 n] :: L)) := by
  show Tr Tryz.prog 104 #[.string u, .pointer (some ⟨N, 0, none⟩), .pointer (some ⟨O, 0, none⟩)] _ _ _
  refine Tr.intro Tryz.func104 rfl Tryz.ntmps104 rfl ?_
  have hv1 : (numR u).1 = v := by rw [hv]
  have hv2 : (numR u).2.1 = m := by rw [hv]
  have hv3 : (numR u).2.2 = 0 := by rw [hv]
  have h1 : ¬ n < 0 := by omega
  have h2 : ¬ n < (v : Int) := by omega
  have hb : (0 : Int) ≤ n ∧ n ≤ 18446744073709551615 := by omega
  have hvb : (-9223372036854775808 : Int) ≤ v ∧ (v : Int) ≤ 9223372036854775807 := by omega
  repeat' (first | ((rw [hv1, hv2, hv3])) | ((first | refine WLA.m rfl rfl ?_ ?_ | refine WLA.st rfl ?_ ?_ | refine WLA.x rfl rfl ?_ (fun x => ?_) | refine WLA.x0 rfl ?_ (fun x => ?_)); first | exact trivial | exact rfl | assumption | omega | (refine ⟨?_, ?_⟩ <;> omega) | (simp only [Room, lenS]; omega) | decide | skip) | (refine Stp.go ?_) | (guard_target =~ WLA _ _ _ _ _ (⟨_, .call ⟨.value (.func 105), _, _⟩, _, _, _, _⟩ :: _) _ _; refine WLA.call rfl rfl (number_tr) ?_; rintro ⟨⟩) | (refine WPA.ifT ?_) | (refine WPA.ifF ?_) | (refine WLA.no rfl rfl ?_) | ((first | refine WPA.dec ?_ | ((fail_if_success (guard_target =~ WLA _ _ _ _ _ _ (put1 _ _ (.bool true)) _)); (fail_if_success (guard_target =~ WLA _ _ _ _ _ _ (put1 _ _ (.bool false)) _)); refine WLA.dec rfl rfl ?_) | refine WLA.pk ?_); first | refine .inl ⟨by first | assumption | omega | with_reducible rfl | (refine fun h => h ?_; first | assumption | with_reducible rfl) | (simp only [lenS] <;> omega) | decide, ?_⟩ | refine .inr ⟨by first | assumption | omega | with_reducible rfl | (refine fun h => h ?_; first | assumption | with_reducible rfl) | (simp only [lenS] <;> omega) | decide, ?_⟩) | ((first | refine WPA.ifBt ?_ ?_ | refine WPA.ifBnf ?_ ?_); assumption) | ((first | refine WPA.ifBnt ?_ ?_ | refine WPA.ifBf ?_ ?_); assumption) | ((first | refine WPA.ifs ?_ ?_ | refine WPA.ifB ?_ ?_) <;> intro hc) | ((fail_if_success (guard_target =~ WLA _ _ _ _ _ _ (put1 _ _ (.bool true)) _)); (fail_if_success (guard_target =~ WLA _ _ _ _ _ _ (put1 _ _ (.bool false)) _)); (first | refine WLA.both rfl rfl ?_ ?_ | refine WLA.bothB rfl rfl ?_ ?_) <;> intro hg))
  exact QQ.end_ rfl () rfl fun w h => h.to
def uptR (u : ByteArray) : Option (Nat × Nat) := if (numR u).2.2 = 0 ∧ (numR u).1 ≤ 1099511627776 then some ((numR u).1, (numR u).2.1) else none
def uptE (u : ByteArray) : Int := if (numR u).2.2 = 0 ∧ 1099511627776 < (numR u).1 then 8 else (numR u).2.2
theorem uptE_ne {u : ByteArray} (h : uptR u = none) : uptE u ≠ 0 := by
  unfold uptR at h; unfold uptE
  by_cases h1 : (numR u).2.2 = 0
  · by_cases h2 : (numR u).1 ≤ 1099511627776
    · rw [if_pos ⟨h1, h2⟩] at h; cases h
    · rw [if_pos ⟨h1, by omega⟩]; decide
  · rw [if_neg (fun h => h1 h.1)]; exact h1
theorem ledN_le {s : ByteArray} : ∀ (f n : Nat), n ≤ s.size → ledN s f n ≤ s.size
  | 0, n, h => h
  | f + 1, n, h => by
    unfold ledN
    split
    · rename_i h1; exact ledN_le f (n + 1) h1.1
    · exact h
theorem numR_len {u : ByteArray} (h : (numR u).2.2 = 0) : 1 ≤ (numR u).2.1 ∧ (numR u).2.1 ≤ u.size := by
  have hl : lead u ≤ u.size := ledN_le 10 0 (Nat.zero_le _)
  by_cases h1 : lead u = 10
  · rw [num_full h1] at h; exact absurd h (by decide)
  by_cases h2 : lead u = u.size
  · rw [num_short h1 h2] at h; exact absurd h (by decide)
  by_cases h3 : (lead u = 9 ∧ 1 < bN u (lead u)) ∨ (0 < lead u ∧ bN u (lead u) = 0)
  · rw [num_bad h1 h2 h3] at h; exact absurd h (by decide)
  rw [num_ok h1 h2 h3]
  dsimp only; omega
theorem Upto_no {e : Int} {n : Int} [h : FindBk L R 158 (RdV t p e) L'] (he : e ≠ 0) : Tr Tryz.prog 79 #[.pointer (some ⟨R, 0, none⟩), .int .i64 n] (SL w0 I L) (fun _ : Unit => .int .i64 0) (fun _ => SL w0 I L) := by
  refine Tr.intro Tryz.func79 rfl Tryz.ntmps79 rfl ?_
  repeat' (first | ((first | refine WLA.m rfl rfl ?_ ?_ | refine WLA.st rfl ?_ ?_ | refine WLA.x rfl rfl ?_ (fun x => ?_) | refine WLA.x0 rfl ?_ (fun x => ?_)); first | exact trivial | exact rfl | assumption | omega | (refine ⟨?_, ?_⟩ <;> omega) | (simp only [Room, lenS]; omega) | decide | skip) | (refine Stp.go ?_) | (guard_target =~ WLA _ _ _ _ _ (⟨_, .call ⟨.value (.func 102), _, _⟩, _, _, _, _⟩ :: _) _ _; refine WLA.cq rfl rfl (step_no he) ?_) | (refine WPA.ifT ?_) | (refine WPA.ifF ?_) | ((first | refine WPA.dec ?_); first | refine .inl ⟨by first | assumption | omega | with_reducible rfl | (refine fun h => h ?_; first | assumption | with_reducible rfl) | (simp only [lenS] <;> omega) | decide, ?_⟩ | refine .inr ⟨by first | assumption | omega | with_reducible rfl | (refine fun h => h ?_; first | assumption | with_reducible rfl) | (simp only [lenS] <;> omega) | decide, ?_⟩) | ((first | refine WPA.ifBt ?_ ?_ | refine WPA.ifBnf ?_ ?_); assumption) | ((first | refine WPA.ifBnt ?_ ?_ | refine WPA.ifBf ?_ ?_); assumption) | ((first | refine WPA.ifs ?_ ?_ | refine WPA.ifB ?_ ?_) <;> intro hc))
  exact QQ.end_ rfl () rfl fun w h => h.to
theorem Upto_bad [h : FindBk L R 158 (RdV t p 0) L'] (hp : p ≤ t.size) (hu : uptR (t.extract p t.size) = none) : Tr Tryz.prog 79 #[.pointer (some ⟨R, 0, none⟩), .int .i64 1099511627776] (SL w0 I L) (fun _ : Unit => .int .i64 0) (fun _ => SL w0 I (Bk R 158 (RdV t p (uptE (t.extract p t.size))) :: L')) := by
  refine Tr.at h.out ?_
  refine Tr.intro Tryz.func79 rfl Tryz.ntmps79 rfl ?_
  have hne := uptE_ne hu
  have hcs : (numR (t.extract p t.size)).2.2 ≠ 0 ∧ uptE (t.extract p t.size) = (numR (t.extract p t.size)).2.2 ∨ (numR (t.extract p t.size)).2.2 = 0 ∧ (0 : Int) ≤ 1099511627776 ∧ (1099511627776 : Int) < (numR (t.extract p t.size)).1 ∧ uptE (t.extract p t.size) = 8 := by
    unfold uptR at hu; unfold uptE
    by_cases h1 : (numR (t.extract p t.size)).2.2 = 0
    · by_cases h2 : (numR (t.extract p t.size)).1 ≤ 1099511627776
      · rw [if_pos ⟨h1, h2⟩] at hu; cases hu
      · exact .inr ⟨h1, by decide, by omega, if_pos ⟨h1, by omega⟩⟩
    · exact .inl ⟨h1, if_neg (fun h => h1 h.1)⟩
  repeat' (first | ((first | refine WLA.m rfl rfl ?_ ?_ | refine WLA.st rfl ?_ ?_ | refine WLA.x rfl rfl ?_ (fun x => ?_) | refine WLA.x0 rfl ?_ (fun x => ?_)); first | exact trivial | exact rfl | assumption | omega | (refine ⟨?_, ?_⟩ <;> omega) | (simp only [Room, lenS]; omega) | decide | skip) | (refine Stp.go ?_) | (guard_target =~ WLA _ _ _ _ _ (⟨_, .call ⟨.value (.func 102), _, _⟩, _, _, _, _⟩ :: _) _ _; refine WLA.call rfl rfl (step_bad (e := uptE (t.extract p t.size)) hne hp (UptoC_bad rfl hcs (by decide))) ?_; rintro ⟨⟩) | (refine WPA.ifT ?_) | (refine WPA.ifF ?_) | ((first | refine WPA.dec ?_); first | refine .inl ⟨by first | assumption | omega | with_reducible rfl | (refine fun h => h ?_; first | assumption | with_reducible rfl) | (simp only [lenS] <;> omega) | decide, ?_⟩ | refine .inr ⟨by first | assumption | omega | with_reducible rfl | (refine fun h => h ?_; first | assumption | with_reducible rfl) | (simp only [lenS] <;> omega) | decide, ?_⟩) | ((first | refine WPA.ifBt ?_ ?_ | refine WPA.ifBnf ?_ ?_); assumption) | ((first | refine WPA.ifBnt ?_ ?_ | refine WPA.ifBf ?_ ?_); assumption) | ((first | refine WPA.ifs ?_ ?_ | refine WPA.ifB ?_ ?_) <;> intro hc))
  exact QQ.end_ rfl () rfl fun w h => h.to
theorem Upto_tr {v m : Nat} [h : FindBk L R 158 (RdV t p 0) L'] (hp : p ≤ t.size) (ht : t.size ≤ 1000000000000) (hu : uptR (t.extract p t.size) = some (v, m)) : Tr Tryz.prog 79 #[.pointer (some ⟨R, 0, none⟩), .int .i64 1099511627776] (SL w0 I L) (fun _ : Unit => .int .i64 v) (fun _ => SL w0 I (Bk R 158 (RdV t ((p + m : Nat) : Int) 0) :: L')) := by
  refine Tr.at h.out ?_
  refine Tr.intro Tryz.func79 rfl Tryz.ntmps79 rfl ?_
  unfold uptR at hu
  by_cases h1 : (numR (t.extract p t.size)).2.2 = 0 ∧ (numR (t.extract p t.size)).1 ≤ 1099511627776
  · rw [if_pos h1] at hu
    have hlen := numR_len h1.1
    have hsz := ext_size' t p hp
    have hv : numR (t.extract p t.size) = (v, m, 0) := by
      have e := Option.some.inj hu
      have e1 : (numR (t.extract p t.size)).1 = v := congrArg Prod.fst e
      have e2 : (numR (t.extract p t.size)).2.1 = m := congrArg Prod.snd e
      rw [← e1, ← e2, ← h1.1]
    rw [hv] at hlen h1
    dsimp only at hlen h1
    repeat' (first | ((first | refine WLA.m rfl rfl ?_ ?_ | refine WLA.st rfl ?_ ?_ | refine WLA.x rfl rfl ?_ (fun x => ?_) | refine WLA.x0 rfl ?_ (fun x => ?_)); first | exact trivial | exact rfl | assumption | omega | (refine ⟨?_, ?_⟩ <;> omega) | (simp only [Room, lenS]; omega) | decide | skip) | (refine Stp.go ?_) | (guard_target =~ WLA _ _ _ _ _ (⟨_, .call ⟨.value (.func 102), _, _⟩, _, _, _, _⟩ :: _) _ _; refine WLA.call rfl rfl (step_ok (n := m) hp (by omega) (UptoC_tr hv (by omega) (by decide))) ?_; rintro ⟨⟩) | (refine WPA.ifT ?_) | (refine WPA.ifF ?_) | ((first | refine WPA.dec ?_); first | refine .inl ⟨by first | assumption | omega | with_reducible rfl | (refine fun h => h ?_; first | assumption | with_reducible rfl) | (simp only [lenS] <;> omega) | decide, ?_⟩ | refine .inr ⟨by first | assumption | omega | with_reducible rfl | (refine fun h => h ?_; first | assumption | with_reducible rfl) | (simp only [lenS] <;> omega) | decide, ?_⟩) | ((first | refine WPA.ifBt ?_ ?_ | refine WPA.ifBnf ?_ ?_); assumption) | ((first | refine WPA.ifBnt ?_ ?_ | refine WPA.ifBf ?_ ?_); assumption) | ((first | refine WPA.ifs ?_ ?_ | refine WPA.ifB ?_ ?_) <;> intro hc))
    exact QQ.end_ rfl () rfl fun w h => (h.to : SL w0 I (Bk R 158 (RdV t ((p : Int) + m) 0) :: L') w)
  · rw [if_neg h1] at hu; cases hu
end
end Go.Proofs.YtamnobjdgjbmbaaGreat
namespace Go.Proofs.YtamnobjdgjbmbaaGreat
open Go Go.Fw Go.RowKit
set_option linter.unusedVariables false
set_option linter.unusedSimpArgs false
set_option maxRecDepth 100000
set_option maxHeartbeats 16000000
set_option synthInstance.maxHeartbeats 200000
set_option synthInstance.maxSize 100000
attribute [local irreducible] WPA WLA WDA WDQ WDE QQ seqQ blockQ loopQ fnQ OpP OpT Tr TrP SL SLd OwnS LitS Bk BkE Ob
attribute [local irreducible] vS keyS parL
def rdOne (o : Nat) (u : ByteArray) : Option (Ct × ByteArray) :=
  if u.size < 3 * o then none else (uptR (u.extract (3 * o) u.size)).map fun q => ((parL (u.extract 0 (3 * o)), (q.1 : Int)), (u.extract (3 * o) u.size).extract q.2 (u.extract (3 * o) u.size).size)
def rdN (o : Nat) (u : ByteArray) : Nat → Option (List Ct × ByteArray)
  | 0 => some ([], u)
  | k + 1 => (rdN o u k).bind fun q => (rdOne o q.2).map fun r => (q.1 ++ [r.1], r.2)
theorem rdOne_some {o p : Nat} {t : ByteArray} {x : Ct} {u' : ByteArray} (hp : p ≤ t.size) (h : rdOne o (t.extract p t.size) = some (x, u')) :
    ∃ v m : Nat, p + o * 3 ≤ t.size ∧ uptR (t.extract (p + o * 3) t.size) = some (v, m) ∧ x = (parL (t.extract p (p + o * 3)), (v : Int)) ∧ u' = t.extract (p + o * 3 + m) t.size ∧ p + o * 3 + m ≤ t.size ∧ 1 ≤ m := by
  have hsz := ext_size' t p hp
  unfold rdOne at h
  by_cases h1 : (t.extract p t.size).size < 3 * o
  · rw [if_pos h1] at h; cases h
  rw [if_neg h1] at h
  obtain ⟨⟨v, m⟩, h2, h3⟩ := Option.map_eq_some_iff.1 h
  have e1 : (t.extract p t.size).extract (3 * o) (t.extract p t.size).size = t.extract (p + o * 3) t.size := by
    rw [hsz, ext_ext' _ _ _ _ (by omega), show p + (t.size - p) = t.size by omega, Nat.mul_comm 3 o]
  have e2 : (t.extract p t.size).extract 0 (3 * o) = t.extract p (p + o * 3) := by rw [ext_ext' _ _ _ _ (by omega), Nat.mul_comm 3 o]; rfl
  rw [e1] at h2 h3
  rw [e2] at h3
  have hs2 := ext_size' t (p + o * 3) (by omega)
  have hm : 1 ≤ m ∧ m ≤ t.size - (p + o * 3) := by
    unfold uptR at h2
    by_cases h4 : (numR (t.extract (p + o * 3) t.size)).2.2 = 0 ∧ (numR (t.extract (p + o * 3) t.size)).1 ≤ 1099511627776
    · rw [if_pos h4] at h2
      have hl := numR_len h4.1
      have e := congrArg Prod.snd (Option.some.inj h2)
      dsimp only at e
      rw [e] at hl
      omega
    · rw [if_neg h4] at h2; cases h2
  have h5 := Prod.mk.inj h3
  refine ⟨v, m, by omega, h2, h5.1.symm, ?_, by omega, hm.1⟩
  rw [← h5.2, hs2, ext_ext' _ _ _ _ (by omega), show p + o * 3 + (t.size - (p + o * 3)) = t.size by omega]
section
variable {R p : Nat} {t : ByteArray} {L L' M : List HP} {w0 : World} {I : Foot}
theorem rchkR_tr {n N : Int} {ls gs : SV} {g : List Int} {pl : Option (List Int)} {k : ByteArray} {e : Int} [hg : RdS I L gs Int inferInstance g] (hl : (ls.a = none ∧ pl = none) ∨ ∃ l : List Int, ls.a ≠ none ∧ RdS I L ls Int inferInstance l ∧ l.length ≤ 1000000 ∧ pl = some l) (hn : g.length ≤ 1000000)
    (he : e = chk1 n pl g N) (hk : k = if e = 0 then keyS g else ⟨#[]⟩) :
    Tr Tryz.prog 54 #[.int .i64 n, .slice ls.a ls.n ls.cap, .agg #[.slice gs.a gs.n gs.cap, .int .i64 N]] (SL w0 I L) (fun _ : Unit => .tuple #[.string k, .int .i64 e]) (fun _ => SL w0 I L) := by
  refine Tr.intro Tryz.func54 rfl Tryz.ntmps54 rfl ?_
  have hn9 : g.length ≤ 1000000000 := by omega
  unfold chk1 at he
  by_cases h1 : (g.length : Int) ≠ n
  · rw [if_pos h1] at he
    subst he
    rw [if_neg (by decide)] at hk
    subst hk
    repeat' (first | ((first | refine WLA.m rfl rfl ?_ ?_ | refine WLA.st rfl ?_ ?_ | refine WLA.x rfl rfl ?_ (fun x => ?_) | refine WLA.x0 rfl ?_ (fun x => ?_)); first | exact trivial | exact rfl | assumption | omega | (refine ⟨?_, ?_⟩ <;> omega) | (simp only [Room, lenS]; omega) | decide | skip) | (refine Stp.go ?_) | (refine WPA.ifT ?_) | (refine WPA.ifF ?_) | ((first | refine WPA.dec ?_); first | refine .inl ⟨by first | assumption | omega | with_reducible rfl | (refine fun h => h ?_; first | assumption | with_reducible rfl) | (simp only [lenS] <;> omega) | decide, ?_⟩ | refine .inr ⟨by first | assumption | omega | with_reducible rfl | (refine fun h => h ?_; first | assumption | with_reducible rfl) | (simp only [lenS] <;> omega) | decide, ?_⟩) | ((first | refine WPA.ifBt ?_ ?_ | refine WPA.ifBnf ?_ ?_); assumption) | ((first | refine WPA.ifBnt ?_ ?_ | refine WPA.ifBf ?_ ?_); assumption) | ((first | refine WPA.ifs ?_ ?_ | refine WPA.ifB ?_ ?_) <;> intro hc))
    exact QQ.end_ rfl () rfl fun w h => h.to
  rw [if_neg h1] at he
  by_cases h2 : ¬ okKey g
  · rw [if_pos h2] at he
    subst he
    rw [if_neg (by decide)] at hk
    subst hk
    repeat' (first | ((first | refine WLA.m rfl rfl ?_ ?_ | refine WLA.st rfl ?_ ?_ | refine WLA.x rfl rfl ?_ (fun x => ?_) | refine WLA.x0 rfl ?_ (fun x => ?_)); first | exact trivial | exact rfl | assumption | omega | (refine ⟨?_, ?_⟩ <;> omega) | (simp only [Room, lenS]; omega) | decide | skip) | (refine Stp.go ?_) | (guard_target =~ WLA _ _ _ _ _ (⟨_, .call ⟨.value (.func 84), _, _⟩, _, _, _, _⟩ :: _) _ _; refine WLA.call rfl rfl (gKey_tr hn (.inr ⟨h2, rfl, rfl⟩)) ?_; rintro ⟨⟩) | (refine WPA.ifT ?_) | (refine WPA.ifF ?_) | ((first | refine WPA.dec ?_); first | refine .inl ⟨by first | assumption | omega | with_reducible rfl | (refine fun h => h ?_; first | assumption | with_reducible rfl) | (simp only [lenS] <;> omega) | decide, ?_⟩ | refine .inr ⟨by first | assumption | omega | with_reducible rfl | (refine fun h => h ?_; first | assumption | with_reducible rfl) | (simp only [lenS] <;> omega) | decide, ?_⟩) | ((first | refine WPA.ifBt ?_ ?_ | refine WPA.ifBnf ?_ ?_); assumption) | ((first | refine WPA.ifBnt ?_ ?_ | refine WPA.ifBf ?_ ?_); assumption) | ((first | refine WPA.ifs ?_ ?_ | refine WPA.ifB ?_ ?_) <;> intro hc))
    exact QQ.end_ rfl () rfl fun w h => h.to
  rw [if_neg h2] at he
  have h2' := Classical.byContradiction h2
  have hK : ∀ {L : List HP} [RdS I L gs Int inferInstance g], Tr Tryz.prog 84 #[.slice gs.a gs.n gs.cap] (SL w0 I L) (fun _ : Unit => .tuple #[.string (keyS g), .int .i64 0]) (fun _ => SL w0 I L)   := fun {L} _ => gKey_tr hn (.inl ⟨h2', rfl, rfl⟩)
  by_cases h3 : N < 1 ∨ 1099511627776 < N
  · rw [if_pos h3] at he
    subst he
    rw [if_neg (by decide)] at hk
    subst hk
    by_cases h4 : N < 1
    · skip
      repeat' (first | ((first | refine WLA.m rfl rfl ?_ ?_ | refine WLA.st rfl ?_ ?_ | refine WLA.x rfl rfl ?_ (fun x => ?_) | refine WLA.x0 rfl ?_ (fun x => ?_)); first | exact trivial | exact rfl | assumption | omega | (refine ⟨?_, ?_⟩ <;> omega) | (simp only [Room, lenS]; omega) | decide | skip) | (refine Stp.go ?_) | (guard_target =~ WLA _ _ _ _ _ (⟨_, .call ⟨.value (.func 84), _, _⟩, _, _, _, _⟩ :: _) _ _; refine WLA.call rfl rfl (hK) ?_; rintro ⟨⟩) | (refine WPA.ifT ?_) | (refine WPA.ifF ?_) | (refine WLA.no rfl rfl ?_) | ((first | refine WPA.dec ?_ | ((fail_if_success (guard_target =~ WLA _ _ _ _ _ _ (put1 _ _ (.bool true)) _)); (fail_if_success (guard_target =~ WLA _ _ _ _ _ _ (put1 _ _ (.bool false)) _)); refine WLA.dec rfl rfl ?_) | refine WLA.pk ?_); first | refine .inl ⟨by first | assumption | omega | with_reducible rfl | (refine fun h => h ?_; first | assumption | with_reducible rfl) | (simp only [lenS] <;> omega) | decide, ?_⟩ | refine .inr ⟨by first | assumption | omega | with_reducible rfl | (refine fun h => h ?_; first | assumption | with_reducible rfl) | (simp only [lenS] <;> omega) | decide, ?_⟩) | ((first | refine WPA.ifBt ?_ ?_ | refine WPA.ifBnf ?_ ?_); assumption) | ((first | refine WPA.ifBnt ?_ ?_ | refine WPA.ifBf ?_ ?_); assumption) | ((first | refine WPA.ifs ?_ ?_ | refine WPA.ifB ?_ ?_) <;> intro hc) | ((fail_if_success (guard_target =~ WLA _ _ _ _ _ _ (put1 _ _ (.bool true)) _)); (fail_if_success (guard_target =~ WLA _ _ _ _ _ _ (put1 _ _ (.bool false)) _)); (first | refine WLA.both rfl rfl ?_ ?_ | refine WLA.bothB rfl rfl ?_ ?_) <;> intro hg))
      exact QQ.end_ rfl () rfl fun w h => h.to
    · have h5 : 1099511627776 < N := h3.resolve_left h4
      repeat' (first | ((first | refine WLA.m rfl rfl ?_ ?_ | refine WLA.st rfl ?_ ?_ | refine WLA.x rfl rfl ?_ (fun x => ?_) | refine WLA.x0 rfl ?_ (fun x => ?_)); first | exact trivial | exact rfl | assumption | omega | (refine ⟨?_, ?_⟩ <;> omega) | (simp only [Room, lenS]; omega) | decide | skip) | (refine Stp.go ?_) | (guard_target =~ WLA _ _ _ _ _ (⟨_, .call ⟨.value (.func 84), _, _⟩, _, _, _, _⟩ :: _) _ _; refine WLA.call rfl rfl (hK) ?_; rintro ⟨⟩) | (refine WPA.ifT ?_) | (refine WPA.ifF ?_) | (refine WLA.no rfl rfl ?_) | ((first | refine WPA.dec ?_ | ((fail_if_success (guard_target =~ WLA _ _ _ _ _ _ (put1 _ _ (.bool true)) _)); (fail_if_success (guard_target =~ WLA _ _ _ _ _ _ (put1 _ _ (.bool false)) _)); refine WLA.dec rfl rfl ?_) | refine WLA.pk ?_); first | refine .inl ⟨by first | assumption | omega | with_reducible rfl | (refine fun h => h ?_; first | assumption | with_reducible rfl) | (simp only [lenS] <;> omega) | decide, ?_⟩ | refine .inr ⟨by first | assumption | omega | with_reducible rfl | (refine fun h => h ?_; first | assumption | with_reducible rfl) | (simp only [lenS] <;> omega) | decide, ?_⟩) | ((first | refine WPA.ifBt ?_ ?_ | refine WPA.ifBnf ?_ ?_); assumption) | ((first | refine WPA.ifBnt ?_ ?_ | refine WPA.ifBf ?_ ?_); assumption) | ((first | refine WPA.ifs ?_ ?_ | refine WPA.ifB ?_ ?_) <;> intro hc) | ((fail_if_success (guard_target =~ WLA _ _ _ _ _ _ (put1 _ _ (.bool true)) _)); (fail_if_success (guard_target =~ WLA _ _ _ _ _ _ (put1 _ _ (.bool false)) _)); (first | refine WLA.both rfl rfl ?_ ?_ | refine WLA.bothB rfl rfl ?_ ?_) <;> intro hg))
      exact QQ.end_ rfl () rfl fun w h => h.to
  rw [if_neg h3] at he
  have h4 : ¬ N < 1 := fun h => h3 (.inl h)
  have h5 : ¬ 1099511627776 < N := fun h => h3 (.inr h)
  rcases hl with ⟨ha, rfl⟩ | ⟨l, ha, hls, hll, rfl⟩
  · have hna : (!ls.a.isNone) = false := by rw [ha]; rfl
    change e = if (0 : Int) ≤ -1 then 9 else 0 at he
    rw [if_neg (by decide)] at he
    subst he
    rw [if_pos rfl] at hk
    subst hk
    repeat' (first | ((rw [hna])) | ((first | refine WLA.m rfl rfl ?_ ?_ | refine WLA.st rfl ?_ ?_ | refine WLA.x rfl rfl ?_ (fun x => ?_) | refine WLA.x0 rfl ?_ (fun x => ?_)); first | exact trivial | exact rfl | assumption | omega | (refine ⟨?_, ?_⟩ <;> omega) | (simp only [Room, lenS]; omega) | decide | skip) | (refine Stp.go ?_) | (guard_target =~ WLA _ _ _ _ _ (⟨_, .call ⟨.value (.func 84), _, _⟩, _, _, _, _⟩ :: _) _ _; refine WLA.call rfl rfl (hK) ?_; rintro ⟨⟩) | (refine WPA.ifT ?_) | (refine WPA.ifF ?_) | (refine WLA.no rfl rfl ?_) | ((first | refine WPA.dec ?_ | ((fail_if_success (guard_target =~ WLA _ _ _ _ _ _ (put1 _ _ (.bool true)) _)); (fail_if_success (guard_target =~ WLA _ _ _ _ _ _ (put1 _ _ (.bool false)) _)); refine WLA.dec rfl rfl ?_) | refine WLA.pk ?_); first | refine .inl ⟨by first | assumption | omega | with_reducible rfl | (refine fun h => h ?_; first | assumption | with_reducible rfl) | (simp only [lenS] <;> omega) | decide, ?_⟩ | refine .inr ⟨by first | assumption | omega | with_reducible rfl | (refine fun h => h ?_; first | assumption | with_reducible rfl) | (simp only [lenS] <;> omega) | decide, ?_⟩) | ((first | refine WPA.ifBt ?_ ?_ | refine WPA.ifBnf ?_ ?_); assumption) | ((first | refine WPA.ifBnt ?_ ?_ | refine WPA.ifBf ?_ ?_); assumption) | ((first | refine WPA.ifs ?_ ?_ | refine WPA.ifB ?_ ?_) <;> intro hc) | ((fail_if_success (guard_target =~ WLA _ _ _ _ _ _ (put1 _ _ (.bool true)) _)); (fail_if_success (guard_target =~ WLA _ _ _ _ _ _ (put1 _ _ (.bool false)) _)); (first | refine WLA.both rfl rfl ?_ ?_ | refine WLA.bothB rfl rfl ?_ ?_) <;> intro hg))
    exact QQ.end_ rfl () rfl fun w h => h.to
  · have hna : (!ls.a.isNone) = true := by cases h : ls.a with | none => exact absurd h ha | some a => rfl
    have hl9 : l.length ≤ 1000000000 := by omega
    by_cases h6 : 0 ≤ cmpL l g
    · rw [if_pos (by exact h6)] at he
      subst he
      rw [if_neg (by decide)] at hk
      subst hk
      repeat' (first | ((rw [hna])) | ((first | refine WLA.m rfl rfl ?_ ?_ | refine WLA.st rfl ?_ ?_ | refine WLA.x rfl rfl ?_ (fun x => ?_) | refine WLA.x0 rfl ?_ (fun x => ?_)); first | exact trivial | exact rfl | assumption | omega | (refine ⟨?_, ?_⟩ <;> omega) | (simp only [Room, lenS]; omega) | decide | skip) | (refine Stp.go ?_) | (guard_target =~ WLA _ _ _ _ _ (⟨_, .call ⟨.value (.func 84), _, _⟩, _, _, _, _⟩ :: _) _ _; refine WLA.call rfl rfl (hK) ?_; rintro ⟨⟩) | (guard_target =~ WLA _ _ _ _ _ (⟨_, .call ⟨.value (.func 85), _, _⟩, _, _, _, _⟩ :: _) _ _; refine WLA.cq rfl rfl (gCompare_tr hl9 hn9) ?_) | (refine WPA.ifT ?_) | (refine WPA.ifF ?_) | (refine WLA.no rfl rfl ?_) | ((first | refine WPA.dec ?_ | ((fail_if_success (guard_target =~ WLA _ _ _ _ _ _ (put1 _ _ (.bool true)) _)); (fail_if_success (guard_target =~ WLA _ _ _ _ _ _ (put1 _ _ (.bool false)) _)); refine WLA.dec rfl rfl ?_) | refine WLA.pk ?_); first | refine .inl ⟨by first | assumption | omega | with_reducible rfl | (refine fun h => h ?_; first | assumption | with_reducible rfl) | (simp only [lenS] <;> omega) | decide, ?_⟩ | refine .inr ⟨by first | assumption | omega | with_reducible rfl | (refine fun h => h ?_; first | assumption | with_reducible rfl) | (simp only [lenS] <;> omega) | decide, ?_⟩) | ((first | refine WPA.ifBt ?_ ?_ | refine WPA.ifBnf ?_ ?_); assumption) | ((first | refine WPA.ifBnt ?_ ?_ | refine WPA.ifBf ?_ ?_); assumption) | ((first | refine WPA.ifs ?_ ?_ | refine WPA.ifB ?_ ?_) <;> intro hc) | ((fail_if_success (guard_target =~ WLA _ _ _ _ _ _ (put1 _ _ (.bool true)) _)); (fail_if_success (guard_target =~ WLA _ _ _ _ _ _ (put1 _ _ (.bool false)) _)); (first | refine WLA.both rfl rfl ?_ ?_ | refine WLA.bothB rfl rfl ?_ ?_) <;> intro hg))
      exact QQ.end_ rfl () rfl fun w h => h.to
    · rw [if_neg (by exact h6)] at he
      subst he
      rw [if_pos rfl] at hk
      subst hk
      repeat' (first | ((rw [hna])) | ((first | refine WLA.m rfl rfl ?_ ?_ | refine WLA.st rfl ?_ ?_ | refine WLA.x rfl rfl ?_ (fun x => ?_) | refine WLA.x0 rfl ?_ (fun x => ?_)); first | exact trivial | exact rfl | assumption | omega | (refine ⟨?_, ?_⟩ <;> omega) | (simp only [Room, lenS]; omega) | decide | skip) | (refine Stp.go ?_) | (guard_target =~ WLA _ _ _ _ _ (⟨_, .call ⟨.value (.func 84), _, _⟩, _, _, _, _⟩ :: _) _ _; refine WLA.call rfl rfl (hK) ?_; rintro ⟨⟩) | (guard_target =~ WLA _ _ _ _ _ (⟨_, .call ⟨.value (.func 85), _, _⟩, _, _, _, _⟩ :: _) _ _; refine WLA.cq rfl rfl (gCompare_tr hl9 hn9) ?_) | (refine WPA.ifT ?_) | (refine WPA.ifF ?_) | (refine WLA.no rfl rfl ?_) | ((first | refine WPA.dec ?_ | ((fail_if_success (guard_target =~ WLA _ _ _ _ _ _ (put1 _ _ (.bool true)) _)); (fail_if_success (guard_target =~ WLA _ _ _ _ _ _ (put1 _ _ (.bool false)) _)); refine WLA.dec rfl rfl ?_) | refine WLA.pk ?_); first | refine .inl ⟨by first | assumption | omega | with_reducible rfl | (refine fun h => h ?_; first | assumption | with_reducible rfl) | (simp only [lenS] <;> omega) | decide, ?_⟩ | refine .inr ⟨by first | assumption | omega | with_reducible rfl | (refine fun h => h ?_; first | assumption | with_reducible rfl) | (simp only [lenS] <;> omega) | decide, ?_⟩) | ((first | refine WPA.ifBt ?_ ?_ | refine WPA.ifBnf ?_ ?_); assumption) | ((first | refine WPA.ifBnt ?_ ?_ | refine WPA.ifBf ?_ ?_); assumption) | ((first | refine WPA.ifs ?_ ?_ | refine WPA.ifB ?_ ?_) <;> intro hc) | ((fail_if_success (guard_target =~ WLA _ _ _ _ _ _ (put1 _ _ (.bool true)) _)); (fail_if_success (guard_target =~ WLA _ _ _ _ _ _ (put1 _ _ (.bool false)) _)); (first | refine WLA.both rfl rfl ?_ ?_ | refine WLA.bothB rfl rfl ?_ ?_) <;> intro hg))
      exact QQ.end_ rfl () rfl fun w h => h.to
theorem steps_tr {o : Int} : Tr Tryz.prog 51 #[.pointer (some ⟨R, 0, none⟩), .int .i64 o] (SL w0 I L) (fun q : Nat × Nat × Nat => .func (.func 77) #[] #[.pointer (some ⟨q.1, 0, none⟩), .pointer (some ⟨q.2.1, 0, none⟩), .pointer (some ⟨q.2.2, 0, none⟩)]) (fun q => SL w0 I (Bk q.2.2 42 [.slice none 0 0] :: Bk q.2.1 3 [.int .i64 o] :: Bk q.1 108 [.pointer (some ⟨R, 0, none⟩)] :: L)) := by
  refine Tr.intro Tryz.func51 rfl Tryz.ntmps51 rfl ?_
  repeat' (first | ((first | refine WLA.m rfl rfl ?_ ?_ | refine WLA.st rfl ?_ ?_ | refine WLA.x rfl rfl ?_ (fun x => ?_) | refine WLA.x0 rfl ?_ (fun x => ?_)); first | exact trivial | exact rfl | assumption | omega | (refine ⟨?_, ?_⟩ <;> omega) | (simp only [Room, lenS]; omega) | decide | skip) | (refine Stp.go ?_) | (refine WPA.ifT ?_) | (refine WPA.ifF ?_) | ((first | refine WPA.dec ?_); first | refine .inl ⟨by first | assumption | omega | with_reducible rfl | (refine fun h => h ?_; first | assumption | with_reducible rfl) | (simp only [lenS] <;> omega) | decide, ?_⟩ | refine .inr ⟨by first | assumption | omega | with_reducible rfl | (refine fun h => h ?_; first | assumption | with_reducible rfl) | (simp only [lenS] <;> omega) | decide, ?_⟩) | ((first | refine WPA.ifBt ?_ ?_ | refine WPA.ifBnf ?_ ?_); assumption) | ((first | refine WPA.ifBnt ?_ ?_ | refine WPA.ifBf ?_ ?_); assumption) | ((first | refine WPA.ifs ?_ ?_ | refine WPA.ifB ?_ ?_) <;> intro hc))
  revert x; intro Z
  revert x; intro O
  revert x; intro B
  exact QQ.end_ rfl (B, O, Z) rfl fun w h => h.to
abbrev StpL (R B O Z o p : Nat) (t : ByteArray) (ls : SV) (l : List Int) (L : List HP) : List HP := Bk R 158 (RdV t p 0) :: Bk Z 42 [.slice ls.a ls.n ls.cap] :: Bk O 3 [.int .i64 o] :: Bk B 108 [.pointer (some ⟨R, 0, none⟩)] :: OwnS 3 ls l :: L
theorem stepC_none {B O Z o : Nat} {ls : SV} {l : List Int} (hp : p ≤ t.size) (ht : t.size ≤ 1000000000000) (ho : 1 ≤ o ∧ o ≤ 8) (hr : rdOne o (t.extract p t.size) = none) :
    Tr Tryz.prog 77 #[.pointer (some ⟨B, 0, none⟩), .pointer (some ⟨O, 0, none⟩), .pointer (some ⟨Z, 0, none⟩)] (SL w0 I (StpL R B O Z o p t ls l L)) (fun _ : Unit => .tuple #[.agg #[.slice none 0 0, .int .i64 0], .bool false]) (fun _ => SL w0 I L) := by
  refine Tr.intro Tryz.func77 rfl Tryz.ntmps77 rfl ?_
  have hsz := ext_size' t p hp
  unfold rdOne at hr
  by_cases h1 : (t.extract p t.size).size < 3 * o
  · skip
    repeat' (first | ((first | refine WLA.m rfl rfl ?_ ?_ | refine WLA.st rfl ?_ ?_ | refine WLA.x rfl rfl ?_ (fun x => ?_) | refine WLA.x0 rfl ?_ (fun x => ?_)); first | exact trivial | exact rfl | assumption | omega | (refine ⟨?_, ?_⟩ <;> omega) | (simp only [Room, lenS]; omega) | decide | skip) | (refine Stp.go ?_) | (guard_target =~ WLA _ _ _ _ _ (⟨_, .call ⟨.value (.func 78), _, _⟩, _, _, _, _⟩ :: _) _ _; refine WLA.call rfl rfl (Raw_short (n := (o : Int) * 3) hp ht (by omega)) ?_; rintro ⟨⟩) | (guard_target =~ WLA _ _ _ _ _ (⟨_, .call ⟨.value (.func 79), _, _⟩, _, _, _, _⟩ :: _) _ _; refine WLA.call rfl rfl (Upto_no (e := 2) (by decide)) ?_; rintro ⟨⟩) | (guard_target =~ WLA _ _ _ _ _ (⟨_, .call ⟨.value (.func 80), _, _⟩, _, _, _, _⟩ :: _) _ _; refine WLA.cq rfl rfl (Err_tr) ?_) | (refine WPA.ifT ?_) | (refine WPA.ifF ?_) | ((first | refine WPA.dec ?_); first | refine .inl ⟨by first | assumption | omega | with_reducible rfl | (refine fun h => h ?_; first | assumption | with_reducible rfl) | (simp only [lenS] <;> omega) | decide, ?_⟩ | refine .inr ⟨by first | assumption | omega | with_reducible rfl | (refine fun h => h ?_; first | assumption | with_reducible rfl) | (simp only [lenS] <;> omega) | decide, ?_⟩) | ((first | refine WPA.ifBt ?_ ?_ | refine WPA.ifBnf ?_ ?_); assumption) | ((first | refine WPA.ifBnt ?_ ?_ | refine WPA.ifBf ?_ ?_); assumption) | ((first | refine WPA.ifs ?_ ?_ | refine WPA.ifB ?_ ?_) <;> intro hc))
    exact QQ.endc rfl () rfl fun w h => h.to
  · rw [if_neg h1] at hr
    have hu : uptR (t.extract (p + o * 3) t.size) = none := by
      have := Option.map_eq_none_iff.1 hr
      rw [hsz, ext_ext' _ _ _ _ (by omega), show p + (t.size - p) = t.size by omega, Nat.mul_comm 3 o] at this
      exact this
    have hne := uptE_ne hu
    have hcast : (o : Int) * 3 = ((o * 3 : Nat) : Int) := by omega
    repeat' (first | ((rw [hcast])) | ((first | refine WLA.m rfl rfl ?_ ?_ | refine WLA.st rfl ?_ ?_ | refine WLA.x rfl rfl ?_ (fun x => ?_) | refine WLA.x0 rfl ?_ (fun x => ?_)); first | exact trivial | exact rfl | assumption | omega | (refine ⟨?_, ?_⟩ <;> omega) | (simp only [Room, lenS]; omega) | decide | skip) | (refine Stp.go ?_) | (guard_target =~ WLA _ _ _ _ _ (⟨_, .call ⟨.value (.func 78), _, _⟩, _, _, _, _⟩ :: _) _ _; refine WLA.call rfl rfl (Raw_tr (n := o * 3) ht (by omega)) ?_; rintro ⟨⟩) | (guard_target =~ WLA _ _ _ _ _ (⟨_, .call ⟨.value (.func 79), _, _⟩, _, _, _, _⟩ :: _) _ _; refine WLA.call rfl rfl (Upto_bad (p := p + o * 3) (by omega) hu) ?_; rintro ⟨⟩) | (guard_target =~ WLA _ _ _ _ _ (⟨_, .call ⟨.value (.func 80), _, _⟩, _, _, _, _⟩ :: _) _ _; refine WLA.cq rfl rfl (Err_tr) ?_) | (refine WPA.ifT ?_) | (refine WPA.ifF ?_) | ((first | refine WPA.dec ?_); first | refine .inl ⟨by first | assumption | omega | with_reducible rfl | (refine fun h => h ?_; first | assumption | with_reducible rfl) | (simp only [lenS] <;> omega) | decide, ?_⟩ | refine .inr ⟨by first | assumption | omega | with_reducible rfl | (refine fun h => h ?_; first | assumption | with_reducible rfl) | (simp only [lenS] <;> omega) | decide, ?_⟩) | ((first | refine WPA.ifBt ?_ ?_ | refine WPA.ifBnf ?_ ?_); assumption) | ((first | refine WPA.ifBnt ?_ ?_ | refine WPA.ifBf ?_ ?_); assumption) | ((first | refine WPA.ifs ?_ ?_ | refine WPA.ifB ?_ ?_) <;> intro hc))
    exact QQ.endc rfl () rfl fun w h => h.to
theorem parL_len (u : ByteArray) : (parL u).length = u.size / 3 := by unfold parL; simp
theorem stepC_bad {B O Z o : Nat} {ls : SV} {l : List Int} {pl : Option (List Int)} {x : Ct} {u' : ByteArray} (hp : p ≤ t.size) (ht : t.size ≤ 1000000000000) (ho : 1 ≤ o ∧ o ≤ 8) (hr : rdOne o (t.extract p t.size) = some (x, u'))
    (hl : (ls.a = none ∧ pl = none) ∨ (ls.a ≠ none ∧ pl = some l ∧ l.length ≤ 1000000)) (hc : chk1 o pl x.1 x.2 ≠ 0) :
    Tr Tryz.prog 77 #[.pointer (some ⟨B, 0, none⟩), .pointer (some ⟨O, 0, none⟩), .pointer (some ⟨Z, 0, none⟩)] (SL w0 I (StpL R B O Z o p t ls l L)) (fun _ : Unit => .tuple #[.agg #[.slice none 0 0, .int .i64 0], .bool false]) (fun _ => SL w0 I L) := by
  refine Tr.intro Tryz.func77 rfl Tryz.ntmps77 rfl ?_
  obtain ⟨v, m, h1, h2, rfl, -, h3, h4⟩ := rdOne_some hp hr
  dsimp only at hc
  have hsz := ext_size' t (p + o * 3) (by omega)
  have hks : (t.extract p (p + o * 3)).size = o * 3 := by rw [ByteArray.size_extract]; omega
  have hcast : (o : Int) * 3 = ((o * 3 : Nat) : Int) := by omega
  have hpl : ∀ {L : List HP} [RdS I L ls Int inferInstance l], (ls.a = none ∧ pl = none) ∨ ∃ l : List Int, ls.a ≠ none ∧ RdS I L ls Int inferInstance l ∧ l.length ≤ 1000000 ∧ pl = some l := fun {L} hL => hl.imp id fun h => ⟨l, h.1, hL, h.2.2, h.2.1⟩
  repeat' (first | ((rw [hcast])) | ((first | refine WLA.m rfl rfl ?_ ?_ | refine WLA.st rfl ?_ ?_ | refine WLA.x rfl rfl ?_ (fun x => ?_) | refine WLA.x0 rfl ?_ (fun x => ?_)); first | exact trivial | exact rfl | assumption | omega | (refine ⟨?_, ?_⟩ <;> omega) | (simp only [Room, lenS]; omega) | decide | skip) | (refine Stp.go ?_) | (guard_target =~ WLA _ _ _ _ _ (⟨_, .call ⟨.value (.func 78), _, _⟩, _, _, _, _⟩ :: _) _ _; refine WLA.call rfl rfl (Raw_tr (n := o * 3) ht (by omega)) ?_; rintro ⟨⟩) | (guard_target =~ WLA _ _ _ _ _ (⟨_, .call ⟨.value (.func 79), _, _⟩, _, _, _, _⟩ :: _) _ _; refine WLA.call rfl rfl (Upto_tr (p := p + o * 3) (v := v) (m := m) (by omega) ht h2) ?_; rintro ⟨⟩) | (guard_target =~ WLA _ _ _ _ _ (⟨_, .call ⟨.value (.func 80), _, _⟩, _, _, _, _⟩ :: _) _ _; refine WLA.cq rfl rfl (Err_tr) ?_) | (guard_target =~ WLA _ _ _ _ _ (⟨_, .call ⟨.value (.func 81), _, _⟩, _, _, _, _⟩ :: _) _ _; refine WLA.call rfl rfl (gParse_ok (by omega) (by omega)) ?_; rintro xg) | (guard_target =~ WLA _ _ _ _ _ (⟨_, .call ⟨.value (.func 54), _, _⟩, _, _, _, _⟩ :: _) _ _; refine WLA.call rfl rfl (rchkR_tr hpl (by rw [parL_len]; omega) rfl (if_neg hc).symm) ?_; rintro ⟨⟩) | (guard_target =~ WLA _ _ _ _ _ (⟨_, .call ⟨.value (.func 82), _, _⟩, _, _, _, _⟩ :: _) _ _; refine WLA.call rfl rfl (Fail_tr (p := p + o * 3 + m) (by omega) ht hc) ?_; rintro ⟨⟩) | (refine WPA.ifT ?_) | (refine WPA.ifF ?_) | ((first | refine WPA.dec ?_); first | refine .inl ⟨by first | assumption | omega | with_reducible rfl | (refine fun h => h ?_; first | assumption | with_reducible rfl) | (simp only [lenS] <;> omega) | decide, ?_⟩ | refine .inr ⟨by first | assumption | omega | with_reducible rfl | (refine fun h => h ?_; first | assumption | with_reducible rfl) | (simp only [lenS] <;> omega) | decide, ?_⟩) | ((first | refine WPA.ifBt ?_ ?_ | refine WPA.ifBnf ?_ ?_); assumption) | ((first | refine WPA.ifBnt ?_ ?_ | refine WPA.ifBf ?_ ?_); assumption) | ((first | refine WPA.ifs ?_ ?_ | refine WPA.ifB ?_ ?_) <;> intro hc))
  exact QQ.endc rfl () rfl fun w h => h.to
theorem stepC_tr {B O Z o : Nat} {ls : SV} {l : List Int} {pl : Option (List Int)} {x : Ct} {u' : ByteArray} (hp : p ≤ t.size) (ht : t.size ≤ 1000000000000) (ho : 1 ≤ o ∧ o ≤ 8) (hr : rdOne o (t.extract p t.size) = some (x, u'))
    (hl : (ls.a = none ∧ pl = none) ∨ (ls.a ≠ none ∧ pl = some l ∧ l.length ≤ 1000000)) (hc : chk1 o pl x.1 x.2 = 0) :
    Tr Tryz.prog 77 #[.pointer (some ⟨B, 0, none⟩), .pointer (some ⟨O, 0, none⟩), .pointer (some ⟨Z, 0, none⟩)] (SL w0 I (StpL R B O Z o p t ls l L)) (fun g : SV × { p' : Nat // p' ≤ t.size ∧ u' = t.extract p' t.size } => .tuple #[.agg #[.slice g.1.a g.1.n g.1.cap, .int .i64 x.2], .bool true]) (fun g => SL w0 I (Bk R 158 (RdV t (g.2.1 : Nat) 0) :: Bk Z 42 [.slice g.1.a g.1.n g.1.cap] :: Bk O 3 [.int .i64 o] :: Bk B 108 [.pointer (some ⟨R, 0, none⟩)] :: OwnS 3 g.1 x.1 :: L)) := by
  refine Tr.intro Tryz.func77 rfl Tryz.ntmps77 rfl ?_
  obtain ⟨v, m, h1, h2, rfl, hu', h3, h4⟩ := rdOne_some hp hr
  dsimp only at hc
  have hsz := ext_size' t (p + o * 3) (by omega)
  have hks : (t.extract p (p + o * 3)).size = o * 3 := by rw [ByteArray.size_extract]; omega
  have hcast : (o : Int) * 3 = ((o * 3 : Nat) : Int) := by omega
  have hpl : ∀ {L : List HP} [RdS I L ls Int inferInstance l], (ls.a = none ∧ pl = none) ∨ ∃ l : List Int, ls.a ≠ none ∧ RdS I L ls Int inferInstance l ∧ l.length ≤ 1000000 ∧ pl = some l := fun {L} hL => hl.imp id fun h => ⟨l, h.1, hL, h.2.2, h.2.1⟩
  repeat' (first | ((rw [hcast])) | ((first | refine WLA.m rfl rfl ?_ ?_ | refine WLA.st rfl ?_ ?_ | refine WLA.x rfl rfl ?_ (fun x => ?_) | refine WLA.x0 rfl ?_ (fun x => ?_)); first | exact trivial | exact rfl | assumption | omega | (refine ⟨?_, ?_⟩ <;> omega) | (simp only [Room, lenS]; omega) | decide | skip) | (refine Stp.go ?_) | (guard_target =~ WLA _ _ _ _ _ (⟨_, .call ⟨.value (.func 78), _, _⟩, _, _, _, _⟩ :: _) _ _; refine WLA.call rfl rfl (Raw_tr (n := o * 3) ht (by omega)) ?_; rintro ⟨⟩) | (guard_target =~ WLA _ _ _ _ _ (⟨_, .call ⟨.value (.func 79), _, _⟩, _, _, _, _⟩ :: _) _ _; refine WLA.call rfl rfl (Upto_tr (p := p + o * 3) (v := v) (m := m) (by omega) ht h2) ?_; rintro ⟨⟩) | (guard_target =~ WLA _ _ _ _ _ (⟨_, .call ⟨.value (.func 80), _, _⟩, _, _, _, _⟩ :: _) _ _; refine WLA.cq rfl rfl (Err_tr) ?_) | (guard_target =~ WLA _ _ _ _ _ (⟨_, .call ⟨.value (.func 81), _, _⟩, _, _, _, _⟩ :: _) _ _; refine WLA.call rfl rfl (gParse_ok (by omega) (by omega)) ?_; rintro xg) | (guard_target =~ WLA _ _ _ _ _ (⟨_, .call ⟨.value (.func 54), _, _⟩, _, _, _, _⟩ :: _) _ _; refine WLA.call rfl rfl (rchkR_tr hpl (by rw [parL_len]; omega) hc.symm (if_pos rfl).symm) ?_; rintro ⟨⟩) | (refine WPA.ifT ?_) | (refine WPA.ifF ?_) | ((first | refine WPA.dec ?_); first | refine .inl ⟨by first | assumption | omega | with_reducible rfl | (refine fun h => h ?_; first | assumption | with_reducible rfl) | (simp only [lenS] <;> omega) | decide, ?_⟩ | refine .inr ⟨by first | assumption | omega | with_reducible rfl | (refine fun h => h ?_; first | assumption | with_reducible rfl) | (simp only [lenS] <;> omega) | decide, ?_⟩) | ((first | refine WPA.ifBt ?_ ?_ | refine WPA.ifBnf ?_ ?_); assumption) | ((first | refine WPA.ifBnt ?_ ?_ | refine WPA.ifBf ?_ ?_); assumption) | ((first | refine WPA.ifs ?_ ?_ | refine WPA.ifB ?_ ?_) <;> intro hc))
  exact QQ.endc rfl (xg, ⟨p + o * 3 + m, h3, hu'⟩) rfl fun w h => h.to
end
end Go.Proofs.YtamnobjdgjbmbaaGreat
namespace Go.Proofs.YtamnobjdgjbmbaaGreat
open Go Go.Fw Go.RowKit
set_option linter.unusedVariables false
set_option linter.unusedSimpArgs false
set_option maxRecDepth 100000
set_option maxHeartbeats 16000000
set_option synthInstance.maxHeartbeats 200000
set_option synthInstance.maxSize 100000
attribute [local irreducible] WPA WLA WDA WDQ WDE QQ seqQ blockQ loopQ fnQ OpP OpT Tr TrP SL SLd OwnS LitS Bk BkE Ob
def TxB (m : BS) : Prop := ∀ t ∈ m.ts, t.size ≤ 65536
theorem TxB.new {size most : Int} : TxB (BS.mk size most [] [] 0 0 0) := fun t h => by cases h
theorem TxB.alloc {m : BS} (h : TxB m) : TxB m.alloc := fun t ht => by
  change t ∈ padT m.tk m.ts at ht
  unfold padT at ht
  split at ht
  · exact h t ht
  · rcases List.mem_append.1 ht with h1 | h1
    · exact h t h1
    · rw [List.mem_singleton.1 h1]; decide
theorem TxB.write {m : BS} {id : Int} {u : ByteArray} (h : TxB m) (hu : u.size ≤ 65536) : TxB (m.write id u) := fun t ht => by
  change t ∈ m.ts.set id.toNat u at ht
  rcases List.mem_or_eq_of_mem_set ht with h1 | h1
  · exact h t h1
  · rw [h1]; exact hu
theorem TxB.at {m : BS} {id : Int} (h : TxB m) (hl : m.tk.length = m.ts.length) (hh : Has m.tk id) : (at_ m.ts id).size ≤ 65536 := by
  have := hh.1
  rw [at_txt m.ts id (by omega) (by omega)]
  exact h _ (List.getElem_mem _)
def txtN (m : BS) (ids : List Int) : Nat → Option ByteArray
  | 0 => some ⟨#[]⟩
  | i + 1 => (txtN m ids i).bind fun t => if Has m.tk (ids.getD i 0) then some (t ++ at_ m.ts (ids.getD i 0)) else none
theorem txtN_no {m : BS} {ids : List Int} {i : Nat} (h : txtN m ids i = none) : ∀ n, i ≤ n → txtN m ids n = none
  | 0, h2 => by rw [Nat.le_zero.1 h2] at h; exact h
  | n + 1, h2 => by
    by_cases e : i = n + 1
    · rw [← e]; exact h
    · rw [txtN, txtN_no h n (by omega)]; rfl
theorem txtN_size {m : BS} {ids : List Int} (hb : TxB m) (hl : m.tk.length = m.ts.length) : ∀ {n : Nat} {t : ByteArray}, txtN m ids n = some t → t.size ≤ 65536 * n
  | 0, t, h => by rw [← Option.some.inj h]; decide
  | n + 1, t, h => by
    rw [txtN] at h
    obtain ⟨u, h1, h2⟩ := Option.bind_eq_some_iff.1 h
    have := txtN_size hb hl h1
    by_cases hh : Has m.tk (ids.getD n 0)
    · rw [if_pos hh] at h2
      have h3 := hb.at hl hh
      rw [← Option.some.inj h2, ByteArray.size_append]; omega
    · rw [if_neg hh] at h2; cases h2
def txE (o : Option ByteArray) : Int := if o.isSome then 0 else 7
section
variable {S : Nat} {m : BS} {L L' : List HP} {w0 : World} {I : Foot}
theorem bytes_tr {b : SV} {ids : List Int} [h : FindK L StoreR S m L'] (hs : SlI I b Int inferInstance ids) (hl : m.tk.length = m.ts.length) (hb : TxB m) (hn : ids.length ≤ 1000000) :
    Tr Tryz.prog 49 #[.pointer (some ⟨S, 0, none⟩), .slice b.a b.n b.cap] (SL w0 I L) (fun _ : Unit => .tuple #[.string ((txtN m ids ids.length).getD ⟨#[]⟩), .int .i64 (txE (txtN m ids ids.length))]) (fun _ => SL w0 I (StoreR S m :: L')) := by
  refine Tr.at h.out ?_
  refine Tr.intro Tryz.func49 rfl Tryz.ntmps49 rfl ?_
  repeat' (first | ((first | refine WLA.m rfl rfl ?_ ?_ | refine WLA.st rfl ?_ ?_ | refine WLA.x rfl rfl ?_ (fun x => ?_) | refine WLA.x0 rfl ?_ (fun x => ?_)); first | exact trivial | exact rfl | assumption | omega | (refine ⟨?_, ?_⟩ <;> omega) | (simp only [Room, lenS]; omega) | decide | skip) | (refine Stp.go ?_) | (refine WPA.ifT ?_) | (refine WPA.ifF ?_) | ((first | refine WPA.dec ?_); first | refine .inl ⟨by first | assumption | omega | with_reducible rfl | (refine fun h => h ?_; first | assumption | with_reducible rfl) | (simp only [lenS] <;> omega) | decide, ?_⟩ | refine .inr ⟨by first | assumption | omega | with_reducible rfl | (refine fun h => h ?_; first | assumption | with_reducible rfl) | (simp only [lenS] <;> omega) | decide, ?_⟩) | ((first | refine WPA.ifBt ?_ ?_ | refine WPA.ifBnf ?_ ?_); assumption) | ((first | refine WPA.ifBnt ?_ ?_ | refine WPA.ifBf ?_ ?_); assumption) | ((first | refine WPA.ifs ?_ ?_ | refine WPA.ifB ?_ ?_) <;> intro hc))
  revert x; intro B
  refine WPA.ent (L' := BldR B ⟨#[]⟩ :: StoreR S m :: L') BldR.new ?_
  refine WPA.loopS (σ := Nat × ByteArray) (fun y => [(0, .pointer (some ⟨S, 0, none⟩)), (1, .slice b.a b.n b.cap), (6, .pointer (some ⟨B, 0, none⟩)), (11, .slice b.a b.n b.cap), (12, .int .i64 ids.length), (13, .int .i64 y.1)]) (fun y => y.1 ≤ ids.length ∧ txtN m ids y.1 = some y.2) (fun y => SL w0 I (BldR B y.2 :: StoreR S m :: L')) (fun y => ids.length - y.1) (0, ⟨#[]⟩) ⟨rfl, rfl, rfl, rfl, rfl, rfl, trivial⟩ ⟨Nat.zero_le _, rfl⟩ (fun w h => h.to) ?_
  rintro ⟨i, t⟩ ρ ⟨hi, ht⟩
  dsimp only at hi ht ⊢
  by_cases hil : i < ids.length
  · have hil' : (0 : Int) ≤ i ∧ (i : Int) < ids.length := by omega
    have hlt : (i : Int) < ids.length := by omega
    have hsz := txtN_size hb hl ht
    have hat : at_ ids (i : Int) = ids.getD i 0 := by rw [at_nat ids i hil, List.getD_eq_getElem?_getD, List.getElem?_eq_getElem hil]; rfl
    have hnx : txtN m ids (i + 1) = if Has m.tk (ids.getD i 0) then some (t ++ at_ m.ts (ids.getD i 0)) else none := by rw [txtN, ht]; rfl
    rw [← hat] at hnx
    obtain ⟨id, hid⟩ : ∃ id : Int, at_ ids (i : Int) = id := ⟨_, rfl⟩
    rw [hid] at hnx
    by_cases hh : Has m.tk id
    · have h3 := hb.at hl hh
      rw [if_pos hh] at hnx
      repeat' (first | ((rw [hid])) | ((first | refine WLA.m rfl rfl ?_ ?_ | refine WLA.st rfl ?_ ?_ | refine WLA.x rfl rfl ?_ (fun x => ?_) | refine WLA.x0 rfl ?_ (fun x => ?_)); first | exact trivial | exact rfl | assumption | omega | (refine ⟨?_, ?_⟩ <;> omega) | (simp only [Room, lenS]; omega) | decide | skip) | (refine Stp.go ?_) | (guard_target =~ WLA _ _ _ _ _ (⟨_, .call ⟨.value (.func 74), _, _⟩, _, _, _, _⟩ :: _) _ _; refine WLA.call rfl rfl (Read_tr hh) ?_; rintro ⟨⟩) | (guard_target =~ WLA _ _ _ _ _ (⟨_, .call ⟨.value (.func 75), _, _⟩, _, _, _, _⟩ :: _) _ _; refine WLA.call rfl rfl (WriteString_tr (by omega)) ?_; rintro ⟨⟩) | (refine WPA.ifT ?_) | (refine WPA.ifF ?_) | ((first | refine WPA.dec ?_); first | refine .inl ⟨by first | assumption | omega | with_reducible rfl | (refine fun h => h ?_; first | assumption | with_reducible rfl) | (simp only [lenS] <;> omega) | decide, ?_⟩ | refine .inr ⟨by first | assumption | omega | with_reducible rfl | (refine fun h => h ?_; first | assumption | with_reducible rfl) | (simp only [lenS] <;> omega) | decide, ?_⟩) | ((first | refine WPA.ifBt ?_ ?_ | refine WPA.ifBnf ?_ ?_); assumption) | ((first | refine WPA.ifBnt ?_ ?_ | refine WPA.ifBf ?_ ?_); assumption) | ((first | refine WPA.ifs ?_ ?_ | refine WPA.ifB ?_ ?_) <;> intro hc))
      exact QQ.loopS (i + 1, t ++ at_ m.ts id) ⟨rfl, rfl, rfl, rfl, rfl, rfl, trivial⟩ ⟨hil, hnx⟩ (by dsimp only; omega) (fun w h => h.to)
    · rw [if_neg hh] at hnx
      rw [txtN_no hnx ids.length hil]
      repeat' (first | ((rw [hid])) | ((first | refine WLA.m rfl rfl ?_ ?_ | refine WLA.st rfl ?_ ?_ | refine WLA.x rfl rfl ?_ (fun x => ?_) | refine WLA.x0 rfl ?_ (fun x => ?_)); first | exact trivial | exact rfl | assumption | omega | (refine ⟨?_, ?_⟩ <;> omega) | (simp only [Room, lenS]; omega) | decide | skip) | (refine Stp.go ?_) | (guard_target =~ WLA _ _ _ _ _ (⟨_, .call ⟨.value (.func 74), _, _⟩, _, _, _, _⟩ :: _) _ _; refine WLA.call rfl rfl (Read_no hh) ?_; rintro ⟨⟩) | (refine WPA.ifT ?_) | (refine WPA.ifF ?_) | ((first | refine WPA.dec ?_); first | refine .inl ⟨by first | assumption | omega | with_reducible rfl | (refine fun h => h ?_; first | assumption | with_reducible rfl) | (simp only [lenS] <;> omega) | decide, ?_⟩ | refine .inr ⟨by first | assumption | omega | with_reducible rfl | (refine fun h => h ?_; first | assumption | with_reducible rfl) | (simp only [lenS] <;> omega) | decide, ?_⟩) | ((first | refine WPA.ifBt ?_ ?_ | refine WPA.ifBnf ?_ ?_); assumption) | ((first | refine WPA.ifBnt ?_ ?_ | refine WPA.ifBf ?_ ?_); assumption) | ((first | refine WPA.ifs ?_ ?_ | refine WPA.ifB ?_ ?_) <;> intro hc))
      exact QQ.end_ rfl () rfl fun w h => h.to
  · have hlt : ¬ (i : Int) < ids.length := by omega
    have hie : i = ids.length := by omega
    subst hie
    rw [ht]
    repeat' (first | ((first | refine WLA.m rfl rfl ?_ ?_ | refine WLA.st rfl ?_ ?_ | refine WLA.x rfl rfl ?_ (fun x => ?_) | refine WLA.x0 rfl ?_ (fun x => ?_)); first | exact trivial | exact rfl | assumption | omega | (refine ⟨?_, ?_⟩ <;> omega) | (simp only [Room, lenS]; omega) | decide | skip) | (refine Stp.go ?_) | (guard_target =~ WLA _ _ _ _ _ (⟨_, .call ⟨.value (.func 76), _, _⟩, _, _, _, _⟩ :: _) _ _; refine WLA.call rfl rfl (BString_tr) ?_; rintro ⟨⟩) | (refine WPA.ifT ?_) | (refine WPA.ifF ?_) | ((first | refine WPA.dec ?_); first | refine .inl ⟨by first | assumption | omega | with_reducible rfl | (refine fun h => h ?_; first | assumption | with_reducible rfl) | (simp only [lenS] <;> omega) | decide, ?_⟩ | refine .inr ⟨by first | assumption | omega | with_reducible rfl | (refine fun h => h ?_; first | assumption | with_reducible rfl) | (simp only [lenS] <;> omega) | decide, ?_⟩) | ((first | refine WPA.ifBt ?_ ?_ | refine WPA.ifBnf ?_ ?_); assumption) | ((first | refine WPA.ifBnt ?_ ?_ | refine WPA.ifBf ?_ ?_); assumption) | ((first | refine WPA.ifs ?_ ?_ | refine WPA.ifB ?_ ?_) <;> intro hc))
    exact QQ.end_ rfl () rfl fun w h => h.to
end
end Go.Proofs.YtamnobjdgjbmbaaGreat
