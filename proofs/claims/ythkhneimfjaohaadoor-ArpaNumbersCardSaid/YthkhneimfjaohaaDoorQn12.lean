/- Texts that ArpaNumbers_law leans on, part 12. Conditions: none. -/
import Derived.Test.YthkhneimfjaohaaDoorQn11
namespace Go.Proofs.YthkhneimfjaohaaDoor
open Go Go.Fw Go.RowKit
set_option linter.unusedVariables false
set_option linter.unusedSimpArgs false
set_option maxRecDepth 100000
set_option maxHeartbeats 16000000
set_option synthInstance.maxHeartbeats 200000
set_option synthInstance.maxSize 100000
attribute [local irreducible] WPA WLA WDA WDQ WDE QQ seqQ blockQ loopQ fnQ OpP OpT Tr TrP SL SLd OwnS LitS Bk BkE Ob
section
variable {L L' : List HP} {w0 : World} {I : Foot} {s p : ByteArray}
theorem rNumber_tr : TrP Tryd.prog 6 #[.string s] (SL w0 I L) (.tuple #[.int .i64 (numV s), .bool (numB s)]) := by
  refine TrP.ofD fun u => Tr.intro Tryd.func6 rfl Tryd.ntmps6 rfl ?_
  by_cases he : s = ⟨#[]⟩
  · have hh : ¬ hasP s mnB := fun h => by have := (hasP_mn.1 h).1; rw [he] at this; exact absurd this (by decide)
    have hd : digS s = s := if_neg hh
    have hno := num_no (s := s) fun h => h.1.1 (by rw [hd]; exact he)
    rw [hno.1, hno.2]
    repeat' (first | ((first | refine WLA.m rfl rfl ?_ ?_ | refine WLA.st rfl ?_ ?_ | refine WLA.x rfl rfl ?_ (fun x => ?_) | refine WLA.x0 rfl ?_ (fun x => ?_)); first | exact trivial | exact rfl | assumption | omega | (refine ⟨?_, ?_⟩ <;> omega) | (simp only [Room, lenS]; omega) | decide | skip) | (refine Stp.go ?_) | (refine WPA.ifT ?_) | (refine WPA.ifF ?_) | (refine WLA.no rfl rfl ?_) | ((first | refine WPA.dec ?_ | ((fail_if_success (guard_target =~ WLA _ _ _ _ _ _ (put1 _ _ (.bool true)) _)); (fail_if_success (guard_target =~ WLA _ _ _ _ _ _ (put1 _ _ (.bool false)) _)); refine WLA.dec rfl rfl ?_) | refine WLA.pk ?_); first | refine .inl ⟨by first | assumption | omega | with_reducible rfl | (refine fun h => h ?_; first | assumption | with_reducible rfl) | (simp only [lenS] <;> omega) | decide, ?_⟩ | refine .inr ⟨by first | assumption | omega | with_reducible rfl | (refine fun h => h ?_; first | assumption | with_reducible rfl) | (simp only [lenS] <;> omega) | decide, ?_⟩) | ((first | refine WPA.ifBt ?_ ?_ | refine WPA.ifBnf ?_ ?_); assumption) | ((first | refine WPA.ifBnt ?_ ?_ | refine WPA.ifBf ?_ ?_); assumption) | ((first | refine WPA.ifs ?_ ?_ | refine WPA.ifB ?_ ?_) <;> intro hc) | ((fail_if_success (guard_target =~ WLA _ _ _ _ _ _ (put1 _ _ (.bool true)) _)); (fail_if_success (guard_target =~ WLA _ _ _ _ _ _ (put1 _ _ (.bool false)) _)); (first | refine WLA.both rfl rfl ?_ ?_ | refine WLA.bothB rfl rfl ?_ ?_) <;> intro hg))
    exact QQ.end_ rfl () rfl fun w h => h
  have hs0 : 0 < s.size := by
    rcases Nat.eq_zero_or_pos s.size with e | e
    · exact absurd (ext_same (t := ⟨#[]⟩) (by rw [e]; rfl) fun j hj => by omega) he
    · exact e
  have hs1 : (0 : Int) ≤ 0 ∧ (0 : Int) < s.size := by omega
  have hs2 : (0 : Int) ≤ 1 ∧ (1 : Int) ≤ s.size := by omega
  obtain ⟨d, hd2⟩ : ∃ d, digS s = d := ⟨_, rfl⟩
  have hb : (hasP s mnB ∧ bt s 0 = 45 ∧ s.extract (1 : Int).toNat (s.size : Int).toNat = d) ∨ (¬ hasP s mnB ∧ ¬ bt s 0 = 45 ∧ s = d) := by
    by_cases h : hasP s mnB
    · refine .inl ⟨h, (hasP_mn.1 h).2, ?_⟩
      rw [← hd2]; unfold digS cutP; rw [if_pos h]; rfl
    · refine .inr ⟨h, fun k => h (hasP_mn.2 ⟨hs0, k⟩), ?_⟩
      rw [← hd2]; unfold digS cutP; rw [if_neg h]
  obtain ⟨mb, hmb⟩ : ∃ mb, mb = decide (hasP s mnB) := ⟨_, rfl⟩
  rcases hb with ⟨hm, h45, hx⟩ | ⟨hm, h45, hx⟩
  · rw [decide_eq_true hm] at hmb
    subst hmb
    repeat' ((fail_if_success (guard_target =~ WPA _ _ _ (.region 5 _ _) _ _ _)); first | ((rw [hx])) | ((first | refine WLA.m rfl rfl ?_ ?_ | refine WLA.st rfl ?_ ?_ | refine WLA.x rfl rfl ?_ (fun x => ?_) | refine WLA.x0 rfl ?_ (fun x => ?_)); first | exact trivial | exact rfl | assumption | omega | (refine ⟨?_, ?_⟩ <;> omega) | (simp only [Room, lenS]; omega) | decide | skip) | (refine Stp.go ?_) | (refine WPA.ifT ?_) | (refine WPA.ifF ?_) | (refine WLA.no rfl rfl ?_) | ((first | refine WPA.dec ?_ | ((fail_if_success (guard_target =~ WLA _ _ _ _ _ _ (put1 _ _ (.bool true)) _)); (fail_if_success (guard_target =~ WLA _ _ _ _ _ _ (put1 _ _ (.bool false)) _)); refine WLA.dec rfl rfl ?_) | refine WLA.pk ?_); first | refine .inl ⟨by first | assumption | omega | with_reducible rfl | (refine fun h => h ?_; first | assumption | with_reducible rfl) | (simp only [lenS] <;> omega) | decide, ?_⟩ | refine .inr ⟨by first | assumption | omega | with_reducible rfl | (refine fun h => h ?_; first | assumption | with_reducible rfl) | (simp only [lenS] <;> omega) | decide, ?_⟩) | ((first | refine WPA.ifBt ?_ ?_ | refine WPA.ifBnf ?_ ?_); assumption) | ((first | refine WPA.ifBnt ?_ ?_ | refine WPA.ifBf ?_ ?_); assumption) | ((first | refine WPA.ifs ?_ ?_ | refine WPA.ifB ?_ ?_) <;> intro hc) | ((fail_if_success (guard_target =~ WLA _ _ _ _ _ _ (put1 _ _ (.bool true)) _)); (fail_if_success (guard_target =~ WLA _ _ _ _ _ _ (put1 _ _ (.bool false)) _)); (first | refine WLA.both rfl rfl ?_ ?_ | refine WLA.bothB rfl rfl ?_ ?_) <;> intro hg))
    by_cases h0 : d = ⟨#[]⟩
    · have hno := num_no (s := s) fun h => h.1.1 (by rw [hd2]; exact h0)
      rw [hno.1, hno.2]
      repeat' (first | ((first | refine WLA.m rfl rfl ?_ ?_ | refine WLA.st rfl ?_ ?_ | refine WLA.x rfl rfl ?_ (fun x => ?_) | refine WLA.x0 rfl ?_ (fun x => ?_)); first | exact trivial | exact rfl | assumption | omega | (refine ⟨?_, ?_⟩ <;> omega) | (simp only [Room, lenS]; omega) | decide | skip) | (refine Stp.go ?_) | (refine WPA.ifT ?_) | (refine WPA.ifF ?_) | (refine WLA.no rfl rfl ?_) | ((first | refine WPA.dec ?_ | ((fail_if_success (guard_target =~ WLA _ _ _ _ _ _ (put1 _ _ (.bool true)) _)); (fail_if_success (guard_target =~ WLA _ _ _ _ _ _ (put1 _ _ (.bool false)) _)); refine WLA.dec rfl rfl ?_) | refine WLA.pk ?_); first | refine .inl ⟨by first | assumption | omega | with_reducible rfl | (refine fun h => h ?_; first | assumption | with_reducible rfl) | (simp only [lenS] <;> omega) | decide, ?_⟩ | refine .inr ⟨by first | assumption | omega | with_reducible rfl | (refine fun h => h ?_; first | assumption | with_reducible rfl) | (simp only [lenS] <;> omega) | decide, ?_⟩) | ((first | refine WPA.ifBt ?_ ?_ | refine WPA.ifBnf ?_ ?_); assumption) | ((first | refine WPA.ifBnt ?_ ?_ | refine WPA.ifBf ?_ ?_); assumption) | ((first | refine WPA.ifs ?_ ?_ | refine WPA.ifB ?_ ?_) <;> intro hc) | ((fail_if_success (guard_target =~ WLA _ _ _ _ _ _ (put1 _ _ (.bool true)) _)); (fail_if_success (guard_target =~ WLA _ _ _ _ _ _ (put1 _ _ (.bool false)) _)); (first | refine WLA.both rfl rfl ?_ ?_ | refine WLA.bothB rfl rfl ?_ ?_) <;> intro hg))
      exact QQ.end_ rfl () rfl fun w h => h
    by_cases h18 : (18 : Int) < d.size
    · have hno := num_no (s := s) fun h => by have := h.1.2; rw [hd2] at this; omega
      rw [hno.1, hno.2]
      repeat' (first | ((first | refine WLA.m rfl rfl ?_ ?_ | refine WLA.st rfl ?_ ?_ | refine WLA.x rfl rfl ?_ (fun x => ?_) | refine WLA.x0 rfl ?_ (fun x => ?_)); first | exact trivial | exact rfl | assumption | omega | (refine ⟨?_, ?_⟩ <;> omega) | (simp only [Room, lenS]; omega) | decide | skip) | (refine Stp.go ?_) | (refine WPA.ifT ?_) | (refine WPA.ifF ?_) | (refine WLA.no rfl rfl ?_) | ((first | refine WPA.dec ?_ | ((fail_if_success (guard_target =~ WLA _ _ _ _ _ _ (put1 _ _ (.bool true)) _)); (fail_if_success (guard_target =~ WLA _ _ _ _ _ _ (put1 _ _ (.bool false)) _)); refine WLA.dec rfl rfl ?_) | refine WLA.pk ?_); first | refine .inl ⟨by first | assumption | omega | with_reducible rfl | (refine fun h => h ?_; first | assumption | with_reducible rfl) | (simp only [lenS] <;> omega) | decide, ?_⟩ | refine .inr ⟨by first | assumption | omega | with_reducible rfl | (refine fun h => h ?_; first | assumption | with_reducible rfl) | (simp only [lenS] <;> omega) | decide, ?_⟩) | ((first | refine WPA.ifBt ?_ ?_ | refine WPA.ifBnf ?_ ?_); assumption) | ((first | refine WPA.ifBnt ?_ ?_ | refine WPA.ifBf ?_ ?_); assumption) | ((first | refine WPA.ifs ?_ ?_ | refine WPA.ifB ?_ ?_) <;> intro hc) | ((fail_if_success (guard_target =~ WLA _ _ _ _ _ _ (put1 _ _ (.bool true)) _)); (fail_if_success (guard_target =~ WLA _ _ _ _ _ _ (put1 _ _ (.bool false)) _)); (first | refine WLA.both rfl rfl ?_ ?_ | refine WLA.bothB rfl rfl ?_ ?_) <;> intro hg))
      exact QQ.end_ rfl () rfl fun w h => h
    have hpos : 0 < d.size := by have := digS_pos (s := s) (by rw [hd2]; exact h0); rw [hd2] at this; exact this
    have hp0 : (0 : Int) ≤ 0 ∧ (0 : Int) < d.size := by omega
    by_cases hz : bt d 0 = 48 ∧ s ≠ zrB
    · obtain ⟨hz1, hz2⟩ := hz
      have hno := num_no (s := s) fun h => hz2 (h.2.1 (by rw [hd2]; exact hz1))
      rw [hno.1, hno.2]
      have hz3 : ¬ s = ⟨#[48]⟩ := hz2
      repeat' (first | ((first | refine WLA.m rfl rfl ?_ ?_ | refine WLA.st rfl ?_ ?_ | refine WLA.x rfl rfl ?_ (fun x => ?_) | refine WLA.x0 rfl ?_ (fun x => ?_)); first | exact trivial | exact rfl | assumption | omega | (refine ⟨?_, ?_⟩ <;> omega) | (simp only [Room, lenS]; omega) | decide | skip) | (refine Stp.go ?_) | (refine WPA.ifT ?_) | (refine WPA.ifF ?_) | (refine WLA.no rfl rfl ?_) | ((first | refine WPA.dec ?_ | ((fail_if_success (guard_target =~ WLA _ _ _ _ _ _ (put1 _ _ (.bool true)) _)); (fail_if_success (guard_target =~ WLA _ _ _ _ _ _ (put1 _ _ (.bool false)) _)); refine WLA.dec rfl rfl ?_) | refine WLA.pk ?_); first | refine .inl ⟨by first | assumption | omega | with_reducible rfl | (refine fun h => h ?_; first | assumption | with_reducible rfl) | (simp only [lenS] <;> omega) | decide, ?_⟩ | refine .inr ⟨by first | assumption | omega | with_reducible rfl | (refine fun h => h ?_; first | assumption | with_reducible rfl) | (simp only [lenS] <;> omega) | decide, ?_⟩) | ((first | refine WPA.ifBt ?_ ?_ | refine WPA.ifBnf ?_ ?_); assumption) | ((first | refine WPA.ifBnt ?_ ?_ | refine WPA.ifBf ?_ ?_); assumption) | ((first | refine WPA.ifs ?_ ?_ | refine WPA.ifB ?_ ?_) <;> intro hc) | ((fail_if_success (guard_target =~ WLA _ _ _ _ _ _ (put1 _ _ (.bool true)) _)); (fail_if_success (guard_target =~ WLA _ _ _ _ _ _ (put1 _ _ (.bool false)) _)); (first | refine WLA.both rfl rfl ?_ ?_ | refine WLA.bothB rfl rfl ?_ ?_) <;> intro hg))
      exact QQ.end_ rfl () rfl fun w h => h
    have hz4 : (bt d 0 = 48 ∧ s = ⟨#[48]⟩) ∨ ¬ bt d 0 = 48 := by
      by_cases h1 : bt d 0 = 48
      · by_cases h2 : s = zrB
        · exact .inl ⟨h1, h2⟩
        · exact absurd ⟨h1, h2⟩ hz
      · exact .inr h1
    rcases hz4 with ⟨hz1, hz2⟩ | hz1
    all_goals
      repeat' (first | ((first | refine WLA.m rfl rfl ?_ ?_ | refine WLA.st rfl ?_ ?_ | refine WLA.x rfl rfl ?_ (fun x => ?_) | refine WLA.x0 rfl ?_ (fun x => ?_)); first | exact trivial | exact rfl | assumption | omega | (refine ⟨?_, ?_⟩ <;> omega) | (simp only [Room, lenS]; omega) | decide | skip) | (refine Stp.go ?_) | (refine WPA.ifT ?_) | (refine WPA.ifF ?_) | (refine WLA.no rfl rfl ?_) | ((first | refine WPA.dec ?_ | ((fail_if_success (guard_target =~ WLA _ _ _ _ _ _ (put1 _ _ (.bool true)) _)); (fail_if_success (guard_target =~ WLA _ _ _ _ _ _ (put1 _ _ (.bool false)) _)); refine WLA.dec rfl rfl ?_) | refine WLA.pk ?_); first | refine .inl ⟨by first | assumption | omega | with_reducible rfl | (refine fun h => h ?_; first | assumption | with_reducible rfl) | (simp only [lenS] <;> omega) | decide, ?_⟩ | refine .inr ⟨by first | assumption | omega | with_reducible rfl | (refine fun h => h ?_; first | assumption | with_reducible rfl) | (simp only [lenS] <;> omega) | decide, ?_⟩) | ((first | refine WPA.ifBt ?_ ?_ | refine WPA.ifBnf ?_ ?_); assumption) | ((first | refine WPA.ifBnt ?_ ?_ | refine WPA.ifBf ?_ ?_); assumption) | ((first | refine WPA.ifs ?_ ?_ | refine WPA.ifB ?_ ?_) <;> intro hc) | ((fail_if_success (guard_target =~ WLA _ _ _ _ _ _ (put1 _ _ (.bool true)) _)); (fail_if_success (guard_target =~ WLA _ _ _ _ _ _ (put1 _ _ (.bool false)) _)); (first | refine WLA.both rfl rfl ?_ ?_ | refine WLA.bothB rfl rfl ?_ ?_) <;> intro hg))
    all_goals
      refine WPA.loopS (σ := Nat) (fun n => [(0, .string s), (4, .bool true), (5, .string d), (6, .int .i64 (valD d n)), (7, .int .i64 n)]) (fun n => n ≤ d.size ∧ DigP d n) (fun _ => SLd w0 I L u) (fun n => d.size - n) 0 ⟨rfl, congrArg Value.bool (decide_eq_true h45), rfl, rfl, rfl, trivial⟩ ⟨Nat.zero_le _, fun j hj => absurd hj (Nat.not_lt_zero j)⟩ (fun w h => h) ?_
      rintro n ρ ⟨hn, hD⟩
      by_cases hlt : n < d.size
      · have hlt' : (n : Int) < d.size := by omega
        have hir : (0 : Int) ≤ n ∧ (n : Int) < d.size := by omega
        by_cases b1 : bt d (n : Int) < 48
        · have hno := num_no (s := s) fun h => by have := h.2.2; rw [hd2] at this; have := this n hlt; omega
          rw [hno.1, hno.2]
          repeat' (first | ((first | refine WLA.m rfl rfl ?_ ?_ | refine WLA.st rfl ?_ ?_ | refine WLA.x rfl rfl ?_ (fun x => ?_) | refine WLA.x0 rfl ?_ (fun x => ?_)); first | exact trivial | exact rfl | assumption | omega | (refine ⟨?_, ?_⟩ <;> omega) | (simp only [Room, lenS]; omega) | decide | skip) | (refine Stp.go ?_) | (refine WPA.ifT ?_) | (refine WPA.ifF ?_) | (refine WLA.no rfl rfl ?_) | ((first | refine WPA.dec ?_ | ((fail_if_success (guard_target =~ WLA _ _ _ _ _ _ (put1 _ _ (.bool true)) _)); (fail_if_success (guard_target =~ WLA _ _ _ _ _ _ (put1 _ _ (.bool false)) _)); refine WLA.dec rfl rfl ?_) | refine WLA.pk ?_); first | refine .inl ⟨by first | assumption | omega | with_reducible rfl | (refine fun h => h ?_; first | assumption | with_reducible rfl) | (simp only [lenS] <;> omega) | decide, ?_⟩ | refine .inr ⟨by first | assumption | omega | with_reducible rfl | (refine fun h => h ?_; first | assumption | with_reducible rfl) | (simp only [lenS] <;> omega) | decide, ?_⟩) | ((first | refine WPA.ifBt ?_ ?_ | refine WPA.ifBnf ?_ ?_); assumption) | ((first | refine WPA.ifBnt ?_ ?_ | refine WPA.ifBf ?_ ?_); assumption) | ((first | refine WPA.ifs ?_ ?_ | refine WPA.ifB ?_ ?_) <;> intro hc) | ((fail_if_success (guard_target =~ WLA _ _ _ _ _ _ (put1 _ _ (.bool true)) _)); (fail_if_success (guard_target =~ WLA _ _ _ _ _ _ (put1 _ _ (.bool false)) _)); (first | refine WLA.both rfl rfl ?_ ?_ | refine WLA.bothB rfl rfl ?_ ?_) <;> intro hg))
          exact QQ.end_ rfl () rfl fun w h => h
        by_cases b2 : 57 < bt d (n : Int)
        · have hno := num_no (s := s) fun h => by have := h.2.2; rw [hd2] at this; have := this n hlt; omega
          rw [hno.1, hno.2]
          repeat' (first | ((first | refine WLA.m rfl rfl ?_ ?_ | refine WLA.st rfl ?_ ?_ | refine WLA.x rfl rfl ?_ (fun x => ?_) | refine WLA.x0 rfl ?_ (fun x => ?_)); first | exact trivial | exact rfl | assumption | omega | (refine ⟨?_, ?_⟩ <;> omega) | (simp only [Room, lenS]; omega) | decide | skip) | (refine Stp.go ?_) | (refine WPA.ifT ?_) | (refine WPA.ifF ?_) | (refine WLA.no rfl rfl ?_) | ((first | refine WPA.dec ?_ | ((fail_if_success (guard_target =~ WLA _ _ _ _ _ _ (put1 _ _ (.bool true)) _)); (fail_if_success (guard_target =~ WLA _ _ _ _ _ _ (put1 _ _ (.bool false)) _)); refine WLA.dec rfl rfl ?_) | refine WLA.pk ?_); first | refine .inl ⟨by first | assumption | omega | with_reducible rfl | (refine fun h => h ?_; first | assumption | with_reducible rfl) | (simp only [lenS] <;> omega) | decide, ?_⟩ | refine .inr ⟨by first | assumption | omega | with_reducible rfl | (refine fun h => h ?_; first | assumption | with_reducible rfl) | (simp only [lenS] <;> omega) | decide, ?_⟩) | ((first | refine WPA.ifBt ?_ ?_ | refine WPA.ifBnf ?_ ?_); assumption) | ((first | refine WPA.ifBnt ?_ ?_ | refine WPA.ifBf ?_ ?_); assumption) | ((first | refine WPA.ifs ?_ ?_ | refine WPA.ifB ?_ ?_) <;> intro hc) | ((fail_if_success (guard_target =~ WLA _ _ _ _ _ _ (put1 _ _ (.bool true)) _)); (fail_if_success (guard_target =~ WLA _ _ _ _ _ _ (put1 _ _ (.bool false)) _)); (first | refine WLA.both rfl rfl ?_ ?_ | refine WLA.bothB rfl rfl ?_ ?_) <;> intro hg))
          exact QQ.end_ rfl () rfl fun w h => h
        have hv := valD_lt hD
        have hp := p10 (n := n) (by omega)
        have hc1 : 0 ≤ bt d (n : Int) - 48 ∧ bt d (n : Int) - 48 ≤ 255 := by omega
        have hw8 := wrap_u8 (a := bt d (n : Int) - 48) hc1
        have hc2 : -9223372036854775808 ≤ 10 * valD d n ∧ 10 * valD d n ≤ 9223372036854775807 := by omega
        have hc3 : -9223372036854775808 ≤ 10 * valD d n + (bt d (n : Int) - 48) ∧ 10 * valD d n + (bt d (n : Int) - 48) ≤ 9223372036854775807 := by omega
        repeat' (first | ((rw [hw8])) | ((first | refine WLA.m rfl rfl ?_ ?_ | refine WLA.st rfl ?_ ?_ | refine WLA.x rfl rfl ?_ (fun x => ?_) | refine WLA.x0 rfl ?_ (fun x => ?_)); first | exact trivial | exact rfl | assumption | omega | (refine ⟨?_, ?_⟩ <;> omega) | (simp only [Room, lenS]; omega) | decide | skip) | (refine Stp.go ?_) | (refine WPA.ifT ?_) | (refine WPA.ifF ?_) | (refine WLA.no rfl rfl ?_) | ((first | refine WPA.dec ?_ | ((fail_if_success (guard_target =~ WLA _ _ _ _ _ _ (put1 _ _ (.bool true)) _)); (fail_if_success (guard_target =~ WLA _ _ _ _ _ _ (put1 _ _ (.bool false)) _)); refine WLA.dec rfl rfl ?_) | refine WLA.pk ?_); first | refine .inl ⟨by first | assumption | omega | with_reducible rfl | (refine fun h => h ?_; first | assumption | with_reducible rfl) | (simp only [lenS] <;> omega) | decide, ?_⟩ | refine .inr ⟨by first | assumption | omega | with_reducible rfl | (refine fun h => h ?_; first | assumption | with_reducible rfl) | (simp only [lenS] <;> omega) | decide, ?_⟩) | ((first | refine WPA.ifBt ?_ ?_ | refine WPA.ifBnf ?_ ?_); assumption) | ((first | refine WPA.ifBnt ?_ ?_ | refine WPA.ifBf ?_ ?_); assumption) | ((first | refine WPA.ifs ?_ ?_ | refine WPA.ifB ?_ ?_) <;> intro hc) | ((fail_if_success (guard_target =~ WLA _ _ _ _ _ _ (put1 _ _ (.bool true)) _)); (fail_if_success (guard_target =~ WLA _ _ _ _ _ _ (put1 _ _ (.bool false)) _)); (first | refine WLA.both rfl rfl ?_ ?_ | refine WLA.bothB rfl rfl ?_ ?_) <;> intro hg))
        refine QQ.loopS (n + 1) ⟨rfl, rfl, rfl, rfl, rfl, trivial⟩ ⟨hlt, fun j hj => ?_⟩ (by omega) (fun w h => h)
        by_cases e : j = n
        · subst e; omega
        · exact hD j (by omega)
      · have hlt' : ¬ (n : Int) < d.size := by omega
        have hnd : n = d.size := by omega
        rw [hnd] at hD hn ⊢
        have hok : NumOk s := by
          refine ⟨⟨by rw [hd2]; exact h0, by rw [hd2]; omega⟩, fun h => ?_, by rw [hd2]; exact hD⟩
          rw [hd2] at h
          first | exact hz2 | exact absurd h hz1
        have hy := num_yes hok
        rw [hd2] at hy
        have hv := valD_lt hD
        have hp := p10 (n := d.size - 1) (by omega)
        have hpp : (10 : Int) ^ d.size = 10 * 10 ^ (d.size - 1) := by
          conv => lhs; rw [show d.size = (d.size - 1) + 1 by omega, Int.pow_succ]
          rw [Int.mul_comm]
        rw [hy.1, hy.2]
        have hlt2 : ¬ (d.size : Int) < d.size := by omega
        have hc4 : -9223372036854775808 ≤ 0 - valD d d.size ∧ 0 - valD d d.size ≤ 9223372036854775807 := by omega
        rw [if_pos hm]
        repeat' (first | ((first | refine WLA.m rfl rfl ?_ ?_ | refine WLA.st rfl ?_ ?_ | refine WLA.x rfl rfl ?_ (fun x => ?_) | refine WLA.x0 rfl ?_ (fun x => ?_)); first | exact trivial | exact rfl | assumption | omega | (refine ⟨?_, ?_⟩ <;> omega) | (simp only [Room, lenS]; omega) | decide | skip) | (refine Stp.go ?_) | (refine WPA.ifT ?_) | (refine WPA.ifF ?_) | ((first | refine WPA.dec ?_); first | refine .inl ⟨by first | assumption | omega | with_reducible rfl | (refine fun h => h ?_; first | assumption | with_reducible rfl) | (simp only [lenS] <;> omega) | decide, ?_⟩ | refine .inr ⟨by first | assumption | omega | with_reducible rfl | (refine fun h => h ?_; first | assumption | with_reducible rfl) | (simp only [lenS] <;> omega) | decide, ?_⟩) | ((first | refine WPA.ifBt ?_ ?_ | refine WPA.ifBnf ?_ ?_); assumption) | ((first | refine WPA.ifBnt ?_ ?_ | refine WPA.ifBf ?_ ?_); assumption) | ((first | refine WPA.ifs ?_ ?_ | refine WPA.ifB ?_ ?_) <;> intro hc))
        exact QQ.end_ rfl () (by rw [Int.zero_sub]) fun w h => h
  · rw [decide_eq_false hm] at hmb
    subst hmb
    repeat' ((fail_if_success (guard_target =~ WPA _ _ _ (.region 5 _ _) _ _ _)); first | ((first | refine WLA.m rfl rfl ?_ ?_ | refine WLA.st rfl ?_ ?_ | refine WLA.x rfl rfl ?_ (fun x => ?_) | refine WLA.x0 rfl ?_ (fun x => ?_)); first | exact trivial | exact rfl | assumption | omega | (refine ⟨?_, ?_⟩ <;> omega) | (simp only [Room, lenS]; omega) | decide | skip) | (refine Stp.go ?_) | (refine WPA.ifT ?_) | (refine WPA.ifF ?_) | (refine WLA.no rfl rfl ?_) | ((first | refine WPA.dec ?_ | ((fail_if_success (guard_target =~ WLA _ _ _ _ _ _ (put1 _ _ (.bool true)) _)); (fail_if_success (guard_target =~ WLA _ _ _ _ _ _ (put1 _ _ (.bool false)) _)); refine WLA.dec rfl rfl ?_) | refine WLA.pk ?_); first | refine .inl ⟨by first | assumption | omega | with_reducible rfl | (refine fun h => h ?_; first | assumption | with_reducible rfl) | (simp only [lenS] <;> omega) | decide, ?_⟩ | refine .inr ⟨by first | assumption | omega | with_reducible rfl | (refine fun h => h ?_; first | assumption | with_reducible rfl) | (simp only [lenS] <;> omega) | decide, ?_⟩) | ((first | refine WPA.ifBt ?_ ?_ | refine WPA.ifBnf ?_ ?_); assumption) | ((first | refine WPA.ifBnt ?_ ?_ | refine WPA.ifBf ?_ ?_); assumption) | ((first | refine WPA.ifs ?_ ?_ | refine WPA.ifB ?_ ?_) <;> intro hc) | ((fail_if_success (guard_target =~ WLA _ _ _ _ _ _ (put1 _ _ (.bool true)) _)); (fail_if_success (guard_target =~ WLA _ _ _ _ _ _ (put1 _ _ (.bool false)) _)); (first | refine WLA.both rfl rfl ?_ ?_ | refine WLA.bothB rfl rfl ?_ ?_) <;> intro hg))
    subst hx
    by_cases h0 : s = ⟨#[]⟩
    · have hno := num_no (s := s) fun h => h.1.1 (by rw [hd2]; exact h0)
      rw [hno.1, hno.2]
      repeat' (first | ((first | refine WLA.m rfl rfl ?_ ?_ | refine WLA.st rfl ?_ ?_ | refine WLA.x rfl rfl ?_ (fun x => ?_) | refine WLA.x0 rfl ?_ (fun x => ?_)); first | exact trivial | exact rfl | assumption | omega | (refine ⟨?_, ?_⟩ <;> omega) | (simp only [Room, lenS]; omega) | decide | skip) | (refine Stp.go ?_) | (refine WPA.ifT ?_) | (refine WPA.ifF ?_) | (refine WLA.no rfl rfl ?_) | ((first | refine WPA.dec ?_ | ((fail_if_success (guard_target =~ WLA _ _ _ _ _ _ (put1 _ _ (.bool true)) _)); (fail_if_success (guard_target =~ WLA _ _ _ _ _ _ (put1 _ _ (.bool false)) _)); refine WLA.dec rfl rfl ?_) | refine WLA.pk ?_); first | refine .inl ⟨by first | assumption | omega | with_reducible rfl | (refine fun h => h ?_; first | assumption | with_reducible rfl) | (simp only [lenS] <;> omega) | decide, ?_⟩ | refine .inr ⟨by first | assumption | omega | with_reducible rfl | (refine fun h => h ?_; first | assumption | with_reducible rfl) | (simp only [lenS] <;> omega) | decide, ?_⟩) | ((first | refine WPA.ifBt ?_ ?_ | refine WPA.ifBnf ?_ ?_); assumption) | ((first | refine WPA.ifBnt ?_ ?_ | refine WPA.ifBf ?_ ?_); assumption) | ((first | refine WPA.ifs ?_ ?_ | refine WPA.ifB ?_ ?_) <;> intro hc) | ((fail_if_success (guard_target =~ WLA _ _ _ _ _ _ (put1 _ _ (.bool true)) _)); (fail_if_success (guard_target =~ WLA _ _ _ _ _ _ (put1 _ _ (.bool false)) _)); (first | refine WLA.both rfl rfl ?_ ?_ | refine WLA.bothB rfl rfl ?_ ?_) <;> intro hg))
      exact QQ.end_ rfl () rfl fun w h => h
    by_cases h18 : (18 : Int) < s.size
    · have hno := num_no (s := s) fun h => by have := h.1.2; rw [hd2] at this; omega
      rw [hno.1, hno.2]
      repeat' (first | ((first | refine WLA.m rfl rfl ?_ ?_ | refine WLA.st rfl ?_ ?_ | refine WLA.x rfl rfl ?_ (fun x => ?_) | refine WLA.x0 rfl ?_ (fun x => ?_)); first | exact trivial | exact rfl | assumption | omega | (refine ⟨?_, ?_⟩ <;> omega) | (simp only [Room, lenS]; omega) | decide | skip) | (refine Stp.go ?_) | (refine WPA.ifT ?_) | (refine WPA.ifF ?_) | (refine WLA.no rfl rfl ?_) | ((first | refine WPA.dec ?_ | ((fail_if_success (guard_target =~ WLA _ _ _ _ _ _ (put1 _ _ (.bool true)) _)); (fail_if_success (guard_target =~ WLA _ _ _ _ _ _ (put1 _ _ (.bool false)) _)); refine WLA.dec rfl rfl ?_) | refine WLA.pk ?_); first | refine .inl ⟨by first | assumption | omega | with_reducible rfl | (refine fun h => h ?_; first | assumption | with_reducible rfl) | (simp only [lenS] <;> omega) | decide, ?_⟩ | refine .inr ⟨by first | assumption | omega | with_reducible rfl | (refine fun h => h ?_; first | assumption | with_reducible rfl) | (simp only [lenS] <;> omega) | decide, ?_⟩) | ((first | refine WPA.ifBt ?_ ?_ | refine WPA.ifBnf ?_ ?_); assumption) | ((first | refine WPA.ifBnt ?_ ?_ | refine WPA.ifBf ?_ ?_); assumption) | ((first | refine WPA.ifs ?_ ?_ | refine WPA.ifB ?_ ?_) <;> intro hc) | ((fail_if_success (guard_target =~ WLA _ _ _ _ _ _ (put1 _ _ (.bool true)) _)); (fail_if_success (guard_target =~ WLA _ _ _ _ _ _ (put1 _ _ (.bool false)) _)); (first | refine WLA.both rfl rfl ?_ ?_ | refine WLA.bothB rfl rfl ?_ ?_) <;> intro hg))
      exact QQ.end_ rfl () rfl fun w h => h
    have hpos : 0 < s.size := by have := digS_pos (s := s) (by rw [hd2]; exact h0); rw [hd2] at this; exact this
    have hp0 : (0 : Int) ≤ 0 ∧ (0 : Int) < s.size := by omega
    by_cases hz : bt s 0 = 48 ∧ s ≠ zrB
    · obtain ⟨hz1, hz2⟩ := hz
      have hno := num_no (s := s) fun h => hz2 (h.2.1 (by rw [hd2]; exact hz1))
      rw [hno.1, hno.2]
      have hz3 : ¬ s = ⟨#[48]⟩ := hz2
      repeat' (first | ((first | refine WLA.m rfl rfl ?_ ?_ | refine WLA.st rfl ?_ ?_ | refine WLA.x rfl rfl ?_ (fun x => ?_) | refine WLA.x0 rfl ?_ (fun x => ?_)); first | exact trivial | exact rfl | assumption | omega | (refine ⟨?_, ?_⟩ <;> omega) | (simp only [Room, lenS]; omega) | decide | skip) | (refine Stp.go ?_) | (refine WPA.ifT ?_) | (refine WPA.ifF ?_) | (refine WLA.no rfl rfl ?_) | ((first | refine WPA.dec ?_ | ((fail_if_success (guard_target =~ WLA _ _ _ _ _ _ (put1 _ _ (.bool true)) _)); (fail_if_success (guard_target =~ WLA _ _ _ _ _ _ (put1 _ _ (.bool false)) _)); refine WLA.dec rfl rfl ?_) | refine WLA.pk ?_); first | refine .inl ⟨by first | assumption | omega | with_reducible rfl | (refine fun h => h ?_; first | assumption | with_reducible rfl) | (simp only [lenS] <;> omega) | decide, ?_⟩ | refine .inr ⟨by first | assumption | omega | with_reducible rfl | (refine fun h => h ?_; first | assumption | with_reducible rfl) | (simp only [lenS] <;> omega) | decide, ?_⟩) | ((first | refine WPA.ifBt ?_ ?_ | refine WPA.ifBnf ?_ ?_); assumption) | ((first | refine WPA.ifBnt ?_ ?_ | refine WPA.ifBf ?_ ?_); assumption) | ((first | refine WPA.ifs ?_ ?_ | refine WPA.ifB ?_ ?_) <;> intro hc) | ((fail_if_success (guard_target =~ WLA _ _ _ _ _ _ (put1 _ _ (.bool true)) _)); (fail_if_success (guard_target =~ WLA _ _ _ _ _ _ (put1 _ _ (.bool false)) _)); (first | refine WLA.both rfl rfl ?_ ?_ | refine WLA.bothB rfl rfl ?_ ?_) <;> intro hg))
      exact QQ.end_ rfl () rfl fun w h => h
    have hz4 : (bt s 0 = 48 ∧ s = ⟨#[48]⟩) ∨ ¬ bt s 0 = 48 := by
      by_cases h1 : bt s 0 = 48
      · by_cases h2 : s = zrB
        · exact .inl ⟨h1, h2⟩
        · exact absurd ⟨h1, h2⟩ hz
      · exact .inr h1
    rcases hz4 with ⟨hz1, hz2⟩ | hz1
    all_goals
      repeat' (first | ((first | refine WLA.m rfl rfl ?_ ?_ | refine WLA.st rfl ?_ ?_ | refine WLA.x rfl rfl ?_ (fun x => ?_) | refine WLA.x0 rfl ?_ (fun x => ?_)); first | exact trivial | exact rfl | assumption | omega | (refine ⟨?_, ?_⟩ <;> omega) | (simp only [Room, lenS]; omega) | decide | skip) | (refine Stp.go ?_) | (refine WPA.ifT ?_) | (refine WPA.ifF ?_) | (refine WLA.no rfl rfl ?_) | ((first | refine WPA.dec ?_ | ((fail_if_success (guard_target =~ WLA _ _ _ _ _ _ (put1 _ _ (.bool true)) _)); (fail_if_success (guard_target =~ WLA _ _ _ _ _ _ (put1 _ _ (.bool false)) _)); refine WLA.dec rfl rfl ?_) | refine WLA.pk ?_); first | refine .inl ⟨by first | assumption | omega | with_reducible rfl | (refine fun h => h ?_; first | assumption | with_reducible rfl) | (simp only [lenS] <;> omega) | decide, ?_⟩ | refine .inr ⟨by first | assumption | omega | with_reducible rfl | (refine fun h => h ?_; first | assumption | with_reducible rfl) | (simp only [lenS] <;> omega) | decide, ?_⟩) | ((first | refine WPA.ifBt ?_ ?_ | refine WPA.ifBnf ?_ ?_); assumption) | ((first | refine WPA.ifBnt ?_ ?_ | refine WPA.ifBf ?_ ?_); assumption) | ((first | refine WPA.ifs ?_ ?_ | refine WPA.ifB ?_ ?_) <;> intro hc) | ((fail_if_success (guard_target =~ WLA _ _ _ _ _ _ (put1 _ _ (.bool true)) _)); (fail_if_success (guard_target =~ WLA _ _ _ _ _ _ (put1 _ _ (.bool false)) _)); (first | refine WLA.both rfl rfl ?_ ?_ | refine WLA.bothB rfl rfl ?_ ?_) <;> intro hg))
    all_goals
      refine WPA.loopS (σ := Nat) (fun n => [(0, .string s), (4, .bool false), (5, .string s), (6, .int .i64 (valD s n)), (7, .int .i64 n)]) (fun n => n ≤ s.size ∧ DigP s n) (fun _ => SLd w0 I L u) (fun n => s.size - n) 0 ⟨rfl, congrArg Value.bool (decide_eq_false h45), rfl, rfl, rfl, trivial⟩ ⟨Nat.zero_le _, fun j hj => absurd hj (Nat.not_lt_zero j)⟩ (fun w h => h) ?_
      rintro n ρ ⟨hn, hD⟩
      by_cases hlt : n < s.size
      · have hlt' : (n : Int) < s.size := by omega
        have hir : (0 : Int) ≤ n ∧ (n : Int) < s.size := by omega
        by_cases b1 : bt s (n : Int) < 48
        · have hno := num_no (s := s) fun h => by have := h.2.2; rw [hd2] at this; have := this n hlt; omega
          rw [hno.1, hno.2]
          repeat' (first | ((first | refine WLA.m rfl rfl ?_ ?_ | refine WLA.st rfl ?_ ?_ | refine WLA.x rfl rfl ?_ (fun x => ?_) | refine WLA.x0 rfl ?_ (fun x => ?_)); first | exact trivial | exact rfl | assumption | omega | (refine ⟨?_, ?_⟩ <;> omega) | (simp only [Room, lenS]; omega) | decide | skip) | (refine Stp.go ?_) | (refine WPA.ifT ?_) | (refine WPA.ifF ?_) | (refine WLA.no rfl rfl ?_) | ((first | refine WPA.dec ?_ | ((fail_if_success (guard_target =~ WLA _ _ _ _ _ _ (put1 _ _ (.bool true)) _)); (fail_if_success (guard_target =~ WLA _ _ _ _ _ _ (put1 _ _ (.bool false)) _)); refine WLA.dec rfl rfl ?_) | refine WLA.pk ?_); first | refine .inl ⟨by first | assumption | omega | with_reducible rfl | (refine fun h => h ?_; first | assumption | with_reducible rfl) | (simp only [lenS] <;> omega) | decide, ?_⟩ | refine .inr ⟨by first | assumption | omega | with_reducible rfl | (refine fun h => h ?_; first | assumption | with_reducible rfl) | (simp only [lenS] <;> omega) | decide, ?_⟩) | ((first | refine WPA.ifBt ?_ ?_ | refine WPA.ifBnf ?_ ?_); assumption) | ((first | refine WPA.ifBnt ?_ ?_ | refine WPA.ifBf ?_ ?_); assumption) | ((first | refine WPA.ifs ?_ ?_ | refine WPA.ifB ?_ ?_) <;> intro hc) | ((fail_if_success (guard_target =~ WLA _ _ _ _ _ _ (put1 _ _ (.bool true)) _)); (fail_if_success (guard_target =~ WLA _ _ _ _ _ _ (put1 _ _ (.bool false)) _)); (first | refine WLA.both rfl rfl ?_ ?_ | refine WLA.bothB rfl rfl ?_ ?_) <;> intro hg))
          exact QQ.end_ rfl () rfl fun w h => h
        by_cases b2 : 57 < bt s (n : Int)
        · have hno := num_no (s := s) fun h => by have := h.2.2; rw [hd2] at this; have := this n hlt; omega
          rw [hno.1, hno.2]
          repeat' (first | ((first | refine WLA.m rfl rfl ?_ ?_ | refine WLA.st rfl ?_ ?_ | refine WLA.x rfl rfl ?_ (fun x => ?_) | refine WLA.x0 rfl ?_ (fun x => ?_)); first | exact trivial | exact rfl | assumption | omega | (refine ⟨?_, ?_⟩ <;> omega) | (simp only [Room, lenS]; omega) | decide | skip) | (refine Stp.go ?_) | (refine WPA.ifT ?_) | (refine WPA.ifF ?_) | (refine WLA.no rfl rfl ?_) | ((first | refine WPA.dec ?_ | ((fail_if_success (guard_target =~ WLA _ _ _ _ _ _ (put1 _ _ (.bool true)) _)); (fail_if_success (guard_target =~ WLA _ _ _ _ _ _ (put1 _ _ (.bool false)) _)); refine WLA.dec rfl rfl ?_) | refine WLA.pk ?_); first | refine .inl ⟨by first | assumption | omega | with_reducible rfl | (refine fun h => h ?_; first | assumption | with_reducible rfl) | (simp only [lenS] <;> omega) | decide, ?_⟩ | refine .inr ⟨by first | assumption | omega | with_reducible rfl | (refine fun h => h ?_; first | assumption | with_reducible rfl) | (simp only [lenS] <;> omega) | decide, ?_⟩) | ((first | refine WPA.ifBt ?_ ?_ | refine WPA.ifBnf ?_ ?_); assumption) | ((first | refine WPA.ifBnt ?_ ?_ | refine WPA.ifBf ?_ ?_); assumption) | ((first | refine WPA.ifs ?_ ?_ | refine WPA.ifB ?_ ?_) <;> intro hc) | ((fail_if_success (guard_target =~ WLA _ _ _ _ _ _ (put1 _ _ (.bool true)) _)); (fail_if_success (guard_target =~ WLA _ _ _ _ _ _ (put1 _ _ (.bool false)) _)); (first | refine WLA.both rfl rfl ?_ ?_ | refine WLA.bothB rfl rfl ?_ ?_) <;> intro hg))
          exact QQ.end_ rfl () rfl fun w h => h
        have hv := valD_lt hD
        have hp := p10 (n := n) (by omega)
        have hc1 : 0 ≤ bt s (n : Int) - 48 ∧ bt s (n : Int) - 48 ≤ 255 := by omega
        have hw8 := wrap_u8 (a := bt s (n : Int) - 48) hc1
        have hc2 : -9223372036854775808 ≤ 10 * valD s n ∧ 10 * valD s n ≤ 9223372036854775807 := by omega
        have hc3 : -9223372036854775808 ≤ 10 * valD s n + (bt s (n : Int) - 48) ∧ 10 * valD s n + (bt s (n : Int) - 48) ≤ 9223372036854775807 := by omega
        repeat' (first | ((rw [hw8])) | ((first | refine WLA.m rfl rfl ?_ ?_ | refine WLA.st rfl ?_ ?_ | refine WLA.x rfl rfl ?_ (fun x => ?_) | refine WLA.x0 rfl ?_ (fun x => ?_)); first | exact trivial | exact rfl | assumption | omega | (refine ⟨?_, ?_⟩ <;> omega) | (simp only [Room, lenS]; omega) | decide | skip) | (refine Stp.go ?_) | (refine WPA.ifT ?_) | (refine WPA.ifF ?_) | (refine WLA.no rfl rfl ?_) | ((first | refine WPA.dec ?_ | ((fail_if_success (guard_target =~ WLA _ _ _ _ _ _ (put1 _ _ (.bool true)) _)); (fail_if_success (guard_target =~ WLA _ _ _ _ _ _ (put1 _ _ (.bool false)) _)); refine WLA.dec rfl rfl ?_) | refine WLA.pk ?_); first | refine .inl ⟨by first | assumption | omega | with_reducible rfl | (refine fun h => h ?_; first | assumption | with_reducible rfl) | (simp only [lenS] <;> omega) | decide, ?_⟩ | refine .inr ⟨by first | assumption | omega | with_reducible rfl | (refine fun h => h ?_; first | assumption | with_reducible rfl) | (simp only [lenS] <;> omega) | decide, ?_⟩) | ((first | refine WPA.ifBt ?_ ?_ | refine WPA.ifBnf ?_ ?_); assumption) | ((first | refine WPA.ifBnt ?_ ?_ | refine WPA.ifBf ?_ ?_); assumption) | ((first | refine WPA.ifs ?_ ?_ | refine WPA.ifB ?_ ?_) <;> intro hc) | ((fail_if_success (guard_target =~ WLA _ _ _ _ _ _ (put1 _ _ (.bool true)) _)); (fail_if_success (guard_target =~ WLA _ _ _ _ _ _ (put1 _ _ (.bool false)) _)); (first | refine WLA.both rfl rfl ?_ ?_ | refine WLA.bothB rfl rfl ?_ ?_) <;> intro hg))
        refine QQ.loopS (n + 1) ⟨rfl, rfl, rfl, rfl, rfl, trivial⟩ ⟨hlt, fun j hj => ?_⟩ (by omega) (fun w h => h)
        by_cases e : j = n
        · subst e; omega
        · exact hD j (by omega)
      · have hlt' : ¬ (n : Int) < s.size := by omega
        have hnd : n = s.size := by omega
        rw [hnd] at hD hn ⊢
        have hok : NumOk s := by
          refine ⟨⟨by rw [hd2]; exact h0, by rw [hd2]; omega⟩, fun h => ?_, by rw [hd2]; exact hD⟩
          rw [hd2] at h
          first | exact hz2 | exact absurd h hz1
        have hy := num_yes hok
        rw [hd2] at hy
        have hv := valD_lt hD
        have hp := p10 (n := s.size - 1) (by omega)
        have hpp : (10 : Int) ^ s.size = 10 * 10 ^ (s.size - 1) := by
          conv => lhs; rw [show s.size = (s.size - 1) + 1 by omega, Int.pow_succ]
          rw [Int.mul_comm]
        rw [hy.1, hy.2]
        have hlt2 : ¬ (s.size : Int) < s.size := by omega
        have hc4 : -9223372036854775808 ≤ 0 - valD s s.size ∧ 0 - valD s s.size ≤ 9223372036854775807 := by omega
        rw [if_neg hm]
        repeat' (first | ((first | refine WLA.m rfl rfl ?_ ?_ | refine WLA.st rfl ?_ ?_ | refine WLA.x rfl rfl ?_ (fun x => ?_) | refine WLA.x0 rfl ?_ (fun x => ?_)); first | exact trivial | exact rfl | assumption | omega | (refine ⟨?_, ?_⟩ <;> omega) | (simp only [Room, lenS]; omega) | decide | skip) | (refine Stp.go ?_) | (refine WPA.ifT ?_) | (refine WPA.ifF ?_) | ((first | refine WPA.dec ?_); first | refine .inl ⟨by first | assumption | omega | with_reducible rfl | (refine fun h => h ?_; first | assumption | with_reducible rfl) | (simp only [lenS] <;> omega) | decide, ?_⟩ | refine .inr ⟨by first | assumption | omega | with_reducible rfl | (refine fun h => h ?_; first | assumption | with_reducible rfl) | (simp only [lenS] <;> omega) | decide, ?_⟩) | ((first | refine WPA.ifBt ?_ ?_ | refine WPA.ifBnf ?_ ?_); assumption) | ((first | refine WPA.ifBnt ?_ ?_ | refine WPA.ifBf ?_ ?_); assumption) | ((first | refine WPA.ifs ?_ ?_ | refine WPA.ifB ?_ ?_) <;> intro hc))
        exact QQ.end_ rfl () rfl fun w h => h
end
end Go.Proofs.YthkhneimfjaohaaDoor
namespace Go.Fw
open Go Go.RowKit
set_option linter.unusedVariables false
set_option linter.unusedSimpArgs false
section
variable {P : Program} {ρ : Env} {A : World → Prop} {ty : TypeId}
theorem P_shl {x y : Operand} {t u : TypeId} {k k' : IntKind} {a : Int} {s : Nat} (h1 : evalE ρ x = .int k a) (h2 : evalE ρ y = .int k' (s : Int)) (hs : s ≤ k.bits) : OpP P ρ (.binOp .shl t x y u) ty A (.int k (k.wrap (a * 2 ^ s))) := by
  intro d pos af g w _
  have e : min s k.bits = s := by omega
  simp [execOp, eqGuard, binOp, h1, h2, Op.shift, e, go_sem]
  rw [if_neg (by omega)]
  cases k <;> simp_all [IntKind.bits]
class Pow2 (s : Int) (m : outParam Int) : Prop where
  out : (2 : Int) ^ s.toNat = m ∧ 0 ≤ s ∧ s ≤ 62
instance : Pow2 16 65536 := ⟨by decide⟩
instance : Pow2 8 256 := ⟨by decide⟩
instance {x y : Operand} {t u : TypeId} {k' : IntKind} {a s m : Int} [h1 : Ev ρ x (.int .i64 a)] [h2 : Ev ρ y (.int k' s)] [hp : Pow2 s m] : OpM P ρ A (.binOp .shl t x y u) ty (.int .i64 (a * m)) (-9223372036854775808 ≤ a * m ∧ a * m ≤ 9223372036854775807) := ⟨fun h => by
  have h3 := P_shl (P := P) (A := A) (ty := ty) (t := t) (u := u) (s := s.toNat) h1.out (by rw [h2.out]; congr 1; have := hp.out.2.1; omega) (by have := hp.out.2.2; simp [IntKind.bits]; omega)
  rw [hp.out.1, wrap_i64 h] at h3
  exact h3⟩
theorem P_lssS {x y : Operand} {t u : TypeId} {a b : ByteArray} (h1 : evalE ρ x = .string a) (h2 : evalE ρ y = .string b) : OpP P ρ (.binOp .lss t x y u) ty A (.bool (decide (Op.bytesLess a.data.toList b.data.toList = true))) := by
  intro d pos af g w _; rw [← ByteArray.toList_eq, ← ByteArray.toList_eq]; simp [execOp, eqGuard, binOp, h1, h2, Op.stringOp, go_sem]
instance {x y : Operand} {t u : TypeId} {a b : ByteArray} [h1 : Ev ρ x (.string a)] [h2 : Ev ρ y (.string b)] : OpM P ρ A (.binOp .lss t x y u) ty (.bool (decide (Op.bytesLess a.data.toList b.data.toList = true))) True := ⟨fun _ => P_lssS h1.out h2.out⟩
end
end Go.Fw
namespace Go.Fw
open Go Go.RowKit
set_option linter.unusedVariables false
set_option linter.unusedSimpArgs false
section
variable {P : Program} {ρ : Env} {A : World → Prop} {ty : TypeId} {x y : Operand} {t u : TypeId}
instance {a b : Int} [h1 : Ev ρ x (.int .u64 a)] [h2 : Ev ρ y (.int .u64 b)] : OpM P ρ A (.binOp .quo t x y u) ty (.int .u64 (a / b)) ((0 ≤ a ∧ a ≤ 18446744073709551615) ∧ 0 < b) := ⟨fun h => by
  have h3 := P_quo (P := P) (A := A) (ty := ty) (t := t) (u := u) h1.out h2.out (by omega)
  have e : a.tdiv b = a / b := Int.tdiv_eq_ediv_of_nonneg h.1.1
  have e2 : 0 ≤ a / b := Int.ediv_nonneg h.1.1 (by omega)
  have e3 : a / b ≤ a := Int.ediv_le_self _ h.1.1
  rw [e, wrap_u64 (by omega)] at h3; exact h3⟩
instance {a b : Int} [h1 : Ev ρ x (.int .u64 a)] [h2 : Ev ρ y (.int .u64 b)] : OpM P ρ A (.binOp .rem t x y u) ty (.int .u64 (a % b)) (0 ≤ a ∧ 0 < b) := ⟨fun h => by
  have h3 := P_rem (P := P) (A := A) (ty := ty) (t := t) (u := u) h1.out h2.out (by omega)
  rw [Int.tmod_eq_emod_of_nonneg h.1] at h3; exact h3⟩
instance {a b : Int} [h1 : Ev ρ x (.int .u8 a)] [h2 : Ev ρ y (.int .u8 b)] : OpM P ρ A (.binOp .rem t x y u) ty (.int .u8 (a % b)) (0 ≤ a ∧ 0 < b) := ⟨fun h => by
  have h3 := P_rem (P := P) (A := A) (ty := ty) (t := t) (u := u) h1.out h2.out (by omega)
  rw [Int.tmod_eq_emod_of_nonneg h.1] at h3; exact h3⟩
instance {a b : Int} [h1 : Ev ρ x (.int .u64 a)] [h2 : Ev ρ y (.int .u64 b)] : OpM P ρ A (.binOp .add t x y u) ty (.int .u64 (a + b)) (0 ≤ a + b ∧ a + b ≤ 18446744073709551615) := ⟨fun h => by
  have h3 := P_add (P := P) (A := A) (ty := ty) (t := t) (u := u) h1.out h2.out
  rw [wrap_u64 h] at h3; exact h3⟩
instance {a b : Int} [h1 : Ev ρ x (.int .u64 a)] [h2 : Ev ρ y (.int .u64 b)] : OpM P ρ A (.binOp .mul t x y u) ty (.int .u64 (a * b)) (0 ≤ a * b ∧ a * b ≤ 18446744073709551615) := ⟨fun h => by
  have h3 := P_mul (P := P) (A := A) (ty := ty) (t := t) (u := u) h1.out h2.out
  rw [wrap_u64 h] at h3; exact h3⟩
end
end Go.Fw
namespace Go.Proofs.YthkhneimfjaohaaDoor
open Go Go.Fw Go.RowKit
set_option linter.unusedVariables false
set_option linter.unusedSimpArgs false
set_option maxRecDepth 100000
set_option maxHeartbeats 16000000
set_option synthInstance.maxHeartbeats 200000
set_option synthInstance.maxSize 100000
attribute [local irreducible] WPA WLA WDA WDQ WDE QQ seqQ blockQ loopQ fnQ OpP OpT Tr TrP SL SLd OwnS LitS Bk BkE Ob
theorem u8_nat {m : Nat} (h : m < 256) : ((UInt8.ofNat m).toNat : Int) = m := by rw [UInt8.toNat_ofNat', Nat.mod_eq_of_lt h]
theorem bytesK_1 {m : Nat} (h : m < 256) : bytesK ⟨#[UInt8.ofNat m]⟩ = [toK .u8 (m : Int)] := by
  show [kb (UInt8.ofNat m)] = _
  unfold kb
  rw [u8_nat h]; rfl
def decL (v : Nat) : ByteArray := if h : v < 10 then ⟨#[UInt8.ofNat (48 + v)]⟩ else decL (v / 10) ++ ⟨#[UInt8.ofNat (48 + v % 10)]⟩
termination_by v
decreasing_by omega
theorem dec_lt {v : Nat} (h : v < 10) : decL v = ⟨#[UInt8.ofNat (48 + v)]⟩ := by rw [decL, dif_pos h]
theorem dec_ge {v : Nat} (h : ¬ v < 10) : decL v = decL (v / 10) ++ ⟨#[UInt8.ofNat (48 + v % 10)]⟩ := by rw [decL, dif_neg h]
theorem one_sz (b : UInt8) : (⟨#[b]⟩ : ByteArray).size = 1 := rfl
theorem dec_size : ∀ (f : Nat) {v : Nat}, v < 10 ^ (f + 1) → (decL v).size ≤ f + 1
  | 0, v, h => by rw [dec_lt (by simpa using h), one_sz]; omega
  | f + 1, v, h => by
    by_cases h1 : v < 10
    · rw [dec_lt h1, one_sz]; omega
    · rw [dec_ge h1, ByteArray.size_append, one_sz]
      have := dec_size f (v := v / 10) (by rw [Nat.pow_succ] at h; exact Nat.div_lt_of_lt_mul (by rw [Nat.mul_comm]; exact h))
      omega
theorem dec_20 {v : Nat} (h : v ≤ 18446744073709551615) : (decL v).size ≤ 20 := dec_size 19 (Nat.lt_of_le_of_lt h (by decide))
theorem digits_tr {w0 : World} : ∀ (f : Nat) {n : Nat} {I : Foot} {L : List HP}, n < 10 ^ (f + 1) → n ≤ 18446744073709551615 → Tr Tryd.prog 12 #[.int .u64 (n : Int)] (SL w0 I L) (fun _ : Unit => .string (decL n)) (fun _ => SL w0 I L) := by
  intro f
  induction f with
  | zero =>
    intro n I L h hn
    have h1 : n < 10 := by simpa using h
    refine Tr.intro Tryd.func12 rfl Tryd.ntmps12 rfl ?_
    have h1' : (n : Int) < 10 := by omega
    obtain ⟨m, hm⟩ : ∃ m : Nat, m = 48 + n := ⟨_, rfl⟩
    have e1 : 48 + (n : Int) = (m : Int) := by omega
    have hb : (0 : Int) ≤ m ∧ (m : Int) ≤ 255 := by omega
    have hl : [toK .u8 (m : Int)] = bytesK ⟨#[UInt8.ofNat m]⟩ := (bytesK_1 (by omega)).symm
    rw [dec_lt h1, ← hm]
    repeat' (first | ((rw [e1])) | ((rw [hl])) | ((first | refine WLA.m rfl rfl ?_ ?_ | refine WLA.st rfl ?_ ?_ | refine WLA.x rfl rfl ?_ (fun x => ?_) | refine WLA.x0 rfl ?_ (fun x => ?_)); first | exact trivial | exact rfl | assumption | omega | (refine ⟨?_, ?_⟩ <;> omega) | (simp only [Room, lenS]; omega) | decide | skip) | (refine Stp.go ?_) | (refine WPA.ifT ?_) | (refine WPA.ifF ?_) | ((first | refine WPA.dec ?_); first | refine .inl ⟨by first | assumption | omega | with_reducible rfl | (refine fun h => h ?_; first | assumption | with_reducible rfl) | (simp only [lenS] <;> omega) | decide, ?_⟩ | refine .inr ⟨by first | assumption | omega | with_reducible rfl | (refine fun h => h ?_; first | assumption | with_reducible rfl) | (simp only [lenS] <;> omega) | decide, ?_⟩) | ((first | refine WPA.ifBt ?_ ?_ | refine WPA.ifBnf ?_ ?_); assumption) | ((first | refine WPA.ifBnt ?_ ?_ | refine WPA.ifBf ?_ ?_); assumption) | ((first | refine WPA.ifs ?_ ?_ | refine WPA.ifB ?_ ?_) <;> intro hc))
    exact QQ.end_ rfl () rfl fun w h => h.to
  | succ f ih =>
    intro n I L h hn
    refine Tr.intro Tryd.func12 rfl Tryd.ntmps12 rfl ?_
    by_cases h1 : n < 10
    · have h1' : (n : Int) < 10 := by omega
      obtain ⟨m, hm⟩ : ∃ m : Nat, m = 48 + n := ⟨_, rfl⟩
      have e1 : 48 + (n : Int) = (m : Int) := by omega
      have hb : (0 : Int) ≤ m ∧ (m : Int) ≤ 255 := by omega
      have hl : [toK .u8 (m : Int)] = bytesK ⟨#[UInt8.ofNat m]⟩ := (bytesK_1 (by omega)).symm
      rw [dec_lt h1, ← hm]
      clear ih
      repeat' (first | ((rw [e1])) | ((rw [hl])) | ((first | refine WLA.m rfl rfl ?_ ?_ | refine WLA.st rfl ?_ ?_ | refine WLA.x rfl rfl ?_ (fun x => ?_) | refine WLA.x0 rfl ?_ (fun x => ?_)); first | exact trivial | exact rfl | assumption | omega | (refine ⟨?_, ?_⟩ <;> omega) | (simp only [Room, lenS]; omega) | decide | skip) | (refine Stp.go ?_) | (refine WPA.ifT ?_) | (refine WPA.ifF ?_) | ((first | refine WPA.dec ?_); first | refine .inl ⟨by first | assumption | omega | with_reducible rfl | (refine fun h => h ?_; first | assumption | with_reducible rfl) | (simp only [lenS] <;> omega) | decide, ?_⟩ | refine .inr ⟨by first | assumption | omega | with_reducible rfl | (refine fun h => h ?_; first | assumption | with_reducible rfl) | (simp only [lenS] <;> omega) | decide, ?_⟩) | ((first | refine WPA.ifBt ?_ ?_ | refine WPA.ifBnf ?_ ?_); assumption) | ((first | refine WPA.ifBnt ?_ ?_ | refine WPA.ifBf ?_ ?_); assumption) | ((first | refine WPA.ifs ?_ ?_ | refine WPA.ifB ?_ ?_) <;> intro hc))
      exact QQ.end_ rfl () rfl fun w h => h.to
    · have h1' : ¬ (n : Int) < 10 := by omega
      obtain ⟨m, hm⟩ : ∃ m : Nat, m = 48 + n % 10 := ⟨_, rfl⟩
      obtain ⟨q, hq0⟩ : ∃ q : Nat, q = n / 10 := ⟨_, rfl⟩
      obtain ⟨r, hr0⟩ : ∃ r : Nat, r = n % 10 := ⟨_, rfl⟩
      have ih3 := fun {I : Foot} {L : List HP} => ih (n := n / 10) (I := I) (L := L) (by rw [Nat.pow_succ] at h; exact Nat.div_lt_of_lt_mul (by rw [Nat.mul_comm]; exact h)) (by omega)
      have hge := dec_ge h1
      rw [← hm, ← hq0] at hge
      rw [← hq0] at ih3
      rw [hge]
      have e0 : (n : Int) % 10 = (r : Int) := by omega
      have e1 : 48 + (r : Int) = (m : Int) := by omega
      have e2 : (n : Int) / 10 = (q : Int) := by omega
      have hl : [toK .u8 (m : Int)] = bytesK ⟨#[UInt8.ofNat m]⟩ := (bytesK_1 (by omega)).symm
      have hvs := dec_20 (v := q) (by omega)
      have hsz : (decL q).size + (⟨#[UInt8.ofNat m]⟩ : ByteArray).size ≤ 9223372036854775807 := by rw [one_sz]; omega
      generalize (⟨#[UInt8.ofNat m]⟩ : ByteArray) = cb at hl hsz
      have hb : (0 : Int) ≤ m ∧ (m : Int) ≤ 255 := by omega
      have hq : ((0 : Int) ≤ n ∧ (n : Int) ≤ 18446744073709551615) ∧ (0 : Int) < 10 := by omega
      clear ih hge
      repeat' (first | ((rw [e0])) | ((rw [e1])) | ((rw [e2])) | ((rw [hl])) | ((first | refine WLA.m rfl rfl ?_ ?_ | refine WDQ.m rfl rfl ?_ ?_ | refine WLA.st rfl ?_ ?_ | refine WLA.x rfl rfl ?_ (fun x => ?_) | refine WLA.x0 rfl ?_ (fun x => ?_)); first | exact trivial | exact rfl | assumption | omega | (refine ⟨?_, ?_⟩ <;> omega) | (simp only [Room, lenS]; omega) | decide | skip) | (refine Stp.go ?_) | (guard_target =~ WLA _ _ _ _ _ (⟨_, .call ⟨.value (.func 12), _, _⟩, _, _, _, _⟩ :: _) _ _; refine WLA.call rfl rfl (ih3) ?_; rintro ⟨⟩) | (refine WPA.ifT ?_) | (refine WPA.ifF ?_) | ((first | refine WPA.dec ?_); first | refine .inl ⟨by first | assumption | omega | with_reducible rfl | (refine fun h => h ?_; first | assumption | with_reducible rfl) | (simp only [lenS] <;> omega) | decide, ?_⟩ | refine .inr ⟨by first | assumption | omega | with_reducible rfl | (refine fun h => h ?_; first | assumption | with_reducible rfl) | (simp only [lenS] <;> omega) | decide, ?_⟩) | ((first | refine WPA.ifBt ?_ ?_ | refine WPA.ifBnf ?_ ?_); assumption) | ((first | refine WPA.ifBnt ?_ ?_ | refine WPA.ifBf ?_ ?_); assumption) | ((first | refine WPA.ifs ?_ ?_ | refine WPA.ifB ?_ ?_) <;> intro hc) | (guard_target =~ WPA _ _ _ (.region 3 _ true) _ _ _; refine WPA.drawT 9 (.q 0 (.q 1 (.q 3 (.q 4 (.q 5 (.q 6 (.b false 2 (.e 7 (.q 8 .fin)) false 7 (.q 8 (.e 2 .fin))))))))) mixed ?_ ?_; kernel_rfl) | (refine WDA.finish (tl := [⟨_, _, _, _, _, _⟩, ⟨_, _, _, _, _, _⟩]) rfl ?_) | (refine WDQ.see rfl ?_) | (first | (refine WDA.two rfl rfl ?_ ?_) | (refine WDA.twoL rfl rfl ?_ ?_) | (refine WDA.twoR rfl rfl ?_ ?_) | (refine WDA.twoW rfl rfl ?_ ?_)) | (refine WDE.see rfl ?_) | (refine WDE.alloc rfl rfl (fun w h => h) (fun x => ?_)) | (refine WDE.stE rfl ?_) | (refine WDE.x rfl rfl ?_ ?_ (fun x => ?_); rotate_left 1; (intro x w h; first | exact h | exact Ent.drop1.sl h | exact SL.unI h | exact SL.to h); rotate_left 1; first | exact trivial | exact rfl | assumption | omega | (refine ⟨?_, ?_⟩ <;> omega) | (simp only [Room, lenS]; omega) | decide | skip) | (guard_target =~ WDE _ _ _ _ _ _ _ ⟨_, .call ⟨.value (.func 12), _, _⟩, _, _, _, _⟩ _ _ _; refine WDE.call rfl rfl (ih3) ?_ ?_; (intro x w h; first | exact h | exact Ent.drop1.sl h | exact SL.unI h | exact SL.to h); rintro ⟨⟩) | (guard_target =~ WDW _ _ _ _ _ _ _ ⟨_, .call ⟨.value (.func 12), _, _⟩, _, _, _, _⟩ _ _ _; refine WDW.call rfl rfl (ih3) ?_; rintro ⟨⟩))
      all_goals exact QQ.end_ rfl () rfl fun w h => h.to
theorem bt_apL {a b : ByteArray} {j : Nat} (h : j < a.size) : bt (a ++ b) (j : Int) = bt a (j : Int) := by
  have h1 : j < (a ++ b).size := by rw [ByteArray.size_append]; omega
  unfold bt
  rw [Int.toNat_natCast, dif_pos h1, dif_pos h]
  simp [ByteArray.getElem_eq_getElem_data, ByteArray.data_append, Array.getElem_append_left, h]
theorem bt_apR {a b : ByteArray} {j : Nat} (h : j < b.size) : bt (a ++ b) ((a.size + j : Nat) : Int) = bt b (j : Int) := by
  have h1 : a.size + j < (a ++ b).size := by rw [ByteArray.size_append]; omega
  unfold bt
  rw [Int.toNat_natCast, Int.toNat_natCast, dif_pos h1, dif_pos h]
  have : (a ++ b).data = a.data ++ b.data := ByteArray.data_append
  simp only [ByteArray.getElem_eq_getElem_data, this]
  congr 2
  rw [Array.getElem_append_right (show a.data.size ≤ a.size + j from Nat.le_add_right _ _)]
  congr 1
  show a.data.size + j - a.data.size = j
  omega
theorem bt_one {m : Nat} (h : m < 256) : bt ⟨#[UInt8.ofNat m]⟩ 0 = m := by
  have : bt ⟨#[UInt8.ofNat m]⟩ 0 = ((UInt8.ofNat m).toNat : Int) := rfl
  rw [this, u8_nat h]
theorem valD_app {a b : ByteArray} : ∀ n : Nat, n ≤ a.size → valD (a ++ b) n = valD a n
  | 0, _ => rfl
  | n + 1, h => by rw [valD, valD, valD_app n (by omega), bt_apL (by omega)]
theorem dec_law : ∀ (f : Nat) {v : Nat}, v < 10 ^ (f + 1) → 0 < (decL v).size ∧ DigP (decL v) (decL v).size ∧ valD (decL v) (decL v).size = v ∧ (bt (decL v) 0 = 48 → decL v = zrB)
  | 0, v, h => by
    have h1 : v < 10 := by simpa using h
    rw [dec_lt h1, one_sz]
    have e := bt_one (m := 48 + v) (by omega)
    refine ⟨by omega, fun j hj => ?_, ?_, fun h0 => ?_⟩
    · have : j = 0 := by omega
      subst this
      show 48 ≤ bt _ 0 ∧ bt _ 0 ≤ 57
      rw [e]; omega
    · show 10 * (0 : Int) + (bt _ 0 - 48) = _
      rw [e]; omega
    · rw [e] at h0
      have : v = 0 := by omega
      subst this; rfl
  | f + 1, v, h => by
    by_cases h1 : v < 10
    · exact dec_law f (Nat.lt_of_lt_of_le h1 (by rw [Nat.pow_succ]; have := Nat.pow_pos (n := f) (show 0 < 10 by decide); omega))
    · obtain ⟨k1, k2, k3, k4⟩ := dec_law f (v := v / 10) (by rw [Nat.pow_succ] at h; exact Nat.div_lt_of_lt_mul (by rw [Nat.mul_comm]; exact h))
      rw [dec_ge h1]
      have e := bt_one (m := 48 + v % 10) (by omega)
      generalize hb : (⟨#[UInt8.ofNat (48 + v % 10)]⟩ : ByteArray) = b at e
      have hbs : b.size = 1 := by rw [← hb]; rfl
      generalize decL (v / 10) = a at k1 k2 k3 k4
      have hR := bt_apR (a := a) (b := b) (j := 0) (by omega)
      rw [Nat.add_zero] at hR
      have e' : bt b ((0 : Nat) : Int) = (48 + v % 10 : Nat) := e
      rw [e'] at hR
      rw [ByteArray.size_append, hbs]
      refine ⟨by omega, fun j hj => ?_, ?_, fun h0 => ?_⟩
      · by_cases hj2 : j < a.size
        · rw [bt_apL hj2]; exact k2 j hj2
        · have : j = a.size := by omega
          subst this
          rw [hR]; omega
      · rw [valD, valD_app _ (Nat.le_refl _), k3, hR]; omega
      · have h00 := bt_apL (a := a) (b := b) (j := 0) k1
        have h0' : bt (a ++ b) ((0 : Nat) : Int) = 48 := h0
        rw [h00] at h0'
        have h5 := k4 h0'
        have : valD a a.size = 0 := by rw [h5]; rfl
        omega
def intS (v : Int) : ByteArray := if v < 0 then mnB ++ decL (-v).toNat else decL v.toNat
section
variable {L L' : List HP} {w0 : World} {I : Foot}
theorem Int_tr {v : Int} (hv : -9223372036854775808 ≤ v ∧ v ≤ 9223372036854775807) : Tr Tryd.prog 7 #[.int .i64 v] (SL w0 I L) (fun _ : Unit => .string (intS v)) (fun _ => SL w0 I L) := by
  refine Tr.intro Tryd.func7 rfl Tryd.ntmps7 rfl ?_
  unfold intS
  by_cases h : v < 0
  · obtain ⟨n, hn⟩ : ∃ n : Nat, (n : Int) = -v := ⟨(-v).toNat, by omega⟩
    obtain ⟨m, hm⟩ : ∃ m : Nat, (m : Int) = 0 - (v + 1) := ⟨(0 - (v + 1)).toNat, by omega⟩
    have hnm : (m : Int) + 1 = n := by omega
    have hvn : (-v).toNat = n := by omega
    rw [if_pos h, hvn]
    have hd := fun {L : List HP} => digits_tr (w0 := w0) 19 (n := n) (I := I) (L := L) (Nat.lt_of_le_of_lt (show n ≤ 18446744073709551615 by omega) (by decide)) (by omega)
    have hsz := dec_20 (v := n) (by omega)
    have hb1 : -9223372036854775808 ≤ v + 1 ∧ v + 1 ≤ 9223372036854775807 := by omega
    have hb2 : -9223372036854775808 ≤ 0 - (v + 1) ∧ 0 - (v + 1) ≤ 9223372036854775807 := by omega
    have hb3 : (0 : Int) ≤ m ∧ (m : Int) ≤ 18446744073709551615 := by omega
    have hb4 : (0 : Int) ≤ (m : Int) + 1 ∧ (m : Int) + 1 ≤ 18446744073709551615 := by omega
    have hsz2 : (⟨#[45]⟩ : ByteArray).size + (decL n).size ≤ 9223372036854775807 := by rw [one_sz]; omega
    repeat' (first | ((rw [← hm])) | ((rw [hnm])) | ((first | refine WLA.m rfl rfl ?_ ?_ | refine WLA.st rfl ?_ ?_ | refine WLA.x rfl rfl ?_ (fun x => ?_) | refine WLA.x0 rfl ?_ (fun x => ?_)); first | exact trivial | exact rfl | assumption | omega | (refine ⟨?_, ?_⟩ <;> omega) | (simp only [Room, lenS]; omega) | decide | skip) | (refine Stp.go ?_) | (guard_target =~ WLA _ _ _ _ _ (⟨_, .call ⟨.value (.func 12), _, _⟩, _, _, _, _⟩ :: _) _ _; refine WLA.call rfl rfl (hd) ?_; rintro ⟨⟩) | (refine WPA.ifT ?_) | (refine WPA.ifF ?_) | ((first | refine WPA.dec ?_); first | refine .inl ⟨by first | assumption | omega | with_reducible rfl | (refine fun h => h ?_; first | assumption | with_reducible rfl) | (simp only [lenS] <;> omega) | decide, ?_⟩ | refine .inr ⟨by first | assumption | omega | with_reducible rfl | (refine fun h => h ?_; first | assumption | with_reducible rfl) | (simp only [lenS] <;> omega) | decide, ?_⟩) | ((first | refine WPA.ifBt ?_ ?_ | refine WPA.ifBnf ?_ ?_); assumption) | ((first | refine WPA.ifBnt ?_ ?_ | refine WPA.ifBf ?_ ?_); assumption) | ((first | refine WPA.ifs ?_ ?_ | refine WPA.ifB ?_ ?_) <;> intro hc))
    exact QQ.end_ rfl () rfl fun w h => h.to
  · obtain ⟨n, hn⟩ : ∃ n : Nat, (n : Int) = v := ⟨v.toNat, by omega⟩
    subst hn
    rw [if_neg h, Int.toNat_natCast]
    have hd := fun {L : List HP} => digits_tr (w0 := w0) 19 (n := n) (I := I) (L := L) (Nat.lt_of_le_of_lt (show n ≤ 18446744073709551615 by omega) (by decide)) (by omega)
    have hb3 : (0 : Int) ≤ n ∧ (n : Int) ≤ 18446744073709551615 := by omega
    repeat' (first | ((first | refine WLA.m rfl rfl ?_ ?_ | refine WLA.st rfl ?_ ?_ | refine WLA.x rfl rfl ?_ (fun x => ?_) | refine WLA.x0 rfl ?_ (fun x => ?_)); first | exact trivial | exact rfl | assumption | omega | (refine ⟨?_, ?_⟩ <;> omega) | (simp only [Room, lenS]; omega) | decide | skip) | (refine Stp.go ?_) | (guard_target =~ WLA _ _ _ _ _ (⟨_, .call ⟨.value (.func 12), _, _⟩, _, _, _, _⟩ :: _) _ _; refine WLA.call rfl rfl (hd) ?_; rintro ⟨⟩) | (refine WPA.ifT ?_) | (refine WPA.ifF ?_) | ((first | refine WPA.dec ?_); first | refine .inl ⟨by first | assumption | omega | with_reducible rfl | (refine fun h => h ?_; first | assumption | with_reducible rfl) | (simp only [lenS] <;> omega) | decide, ?_⟩ | refine .inr ⟨by first | assumption | omega | with_reducible rfl | (refine fun h => h ?_; first | assumption | with_reducible rfl) | (simp only [lenS] <;> omega) | decide, ?_⟩) | ((first | refine WPA.ifBt ?_ ?_ | refine WPA.ifBnf ?_ ?_); assumption) | ((first | refine WPA.ifBnt ?_ ?_ | refine WPA.ifBf ?_ ?_); assumption) | ((first | refine WPA.ifs ?_ ?_ | refine WPA.ifB ?_ ?_) <;> intro hc))
    exact QQ.end_ rfl () rfl fun w h => h.to
end
theorem ext_right (a b : ByteArray) : (a ++ b).extract a.size (a ++ b).size = b := by
  refine ext_same (by rw [ByteArray.size_extract, ByteArray.size_append]; omega) fun j hj => ?_
  rw [ByteArray.size_extract, ByteArray.size_append] at hj
  rw [ByteArray.size_append, bt_exA (by rw [ByteArray.size_append]; omega) (by omega), bt_apR (by omega)]
theorem int_num {v : Int} (hv : -999999999999999999 ≤ v ∧ v ≤ 999999999999999999) : NumOk (intS v) ∧ numV (intS v) = v := by
  have key : ∀ n : Nat, n ≤ 999999999999999999 → 0 < (decL n).size ∧ (decL n).size ≤ 18 ∧ DigP (decL n) (decL n).size ∧ valD (decL n) (decL n).size = n ∧ (bt (decL n) 0 = 48 → decL n = zrB) := fun n hn => by
    have hlt : n < 10 ^ (17 + 1) := Nat.lt_of_le_of_lt hn (by decide)
    obtain ⟨k1, k2, k3, k4⟩ := dec_law 17 hlt
    exact ⟨k1, dec_size 17 hlt, k2, k3, k4⟩
  have ne : ∀ {d : ByteArray}, 0 < d.size → d ≠ ⟨#[]⟩ := fun h e => by rw [e] at h; exact absurd h (by decide)
  unfold intS
  by_cases h : v < 0
  · rw [if_pos h]
    obtain ⟨n, hn⟩ : ∃ n : Nat, (n : Int) = -v := ⟨(-v).toNat, by omega⟩
    have hvn : (-v).toNat = n := by omega
    rw [hvn]
    obtain ⟨k1, k2, k3, k4, k5⟩ := key n (by omega)
    have hz : bt (decL n) 0 ≠ 48 := fun e => by
      have h5 := k5 e
      rw [h5] at k4
      have : valD zrB zrB.size = 0 := rfl
      omega
    generalize decL n = a at k1 k2 k3 k4 k5 hz
    have hp : hasP (mnB ++ a) mnB := by
      refine hasP_mn.2 ⟨by rw [ByteArray.size_append]; omega, ?_⟩
      have := bt_apL (a := mnB) (b := a) (j := 0) (by decide)
      have e : bt mnB ((0 : Nat) : Int) = 45 := by decide
      rw [e] at this; exact this
    have hd : digS (mnB ++ a) = a := by unfold digS cutP; rw [if_pos hp, ext_right]
    have hok : NumOk (mnB ++ a) := by
      unfold NumOk; rw [hd]
      exact ⟨⟨ne k1, k2⟩, fun e => absurd e hz, k3⟩
    refine ⟨hok, ?_⟩
    rw [(num_yes hok).1, if_pos hp, hd, k4]; omega
  · rw [if_neg h]
    obtain ⟨n, hn⟩ : ∃ n : Nat, (n : Int) = v := ⟨v.toNat, by omega⟩
    subst hn
    rw [Int.toNat_natCast]
    obtain ⟨k1, k2, k3, k4, k5⟩ := key n (by omega)
    generalize decL n = a at k1 k2 k3 k4 k5
    have hp : ¬ hasP a mnB := fun e => by have := (hasP_mn.1 e).2; have := k3 0 k1; have e0 : bt a ((0 : Nat) : Int) = bt a 0 := rfl; omega
    have hd : digS a = a := if_neg hp
    have hok : NumOk a := by
      unfold NumOk; rw [hd]
      exact ⟨⟨ne k1, k2⟩, k5, k3⟩
    exact ⟨hok, by rw [(num_yes hok).1, if_neg hp, hd, k4]⟩
end Go.Proofs.YthkhneimfjaohaaDoor
