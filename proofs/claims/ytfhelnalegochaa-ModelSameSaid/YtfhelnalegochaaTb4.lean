/- Tables of texts: Put, Find, Len, Text. Conditions: none. -/
import Derived.Test.YtfhelnalegochaaTb3
namespace Go.Proofs.Ytfhelnalegochaa
open Go Go.Fw Go.RowKit
set_option linter.unusedVariables false
set_option linter.unusedSimpArgs false
set_option maxRecDepth 100000
set_option maxHeartbeats 16000000
set_option synthInstance.maxHeartbeats 200000
set_option synthInstance.maxSize 100000
attribute [local irreducible] WPA WLA WDA WDQ WDE QQ seqQ blockQ loopQ fnQ OpP OpT Tr TrP SL SLd OwnS LitS Bk BkE Ob
section
variable {L L' : List HP} {w0 : World} {I : Foot} {T : Nat} {texts : List ByteArray}
theorem TLen_tr [h : FindK L TblH T texts L'] : TrP Try.prog 93 #[.pointer (some ⟨T, 0, none⟩)] (SL w0 I L) (.int .i64 texts.length) := by
  refine TrP.at h.out (TrP.opn fun y => TrP.ofD fun u => ?_)
  refine Tr.intro Try.func93 rfl Try.ntmps93 rfl ?_
  repeat' (first | ((first | refine WLA.m rfl rfl ?_ ?_ | refine WLA.st rfl ?_ ?_ | refine WLA.x rfl rfl ?_ (fun x => ?_) | refine WLA.x0 rfl ?_ (fun x => ?_)); first | exact trivial | exact rfl | assumption | omega | (refine ⟨?_, ?_⟩ <;> omega) | (simp only [Room, List.length_set, List.length_append, List.length_cons, List.length_nil, List.length_replicate]; omega) | decide | skip) | (refine Stp.go ?_) | (refine WPA.ifT ?_) | (refine WPA.ifF ?_) | ((first | refine WPA.dec ?_); first | refine .inl ⟨by first | assumption | omega | with_reducible rfl | (refine fun h => h ?_; assumption) | (simp only [List.length_append, List.length_cons, List.length_nil, List.length_set] <;> omega) | decide, ?_⟩ | refine .inr ⟨by first | assumption | omega | with_reducible rfl | (refine fun h => h ?_; assumption) | (simp only [List.length_append, List.length_cons, List.length_nil, List.length_set] <;> omega) | decide, ?_⟩) | ((first | refine WPA.ifBt ?_ ?_ | refine WPA.ifBnf ?_ ?_); assumption) | ((first | refine WPA.ifBnt ?_ ?_ | refine WPA.ifBf ?_ ?_); assumption) | ((first | refine WPA.ifs ?_ ?_ | refine WPA.ifB ?_ ?_) <;> intro hc))
  exact QQ.end_ rfl () rfl fun w h => h
theorem TText_in {z : Int} [h : FindK L TblH T texts L'] (hz : 0 ≤ z ∧ z < texts.length) : TrP Try.prog 96 #[.pointer (some ⟨T, 0, none⟩), .int .i64 z] (SL w0 I L) (.tuple #[.string (at_ texts z), .bool true]) := by
  refine TrP.at h.out (TrP.opn fun y => TrP.ofD fun u => ?_)
  refine Tr.intro Try.func96 rfl Try.ntmps96 rfl ?_
  have h1 : ¬ z < 0 := by omega
  have h2 : ¬ (texts.length : Int) ≤ z := by omega
  repeat' (first | ((first | refine WLA.m rfl rfl ?_ ?_ | refine WLA.st rfl ?_ ?_ | refine WLA.x rfl rfl ?_ (fun x => ?_) | refine WLA.x0 rfl ?_ (fun x => ?_)); first | exact trivial | exact rfl | assumption | omega | (refine ⟨?_, ?_⟩ <;> omega) | (simp only [Room, List.length_set, List.length_append, List.length_cons, List.length_nil, List.length_replicate]; omega) | decide | skip) | (refine Stp.go ?_) | (refine WPA.ifT ?_) | (refine WPA.ifF ?_) | (refine WLA.no rfl rfl ?_) | ((first | refine WPA.dec ?_ | ((fail_if_success (guard_target =~ WLA _ _ _ _ _ _ (put1 _ _ (.bool true)) _)); (fail_if_success (guard_target =~ WLA _ _ _ _ _ _ (put1 _ _ (.bool false)) _)); refine WLA.dec rfl rfl ?_) | refine WLA.pk ?_); first | refine .inl ⟨by first | assumption | omega | with_reducible rfl | (refine fun h => h ?_; assumption) | (simp only [List.length_append, List.length_cons, List.length_nil, List.length_set] <;> omega) | decide, ?_⟩ | refine .inr ⟨by first | assumption | omega | with_reducible rfl | (refine fun h => h ?_; assumption) | (simp only [List.length_append, List.length_cons, List.length_nil, List.length_set] <;> omega) | decide, ?_⟩) | ((first | refine WPA.ifBt ?_ ?_ | refine WPA.ifBnf ?_ ?_); assumption) | ((first | refine WPA.ifBnt ?_ ?_ | refine WPA.ifBf ?_ ?_); assumption) | ((first | refine WPA.ifs ?_ ?_ | refine WPA.ifB ?_ ?_) <;> intro hc) | ((fail_if_success (guard_target =~ WLA _ _ _ _ _ _ (put1 _ _ (.bool true)) _)); (fail_if_success (guard_target =~ WLA _ _ _ _ _ _ (put1 _ _ (.bool false)) _)); (first | refine WLA.both rfl rfl ?_ ?_ | refine WLA.bothB rfl rfl ?_ ?_) <;> intro hg))
  exact QQ.end_ rfl () rfl fun w h => h
theorem TText_out {z : Int} [h : FindK L TblH T texts L'] (hz : z < 0 ∨ texts.length ≤ z) : TrP Try.prog 96 #[.pointer (some ⟨T, 0, none⟩), .int .i64 z] (SL w0 I L) (.tuple #[.string ⟨#[]⟩, .bool false]) := by
  refine TrP.at h.out (TrP.opn fun y => TrP.ofD fun u => ?_)
  refine Tr.intro Try.func96 rfl Try.ntmps96 rfl ?_
  by_cases h1 : z < 0
  · skip
    repeat' (first | ((first | refine WLA.m rfl rfl ?_ ?_ | refine WLA.st rfl ?_ ?_ | refine WLA.x rfl rfl ?_ (fun x => ?_) | refine WLA.x0 rfl ?_ (fun x => ?_)); first | exact trivial | exact rfl | assumption | omega | (refine ⟨?_, ?_⟩ <;> omega) | (simp only [Room, List.length_set, List.length_append, List.length_cons, List.length_nil, List.length_replicate]; omega) | decide | skip) | (refine Stp.go ?_) | (refine WPA.ifT ?_) | (refine WPA.ifF ?_) | (refine WLA.no rfl rfl ?_) | ((first | refine WPA.dec ?_ | ((fail_if_success (guard_target =~ WLA _ _ _ _ _ _ (put1 _ _ (.bool true)) _)); (fail_if_success (guard_target =~ WLA _ _ _ _ _ _ (put1 _ _ (.bool false)) _)); refine WLA.dec rfl rfl ?_) | refine WLA.pk ?_); first | refine .inl ⟨by first | assumption | omega | with_reducible rfl | (refine fun h => h ?_; assumption) | (simp only [List.length_append, List.length_cons, List.length_nil, List.length_set] <;> omega) | decide, ?_⟩ | refine .inr ⟨by first | assumption | omega | with_reducible rfl | (refine fun h => h ?_; assumption) | (simp only [List.length_append, List.length_cons, List.length_nil, List.length_set] <;> omega) | decide, ?_⟩) | ((first | refine WPA.ifBt ?_ ?_ | refine WPA.ifBnf ?_ ?_); assumption) | ((first | refine WPA.ifBnt ?_ ?_ | refine WPA.ifBf ?_ ?_); assumption) | ((first | refine WPA.ifs ?_ ?_ | refine WPA.ifB ?_ ?_) <;> intro hc) | ((fail_if_success (guard_target =~ WLA _ _ _ _ _ _ (put1 _ _ (.bool true)) _)); (fail_if_success (guard_target =~ WLA _ _ _ _ _ _ (put1 _ _ (.bool false)) _)); (first | refine WLA.both rfl rfl ?_ ?_ | refine WLA.bothB rfl rfl ?_ ?_) <;> intro hg))
    exact QQ.end_ rfl () rfl fun w h => h
  · have h2 : (texts.length : Int) ≤ z := by omega
    repeat' (first | ((first | refine WLA.m rfl rfl ?_ ?_ | refine WLA.st rfl ?_ ?_ | refine WLA.x rfl rfl ?_ (fun x => ?_) | refine WLA.x0 rfl ?_ (fun x => ?_)); first | exact trivial | exact rfl | assumption | omega | (refine ⟨?_, ?_⟩ <;> omega) | (simp only [Room, List.length_set, List.length_append, List.length_cons, List.length_nil, List.length_replicate]; omega) | decide | skip) | (refine Stp.go ?_) | (refine WPA.ifT ?_) | (refine WPA.ifF ?_) | (refine WLA.no rfl rfl ?_) | ((first | refine WPA.dec ?_ | ((fail_if_success (guard_target =~ WLA _ _ _ _ _ _ (put1 _ _ (.bool true)) _)); (fail_if_success (guard_target =~ WLA _ _ _ _ _ _ (put1 _ _ (.bool false)) _)); refine WLA.dec rfl rfl ?_) | refine WLA.pk ?_); first | refine .inl ⟨by first | assumption | omega | with_reducible rfl | (refine fun h => h ?_; assumption) | (simp only [List.length_append, List.length_cons, List.length_nil, List.length_set] <;> omega) | decide, ?_⟩ | refine .inr ⟨by first | assumption | omega | with_reducible rfl | (refine fun h => h ?_; assumption) | (simp only [List.length_append, List.length_cons, List.length_nil, List.length_set] <;> omega) | decide, ?_⟩) | ((first | refine WPA.ifBt ?_ ?_ | refine WPA.ifBnf ?_ ?_); assumption) | ((first | refine WPA.ifBnt ?_ ?_ | refine WPA.ifBf ?_ ?_); assumption) | ((first | refine WPA.ifs ?_ ?_ | refine WPA.ifB ?_ ?_) <;> intro hc) | ((fail_if_success (guard_target =~ WLA _ _ _ _ _ _ (put1 _ _ (.bool true)) _)); (fail_if_success (guard_target =~ WLA _ _ _ _ _ _ (put1 _ _ (.bool false)) _)); (first | refine WLA.both rfl rfl ?_ ?_ | refine WLA.bothB rfl rfl ?_ ?_) <;> intro hg))
    exact QQ.end_ rfl () rfl fun w h => h
theorem TFind_tr {s : ByteArray} [h : FindK L TblH T texts L'] (hs : s.size ≤ 140737488355328) : TrP Try.prog 94 #[.pointer (some ⟨T, 0, none⟩), .string s] (SL w0 I L) (.int .i64 (findT texts s)) := by
  refine TrP.at h.out (TrP.opn ?_)
  rintro ⟨⟨vt, sa, sl, B⟩, tb⟩
  dsimp only at tb ⊢
  refine TrP.ofD fun u => Tr.intro Try.func94 rfl Try.ntmps94 rfl ?_
  obtain ⟨k, hk1, hk2⟩ := tb.pow
  obtain ⟨hp, hp2⟩ := len_of hk1 hk2 tb.few
  have hn := tb.few
  have hroom := tb.room
  have hp3 : k + 3 ≤ 40 := by omega
  have hn' : texts.length ≤ 2147483647 := by omega
  have hrng := tb.good.range
  have hl2 := i32s_len sl
  have hm8 : 8 ≤ sl.length := by rw [hk1]; have := Nat.pow_pos (n := k) (show 0 < 2 by omega); omega
  obtain ⟨f, r, hf, hr, hv⟩ : ∃ f r, placeL texts sl s f (start sl s) = some r ∧ r < sl.length ∧ sl.getD r 0 = findT texts s + 1 := by
    by_cases hs' : findT texts s < 0
    · obtain ⟨f, d, h1, h2, h3⟩ := tb.good.free (by omega) ((findT_none _ _).1 hs')
      have := findT_range texts s
      exact ⟨f, _, h1, pos_lt tb.good.some_ _ _, by rw [h2]; omega⟩
    · obtain ⟨j, hj⟩ : ∃ j : Nat, findT texts s = j := ⟨(findT texts s).toNat, by omega⟩
      obtain ⟨hjl, rfl⟩ := findT_some _ _ _ hj
      obtain ⟨f, r, hf, hr, hr2⟩ := tb.good.found hjl
      exact ⟨f, r, hf, hr, by rw [hr2, hj]⟩
  have hx := i32s_at sl r
  rw [hv] at hx
  have hfr := findT_range texts s
  have hw : -9223372036854775808 ≤ ofK (at_ (i32s sl) (r : Int)) ∧ ofK (at_ (i32s sl) (r : Int)) ≤ 9223372036854775807 := by have := hx; unfold slv at this; rw [this]; omega
  have hw2 : -9223372036854775808 ≤ ofK (at_ (i32s sl) (r : Int)) - 1 ∧ ofK (at_ (i32s sl) (r : Int)) - 1 ≤ 9223372036854775807 := by have := hx; unfold slv at this; rw [this]; omega
  repeat' (first | ((first | refine WLA.m rfl rfl ?_ ?_ | refine WDQ.m rfl rfl ?_ ?_ | refine WLA.st rfl ?_ ?_ | refine WLA.x rfl rfl ?_ (fun x => ?_) | refine WLA.x0 rfl ?_ (fun x => ?_)); first | exact trivial | exact rfl | assumption | omega | (refine ⟨?_, ?_⟩ <;> omega) | (simp only [Room, List.length_set, List.length_append, List.length_cons, List.length_nil, List.length_replicate]; omega) | decide | skip) | (refine Stp.go ?_) | (guard_target =~ WLA _ _ _ _ _ (⟨_, .call ⟨.value (.func 112), _, _⟩, _, _, _, _⟩ :: _) _ _; refine WLA.cq rfl rfl (place_tr hp hp3 hrng hn' hs hf) ?_) | (refine WPA.ifT ?_) | (refine WPA.ifF ?_) | ((first | refine WPA.dec ?_); first | refine .inl ⟨by first | assumption | omega | with_reducible rfl | (refine fun h => h ?_; assumption) | (simp only [List.length_append, List.length_cons, List.length_nil, List.length_set] <;> omega) | decide, ?_⟩ | refine .inr ⟨by first | assumption | omega | with_reducible rfl | (refine fun h => h ?_; assumption) | (simp only [List.length_append, List.length_cons, List.length_nil, List.length_set] <;> omega) | decide, ?_⟩) | ((first | refine WPA.ifBt ?_ ?_ | refine WPA.ifBnf ?_ ?_); assumption) | ((first | refine WPA.ifBnt ?_ ?_ | refine WPA.ifBf ?_ ?_); assumption) | ((first | refine WPA.ifs ?_ ?_ | refine WPA.ifB ?_ ?_) <;> intro hc) | (guard_target =~ WPA _ _ _ (.region 3 _ true) _ _ _; refine WPA.drawT 10 (.q 0 (.q 1 (.q 2 (.q 3 (.q 4 (.q 5 (.q 6 (.q 7 (.q 8 (.q 9 .fin)))))))))) mixed ?_ ?_; kernel_rfl) | (refine WDA.finish (tl := [⟨_, _, _, _, _, _⟩, ⟨_, _, _, _, _, _⟩, ⟨_, _, _, _, _, _⟩, ⟨_, _, _, _, _, _⟩, ⟨_, _, _, _, _, _⟩]) rfl ?_) | (refine WDQ.see rfl ?_) | (guard_target =~ WDQ _ _ _ _ _ _ _ ⟨_, .call ⟨.value (.func 112), _, _⟩, _, _, _, _⟩ _ _ _; refine WDQ.cq rfl rfl (place_tr hp hp3 hrng hn' hs hf) ?_))
  refine QQ.end_ rfl () ?_ fun w h => h
  have := hx
  unfold slv at this
  rw [this]
  congr 1; omega
theorem TPut_tr {s : ByteArray} [h : FindK L TblH T texts L'] (hs : s.size ≤ 140737488355328) (hfew : texts.length < 1000000000) : Tr Try.prog 79 #[.pointer (some ⟨T, 0, none⟩), .string s] (SL w0 I L) (fun _ : Unit => .tuple #[.int .i64 (findT (putT texts s) s), .bool (decide (findT texts s < 0))])
    (fun _ => SL w0 I (TblH T (putT texts s) :: L')) := by
  rw [putT_find]
  refine Tr.at h.out (Tr.opn ?_)
  rintro ⟨⟨vt, sa, sl, B⟩, tb⟩
  dsimp only at tb ⊢
  obtain ⟨k, hk1, hk2⟩ := tb.pow
  obtain ⟨hp, hp2⟩ := len_of hk1 hk2 tb.few
  have hn := tb.few
  have hroom := tb.room
  have hp3 : k + 3 ≤ 40 := by omega
  have hn' : texts.length ≤ 2147483647 := by omega
  have hrng := tb.good.range
  have hl2 := i32s_len sl
  have hm8 : 8 ≤ sl.length := by rw [hk1]; have := Nat.pow_pos (n := k) (show 0 < 2 by omega); omega
  have hm9 : sl.length ≤ 34359738368 := by
    have : 2 ^ (k + 3) ≤ 2 ^ 35 := Nat.pow_le_pow_right (by omega) hp2
    omega
  by_cases hf : findT texts s < 0
  · rw [if_pos hf, decide_eq_true hf]
    have hns := (findT_none _ _).1 hf
    have hput : putT texts s = texts ++ [s] := by unfold putT; rw [if_pos hf]
    rw [hput]
    have hsm2 : ∀ u ∈ texts ++ [s], u.size ≤ 140737488355328 := by
      intro u hu
      rcases List.mem_append.1 hu with hu | hu
      · exact tb.small u hu
      · rw [List.mem_singleton.1 hu]; exact hs
    have hlen2 : (texts ++ [s]).length = texts.length + 1 := by simp
    obtain ⟨f, d, hf1, hr2, hr3⟩ := tb.good.free (by omega) hns
    have g' := tb.good.insert hns hr2 hr3
    have hr := pos_lt tb.good.some_ (start sl s) d
    generalize pos sl.length (start sl s) d = r at hf1 hr2 g' hr
    have hx := i32s_at sl r
    have hz0 : ¬ ofK (at_ (i32s sl) (r : Int)) ≠ 0 := fun h => h (by have := hx; unfold slv at this; rw [this]; exact hr2)
    have hw : IntKind.i32.wrap ((texts.length : Int) + 1) = (texts.length : Int) + 1 := wrap_i32 (by omega)
    by_cases hgr : (sl.length : Int) < 2 * ((texts.length : Int) + 1)
    · have hgr' : ((i32s sl).length : Int) < 2 * ((texts.length : Int) + 1) := hgr
      have hpg : k + 3 ≤ 39 := by omega
      have hfg : texts.length < 2 * sl.length := by omega
      refine Tr.intro Try.func79 rfl Try.ntmps79 rfl ?_
      repeat' ((fail_if_success (guard_target =~ WPA _ _ _ (.region 9 _ _) _ _ _)); first | ((first | refine WLA.m rfl rfl ?_ ?_ | refine WDQ.m rfl rfl ?_ ?_ | refine WLA.st rfl ?_ ?_ | refine WLA.x rfl rfl ?_ (fun x => ?_) | refine WLA.x0 rfl ?_ (fun x => ?_)); first | exact trivial | exact rfl | assumption | omega | (refine ⟨?_, ?_⟩ <;> omega) | (simp only [Room, List.length_set, List.length_append, List.length_cons, List.length_nil, List.length_replicate]; omega) | decide | skip) | (refine Stp.go ?_) | (guard_target =~ WLA _ _ _ _ _ (⟨_, .call ⟨.value (.func 112), _, _⟩, _, _, _, _⟩ :: _) _ _; refine WLA.cq rfl rfl (place_tr hp hp3 hrng hn' hs hf1) ?_) | (guard_target =~ WLA _ _ _ _ _ (⟨_, .call ⟨.value (.func 113), _, _⟩, _, _, _, _⟩ :: _) _ _; first | (refine WLA.call rfl rfl (grow_tr hp hpg tb.good.nodup hfg tb.few tb.small) ?_; rintro ⟨na, s2⟩; refine WLA.pure fun hg2 => ?_; dsimp only at hg2 ⊢) | (refine WLA.call0 rfl (grow_tr hp hpg tb.good.nodup hfg tb.few tb.small) ?_; rintro ⟨na, s2⟩; refine WLA.pure fun hg2 => ?_; dsimp only at hg2 ⊢)) | (refine WPA.ifT ?_) | (refine WPA.ifF ?_) | ((first | refine WPA.dec ?_); first | refine .inl ⟨by first | assumption | omega | with_reducible rfl | (refine fun h => h ?_; assumption) | (simp only [List.length_append, List.length_cons, List.length_nil, List.length_set] <;> omega) | decide, ?_⟩ | refine .inr ⟨by first | assumption | omega | with_reducible rfl | (refine fun h => h ?_; assumption) | (simp only [List.length_append, List.length_cons, List.length_nil, List.length_set] <;> omega) | decide, ?_⟩) | ((first | refine WPA.ifBt ?_ ?_ | refine WPA.ifBnf ?_ ?_); assumption) | ((first | refine WPA.ifBnt ?_ ?_ | refine WPA.ifBf ?_ ?_); assumption) | ((first | refine WPA.ifs ?_ ?_ | refine WPA.ifB ?_ ?_) <;> intro hc) | (guard_target =~ WPA _ _ _ (.region 7 _ true) _ _ _; refine WPA.drawT 13 (.q 0 (.q 1 (.q 2 (.q 3 (.q 4 (.q 5 (.q 6 (.q 7 (.q 8 (.q 9 (.q 10 (.q 11 (.q 12 .fin))))))))))))) mixed ?_ ?_; kernel_rfl) | (guard_target =~ WPA _ _ _ (.region 8 _ true) _ _ _; refine WPA.drawT 8 (.q 0 (.q 1 (.q 2 (.q 3 (.q 4 (.q 5 (.q 6 (.q 7 .fin)))))))) mixed ?_ ?_; kernel_rfl) | (refine WDA.finish (tl := [⟨_, _, _, _, _, _⟩]) rfl ?_) | (refine WDQ.see rfl ?_) | (guard_target =~ WDQ _ _ _ _ _ _ _ ⟨_, .call ⟨.value (.func 112), _, _⟩, _, _, _, _⟩ _ _ _; refine WDQ.cq rfl rfl (place_tr hp hp3 hrng hn' hs hf1) ?_) | (guard_target =~ WDE _ _ _ _ _ _ _ ⟨_, .call ⟨.value (.func 113), _, _⟩, _, _, _, _⟩ _ _ _; refine WDE.call rfl rfl (grow_tr hp hpg tb.good.nodup hfg tb.few tb.small) ?_ ?_; (intro x w h; first | exact h | exact Ent.drop1.sl h | exact SL.unI h | exact SL.to h); rintro ⟨na, s2⟩; refine WLA.pure fun hg2 => ?_; dsimp only at hg2 ⊢) | (guard_target =~ WDW _ _ _ _ _ _ _ ⟨_, .call ⟨.value (.func 113), _, _⟩, _, _, _, _⟩ _ _ _; refine WDW.call rfl rfl (grow_tr hp hpg tb.good.nodup hfg tb.few tb.small) ?_; rintro ⟨na, s2⟩; refine WLA.pure fun hg2 => ?_; dsimp only at hg2 ⊢))
      obtain ⟨hl3, g2⟩ := hg2
      obtain ⟨f2, d2, hf2, hr4, hr5⟩ := g2.free (by omega) hns
      have g3 := g2.insert hns hr4 hr5
      have hr6 := pos_lt g2.some_ (start s2 s) d2
      generalize pos s2.length (start s2 s) d2 = r2 at hf2 hr4 g3 hr6
      have hp4 : s2.length = 2 ^ (k + 4) := by rw [hl3, hp, Nat.pow_succ 2 (k + 3)]; omega
      have hp5 : k + 4 ≤ 40 := by omega
      have hrng2 := g2.range
      have hl4 := i32s_len s2
      repeat' (first | ((first | refine WLA.m rfl rfl ?_ ?_ | refine WDQ.m rfl rfl ?_ ?_ | refine WLA.st rfl ?_ ?_ | refine WLA.x rfl rfl ?_ (fun x => ?_) | refine WLA.x0 rfl ?_ (fun x => ?_)); first | exact trivial | exact rfl | assumption | omega | (refine ⟨?_, ?_⟩ <;> omega) | (simp only [Room, List.length_set, List.length_append, List.length_cons, List.length_nil, List.length_replicate]; omega) | decide | skip) | (refine Stp.go ?_) | (guard_target =~ WLA _ _ _ _ _ (⟨_, .call ⟨.value (.func 112), _, _⟩, _, _, _, _⟩ :: _) _ _; refine WLA.cq rfl rfl (place_tr hp4 hp5 hrng2 hn' hs hf2) ?_) | (refine WPA.ifT ?_) | (refine WPA.ifF ?_) | ((first | refine WPA.dec ?_); first | refine .inl ⟨by first | assumption | omega | with_reducible rfl | (refine fun h => h ?_; assumption) | (simp only [List.length_append, List.length_cons, List.length_nil, List.length_set] <;> omega) | decide, ?_⟩ | refine .inr ⟨by first | assumption | omega | with_reducible rfl | (refine fun h => h ?_; assumption) | (simp only [List.length_append, List.length_cons, List.length_nil, List.length_set] <;> omega) | decide, ?_⟩) | ((first | refine WPA.ifBt ?_ ?_ | refine WPA.ifBnf ?_ ?_); assumption) | ((first | refine WPA.ifBnt ?_ ?_ | refine WPA.ifBf ?_ ?_); assumption) | ((first | refine WPA.ifs ?_ ?_ | refine WPA.ifB ?_ ?_) <;> intro hc) | (guard_target =~ WPA _ _ _ (.region 7 _ true) _ _ _; refine WPA.drawT 13 (.q 0 (.q 1 (.q 2 (.q 3 (.q 4 (.q 5 (.q 6 (.q 7 (.q 8 (.q 9 (.q 10 (.q 11 (.q 12 .fin))))))))))))) mixed ?_ ?_; kernel_rfl) | (guard_target =~ WPA _ _ _ (.region 8 _ true) _ _ _; refine WPA.drawT 8 (.q 0 (.q 1 (.q 2 (.q 3 (.q 4 (.q 5 (.q 6 (.q 7 .fin)))))))) mixed ?_ ?_; kernel_rfl) | (guard_target =~ WPA _ _ _ (.region 11 _ true) _ _ _; refine WPA.drawT 12 (.q 0 (.q 1 (.q 2 (.q 3 (.q 4 (.q 5 (.q 6 (.q 7 (.q 8 (.q 9 (.q 10 (.q 11 .fin)))))))))))) mixed ?_ ?_; kernel_rfl) | (refine WDA.finish (tl := [⟨_, _, _, _, _, _⟩]) rfl ?_) | (refine WDA.finish (tl := [⟨_, _, _, _, _, _⟩, ⟨_, _, _, _, _, _⟩]) rfl ?_) | (refine WDQ.see rfl ?_) | (guard_target =~ WDQ _ _ _ _ _ _ _ ⟨_, .call ⟨.value (.func 112), _, _⟩, _, _, _, _⟩ _ _ _; refine WDQ.cq rfl rfl (place_tr hp4 hp5 hrng2 hn' hs hf2) ?_))
      refine QQ.end_ rfl () (by simp) fun w h => ?_
      have e : (i32s s2).set (r2 : Int).toNat (toK .i32 ((texts ++ [s]).length : Int)) = i32s (s2.set r2 ((texts.length : Int) + 1)) := by rw [hlen2]; rfl
      rw [e] at h
      have hg : TblG (texts ++ [s]) (s2.set r2 ((texts.length : Int) + 1)) := ⟨g3, ⟨k + 1, by rw [List.length_set, hl3, hk1, Nat.pow_succ]; omega, .inr (by rw [List.length_set, hlen2]; omega)⟩, by rw [List.length_set, hlen2]; omega, by omega, hsm2⟩
      exact (TblH.fold (vt := x) (sa := na) (B := B) hg).sl h.to
    · have hgr' : ¬ ((i32s sl).length : Int) < 2 * ((texts.length : Int) + 1) := hgr
      refine Tr.intro Try.func79 rfl Try.ntmps79 rfl ?_
      repeat' (first | ((first | refine WLA.m rfl rfl ?_ ?_ | refine WDQ.m rfl rfl ?_ ?_ | refine WLA.st rfl ?_ ?_ | refine WLA.x rfl rfl ?_ (fun x => ?_) | refine WLA.x0 rfl ?_ (fun x => ?_)); first | exact trivial | exact rfl | assumption | omega | (refine ⟨?_, ?_⟩ <;> omega) | (simp only [Room, List.length_set, List.length_append, List.length_cons, List.length_nil, List.length_replicate]; omega) | decide | skip) | (refine Stp.go ?_) | (guard_target =~ WLA _ _ _ _ _ (⟨_, .call ⟨.value (.func 112), _, _⟩, _, _, _, _⟩ :: _) _ _; refine WLA.cq rfl rfl (place_tr hp hp3 hrng hn' hs hf1) ?_) | (refine WPA.ifT ?_) | (refine WPA.ifF ?_) | ((first | refine WPA.dec ?_); first | refine .inl ⟨by first | assumption | omega | with_reducible rfl | (refine fun h => h ?_; assumption) | (simp only [List.length_append, List.length_cons, List.length_nil, List.length_set] <;> omega) | decide, ?_⟩ | refine .inr ⟨by first | assumption | omega | with_reducible rfl | (refine fun h => h ?_; assumption) | (simp only [List.length_append, List.length_cons, List.length_nil, List.length_set] <;> omega) | decide, ?_⟩) | ((first | refine WPA.ifBt ?_ ?_ | refine WPA.ifBnf ?_ ?_); assumption) | ((first | refine WPA.ifBnt ?_ ?_ | refine WPA.ifBf ?_ ?_); assumption) | ((first | refine WPA.ifs ?_ ?_ | refine WPA.ifB ?_ ?_) <;> intro hc) | (guard_target =~ WPA _ _ _ (.region 7 _ true) _ _ _; refine WPA.drawT 13 (.q 0 (.q 1 (.q 2 (.q 3 (.q 4 (.q 5 (.q 6 (.q 7 (.q 8 (.q 9 (.q 10 (.q 11 (.q 12 .fin))))))))))))) mixed ?_ ?_; kernel_rfl) | (guard_target =~ WPA _ _ _ (.region 8 _ true) _ _ _; refine WPA.drawT 8 (.q 0 (.q 1 (.q 2 (.q 3 (.q 4 (.q 5 (.q 6 (.q 7 .fin)))))))) mixed ?_ ?_; kernel_rfl) | (guard_target =~ WPA _ _ _ (.region 11 _ true) _ _ _; refine WPA.drawT 12 (.q 0 (.q 1 (.q 2 (.q 3 (.q 4 (.q 5 (.q 6 (.q 7 (.q 8 (.q 9 (.q 10 (.q 11 .fin)))))))))))) mixed ?_ ?_; kernel_rfl) | (refine WDA.finish (tl := [⟨_, _, _, _, _, _⟩]) rfl ?_) | (refine WDA.finish (tl := [⟨_, _, _, _, _, _⟩, ⟨_, _, _, _, _, _⟩]) rfl ?_) | (refine WDQ.see rfl ?_) | (guard_target =~ WDQ _ _ _ _ _ _ _ ⟨_, .call ⟨.value (.func 112), _, _⟩, _, _, _, _⟩ _ _ _; refine WDQ.cq rfl rfl (place_tr hp hp3 hrng hn' hs hf1) ?_))
      refine QQ.end_ rfl () (by simp) fun w h => ?_
      have e : (i32s sl).set (r : Int).toNat (toK .i32 ((texts ++ [s]).length : Int)) = i32s (sl.set r ((texts.length : Int) + 1)) := by rw [hlen2]; rfl
      rw [e] at h
      have hg : TblG (texts ++ [s]) (sl.set r ((texts.length : Int) + 1)) := ⟨g', ⟨k, by rw [List.length_set]; exact hk1, hk2.elim .inl fun h => .inr (by rw [List.length_set, hlen2]; omega)⟩, by rw [List.length_set, hlen2]; omega, by omega, hsm2⟩
      exact (TblH.fold (vt := x) (sa := sa) (B := B) hg).sl h.to
  · rw [if_neg hf, decide_eq_false hf]
    have hput : putT texts s = texts := by unfold putT; rw [if_neg hf]
    rw [hput]
    obtain ⟨j, hj⟩ : ∃ j : Nat, findT texts s = j := ⟨(findT texts s).toNat, by have := findT_range texts s; omega⟩
    obtain ⟨hjl, rfl⟩ := findT_some _ _ _ hj
    obtain ⟨f, r, hf1, hr, hr2⟩ := tb.good.found hjl
    have hx := i32s_at sl r
    rw [hr2] at hx
    have hz0 : ofK (at_ (i32s sl) (r : Int)) ≠ 0 := by have := hx; unfold slv at this; rw [this]; omega
    have hw : -9223372036854775808 ≤ ofK (at_ (i32s sl) (r : Int)) ∧ ofK (at_ (i32s sl) (r : Int)) ≤ 9223372036854775807 := by have := hx; unfold slv at this; rw [this]; omega
    have hw2 : -9223372036854775808 ≤ ofK (at_ (i32s sl) (r : Int)) - 1 ∧ ofK (at_ (i32s sl) (r : Int)) - 1 ≤ 9223372036854775807 := by have := hx; unfold slv at this; rw [this]; omega
    refine Tr.intro Try.func79 rfl Try.ntmps79 rfl ?_
    repeat' (first | ((first | refine WLA.m rfl rfl ?_ ?_ | refine WLA.st rfl ?_ ?_ | refine WLA.x rfl rfl ?_ (fun x => ?_) | refine WLA.x0 rfl ?_ (fun x => ?_)); first | exact trivial | exact rfl | assumption | omega | (refine ⟨?_, ?_⟩ <;> omega) | (simp only [Room, List.length_set, List.length_append, List.length_cons, List.length_nil, List.length_replicate]; omega) | decide | skip) | (refine Stp.go ?_) | (guard_target =~ WLA _ _ _ _ _ (⟨_, .call ⟨.value (.func 112), _, _⟩, _, _, _, _⟩ :: _) _ _; refine WLA.cq rfl rfl (place_tr hp hp3 hrng hn' hs hf1) ?_) | (refine WPA.ifT ?_) | (refine WPA.ifF ?_) | ((first | refine WPA.dec ?_); first | refine .inl ⟨by first | assumption | omega | with_reducible rfl | (refine fun h => h ?_; assumption) | (simp only [List.length_append, List.length_cons, List.length_nil, List.length_set] <;> omega) | decide, ?_⟩ | refine .inr ⟨by first | assumption | omega | with_reducible rfl | (refine fun h => h ?_; assumption) | (simp only [List.length_append, List.length_cons, List.length_nil, List.length_set] <;> omega) | decide, ?_⟩) | ((first | refine WPA.ifBt ?_ ?_ | refine WPA.ifBnf ?_ ?_); assumption) | ((first | refine WPA.ifBnt ?_ ?_ | refine WPA.ifBf ?_ ?_); assumption) | ((first | refine WPA.ifs ?_ ?_ | refine WPA.ifB ?_ ?_) <;> intro hc))
    refine QQ.end_ rfl () ?_ fun w h => (TblH.fold (vt := vt) (sa := sa) (B := B) tb).sl h.to
    have := hx
    unfold slv at this
    rw [this, hj]
    simp
end
end Go.Proofs.Ytfhelnalegochaa
