/- Texts that MergeRuns_law leans on, part 19. Conditions: none. -/
import Derived.Test.YtamnobjdgjbmbaaGreatQm18
namespace Go.Proofs.YtamnobjdgjbmbaaGreat
open Go Go.Fw Go.RowKit
set_option linter.unusedVariables false
set_option linter.unusedSimpArgs false
set_option maxRecDepth 100000
set_option maxHeartbeats 16000000
set_option synthInstance.maxHeartbeats 200000
set_option synthInstance.maxSize 100000
attribute [local irreducible] WPA WLA WDA WDQ WDE QQ seqQ blockQ loopQ fnQ OpP OpT Tr TrP SL SLd OwnS LitS Bk BkE Ob
attribute [local irreducible] vS keyS parL RowH CtsH mrg grp
instance : Und Tryz.prog 22 (.array 3 3) := ⟨Tryz.underlying22⟩
theorem byS_34 {o : Int} : ∀ (n : Nat) {ms : List Ct}, ms.length = n → (∀ m ∈ ms, m.1.length ≤ 8 ∧ m.2 ≤ 1099511627776) → (byS ms).size ≤ 34 * n
  | 0, ms, h, _ => by rw [List.eq_nil_of_length_eq_zero h]; exact Nat.le_refl 0
  | n + 1, ms, h, hm => by
    have hne : ms ≠ [] := by intro e; rw [e] at h; simp at h
    have e : ms = ms.dropLast ++ [ms.getLast hne] := (List.dropLast_concat_getLast hne).symm
    have ih := byS_34 (o := o) n (ms := ms.dropLast) (by rw [List.length_dropLast, h]; rfl) fun m h => hm m (List.dropLast_subset ms h)
    obtain ⟨h1, h2⟩ := hm _ (List.getLast_mem hne)
    have hv := vS_size (n := (ms.getLast hne).2.toNat) (by omega)
    have hk := keyS_size (ms.getLast hne).1
    rw [e, byS_snoc, ByteArray.size_append, ByteArray.size_append]; omega
theorem byS_w {o : Int} {ms : List Ct} (h : wrong o ms = 0) : (byS ms).size ≤ 34 * ms.length := byS_34 (o := 0) _ rfl fun m hm => ⟨wrong_len8 h m hm, (wrong_good h m hm).2.2.2⟩
theorem blkS_le {o z : Int} (hz : 1 ≤ z) : ∀ {ls : List (List Ct)}, (∀ ms ∈ ls, wrong o ms = 0) → blkS z ls ≤ 34 * (ls.flatten.length : Nat)
  | [], _ => Int.le_refl 0
  | ms :: ls, h => by
    have h1 := blkS_le hz (ls := ls) fun x hx => h x (List.mem_cons_of_mem _ hx)
    have h2 := byS_w (h ms (List.mem_cons_self ..))
    have h3 := (blkN_le (n := (byS ms).size) hz).2.1
    have e : blkS z (ms :: ls) = blkN z (byS ms).size + blkS z ls := rfl
    rw [e, List.flatten_cons, List.length_append]
    omega
theorem flat20 : ∀ {ls : List (List Ct)}, (∀ ms ∈ ls, ms.length ≤ 20) → ls.flatten.length ≤ 20 * ls.length
  | [], _ => Nat.le_refl 0
  | ms :: ls, h => by
    have h1 := flat20 (ls := ls) fun x hx => h x (List.mem_cons_of_mem _ hx)
    have h2 := h ms (List.mem_cons_self ..)
    rw [List.flatten_cons, List.length_append, List.length_cons]; omega
theorem fin_of {K N : Foot} {o : Int} {x : RE} {wx : RF} {m' : BS} {l' : List PR} (ho : 1 ≤ o ∧ o ≤ 8) (h1 : RunRes K o x l') (h2 : RefRes N wx l') (hI : RInv o m' l') (hs : SubI N K) :
    ∃ (ids : List Int) (ms : List Ct), ((x.1 = o ∧ x.2.1 = (ms.length : Nat)) ∧ SlI N x.2.2 Int inferInstance ids) ∧ (SlI N wx.1 Int inferInstance ids ∧ LstI N wx.2 ms) ∧ (txtN m' ids ids.length = some (byS ms) ∧ readS o ms.length (byS ms) = some ms) ∧ (mrg (ctsF l') = ms ∧ m'.used = (ids.length : Nat)) ∧ ids.length ≤ 1000000 ∧ ms.length ≤ 300 ∧ ∀ m ∈ ms, m.1.length ≤ 8 := by
  rcases h1 with ⟨rfl, rfl⟩ | ⟨r, rfl, h1⟩
  · have hwx : wx = (SV.nil, SV.nil) := h2.elim (fun h => h.2) fun ⟨r, h, _⟩ => by cases h
    subst hwx
    have hw : wrong o [] = 0 := by unfold wrong; rw [if_neg (by omega)]; rfl
    exact ⟨[], [], ⟨⟨rfl, rfl⟩, SlI.nil⟩, ⟨SlI.nil, LstI.nil⟩, ⟨rfl, readS_back hw⟩, ⟨mrg_self List.Pairwise.nil, hI.used⟩, Nat.zero_le _, Nat.zero_le _, fun m hm => absurd hm List.not_mem_nil⟩
  · rcases h2 with ⟨h, _⟩ | ⟨r2, h, h2⟩
    · cases h
    · have e : r = r2 := by injection h
      subst e
      have hm : r ∈ [r] := List.mem_singleton.2 rfl
      refine ⟨r.1, r.2, ⟨h1.1, h1.2.sub⟩, h2, ⟨hI.text hm, hI.back hm⟩, ⟨?_, ?_⟩, hI.idl r hm, hI.le hm, wrong_len8 (hI.wr r hm)⟩
      · show mrg ([r].flatMap Prod.snd) = r.2
        rw [List.flatMap_singleton]; exact mrg_self (hI.ris r hm)
      · have := hI.used
        rw [idsF, List.flatMap_singleton] at this
        exact this
section
variable {w0 : World} {I : Foot} {kg : SV → List Int} {tp : SV → List Pe}
theorem MergeRuns_tr {s : SV} {hs : List SV} {z c o k : Int} [hsl : SlI I s SV inferInstance hs] (hG : ∀ h ∈ hs, RawL I kg tp h) (hk : k ≤ 9223372036854775807) :
    Tr Tryz.prog 3 #[.agg #[.int .i64 z, .int .i64 c, .int .i64 o], .slice s.a s.n s.cap, .int .i64 k] (SL w0 I []) (fun _ : Unit => .bool true) (fun _ => SL w0 I []) := by
  refine Tr.intro Tryz.func3 rfl Tryz.ntmps3 rfl ?_
  have hbt : (!true) = false := rfl
  have hbf : (!false) = true := rfl
  have hsm0 := fun {L : List HP} => small_tr (w0 := w0) (I := I) (L := L) (s := s) hG
  by_cases hsm : hs.length ≤ 12 ∧ ∀ h ∈ hs, SmallP kg tp h
  case neg =>
    rw [decide_eq_false hsm] at hsm0
    repeat' (first | ((rw [hbf])) | ((first | refine WLA.m rfl rfl ?_ ?_ | refine WLA.st rfl ?_ ?_ | refine WLA.x rfl rfl ?_ (fun x => ?_) | refine WLA.x0 rfl ?_ (fun x => ?_)); first | exact trivial | exact rfl | assumption | omega | (refine ⟨?_, ?_⟩ <;> omega) | (simp only [Room, lenS]; omega) | decide | skip) | (refine Stp.go ?_) | (guard_target =~ WLA _ _ _ _ _ (⟨_, .call ⟨.value (.func 8), _, _⟩, _, _, _, _⟩ :: _) _ _; refine WLA.cq rfl rfl (hsm0) ?_) | (guard_target =~ WLA _ _ _ _ _ (⟨_, .call ⟨.value (.func 9), _, _⟩, _, _, _, _⟩ :: _) _ _; refine WLA.call rfl rfl (live_tr21 _ _ _) ?_; rintro ⟨⟩) | (refine WPA.ifT ?_) | (refine WPA.ifF ?_) | (refine WLA.no rfl rfl ?_) | ((first | refine WPA.dec ?_ | ((fail_if_success (guard_target =~ WLA _ _ _ _ _ _ (put1 _ _ (.bool true)) _)); (fail_if_success (guard_target =~ WLA _ _ _ _ _ _ (put1 _ _ (.bool false)) _)); refine WLA.dec rfl rfl ?_) | refine WLA.pk ?_); first | refine .inl ⟨by first | assumption | omega | with_reducible rfl | (refine fun h => h ?_; first | assumption | with_reducible rfl) | (simp only [lenS] <;> omega) | decide, ?_⟩ | refine .inr ⟨by first | assumption | omega | with_reducible rfl | (refine fun h => h ?_; first | assumption | with_reducible rfl) | (simp only [lenS] <;> omega) | decide, ?_⟩) | ((first | refine WPA.ifBt ?_ ?_ | refine WPA.ifBnf ?_ ?_); assumption) | ((first | refine WPA.ifBnt ?_ ?_ | refine WPA.ifBf ?_ ?_); assumption) | ((first | refine WPA.ifs ?_ ?_ | refine WPA.ifB ?_ ?_) <;> intro hc) | ((fail_if_success (guard_target =~ WLA _ _ _ _ _ _ (put1 _ _ (.bool true)) _)); (fail_if_success (guard_target =~ WLA _ _ _ _ _ _ (put1 _ _ (.bool false)) _)); (first | refine WLA.both rfl rfl ?_ ?_ | refine WLA.bothB rfl rfl ?_ ?_) <;> intro hg))
    exact QQ.end_ rfl () rfl fun w h => h.to
  rw [decide_eq_true hsm] at hsm0
  by_cases z1 : z < 1
  · skip
    repeat' (first | ((rw [hbt])) | ((first | refine WLA.m rfl rfl ?_ ?_ | refine WLA.st rfl ?_ ?_ | refine WLA.x rfl rfl ?_ (fun x => ?_) | refine WLA.x0 rfl ?_ (fun x => ?_)); first | exact trivial | exact rfl | assumption | omega | (refine ⟨?_, ?_⟩ <;> omega) | (simp only [Room, lenS]; omega) | decide | skip) | (refine Stp.go ?_) | (guard_target =~ WLA _ _ _ _ _ (⟨_, .call ⟨.value (.func 8), _, _⟩, _, _, _, _⟩ :: _) _ _; refine WLA.cq rfl rfl (hsm0) ?_) | (guard_target =~ WLA _ _ _ _ _ (⟨_, .call ⟨.value (.func 9), _, _⟩, _, _, _, _⟩ :: _) _ _; refine WLA.call rfl rfl (live_tr21 _ _ _) ?_; rintro ⟨⟩) | (refine WPA.ifT ?_) | (refine WPA.ifF ?_) | (refine WLA.no rfl rfl ?_) | ((first | refine WPA.dec ?_ | ((fail_if_success (guard_target =~ WLA _ _ _ _ _ _ (put1 _ _ (.bool true)) _)); (fail_if_success (guard_target =~ WLA _ _ _ _ _ _ (put1 _ _ (.bool false)) _)); refine WLA.dec rfl rfl ?_) | refine WLA.pk ?_); first | refine .inl ⟨by first | assumption | omega | with_reducible rfl | (refine fun h => h ?_; first | assumption | with_reducible rfl) | (simp only [lenS] <;> omega) | decide, ?_⟩ | refine .inr ⟨by first | assumption | omega | with_reducible rfl | (refine fun h => h ?_; first | assumption | with_reducible rfl) | (simp only [lenS] <;> omega) | decide, ?_⟩) | ((first | refine WPA.ifBt ?_ ?_ | refine WPA.ifBnf ?_ ?_); assumption) | ((first | refine WPA.ifBnt ?_ ?_ | refine WPA.ifBf ?_ ?_); assumption) | ((first | refine WPA.ifs ?_ ?_ | refine WPA.ifB ?_ ?_) <;> intro hc) | ((fail_if_success (guard_target =~ WLA _ _ _ _ _ _ (put1 _ _ (.bool true)) _)); (fail_if_success (guard_target =~ WLA _ _ _ _ _ _ (put1 _ _ (.bool false)) _)); (first | refine WLA.both rfl rfl ?_ ?_ | refine WLA.bothB rfl rfl ?_ ?_) <;> intro hg))
    exact QQ.end_ rfl () rfl fun w h => h.to
  by_cases z2 : 100 < z
  · skip
    repeat' (first | ((rw [hbt])) | ((first | refine WLA.m rfl rfl ?_ ?_ | refine WLA.st rfl ?_ ?_ | refine WLA.x rfl rfl ?_ (fun x => ?_) | refine WLA.x0 rfl ?_ (fun x => ?_)); first | exact trivial | exact rfl | assumption | omega | (refine ⟨?_, ?_⟩ <;> omega) | (simp only [Room, lenS]; omega) | decide | skip) | (refine Stp.go ?_) | (guard_target =~ WLA _ _ _ _ _ (⟨_, .call ⟨.value (.func 8), _, _⟩, _, _, _, _⟩ :: _) _ _; refine WLA.cq rfl rfl (hsm0) ?_) | (guard_target =~ WLA _ _ _ _ _ (⟨_, .call ⟨.value (.func 9), _, _⟩, _, _, _, _⟩ :: _) _ _; refine WLA.call rfl rfl (live_tr21 _ _ _) ?_; rintro ⟨⟩) | (refine WPA.ifT ?_) | (refine WPA.ifF ?_) | (refine WLA.no rfl rfl ?_) | ((first | refine WPA.dec ?_ | ((fail_if_success (guard_target =~ WLA _ _ _ _ _ _ (put1 _ _ (.bool true)) _)); (fail_if_success (guard_target =~ WLA _ _ _ _ _ _ (put1 _ _ (.bool false)) _)); refine WLA.dec rfl rfl ?_) | refine WLA.pk ?_); first | refine .inl ⟨by first | assumption | omega | with_reducible rfl | (refine fun h => h ?_; first | assumption | with_reducible rfl) | (simp only [lenS] <;> omega) | decide, ?_⟩ | refine .inr ⟨by first | assumption | omega | with_reducible rfl | (refine fun h => h ?_; first | assumption | with_reducible rfl) | (simp only [lenS] <;> omega) | decide, ?_⟩) | ((first | refine WPA.ifBt ?_ ?_ | refine WPA.ifBnf ?_ ?_); assumption) | ((first | refine WPA.ifBnt ?_ ?_ | refine WPA.ifBf ?_ ?_); assumption) | ((first | refine WPA.ifs ?_ ?_ | refine WPA.ifB ?_ ?_) <;> intro hc) | ((fail_if_success (guard_target =~ WLA _ _ _ _ _ _ (put1 _ _ (.bool true)) _)); (fail_if_success (guard_target =~ WLA _ _ _ _ _ _ (put1 _ _ (.bool false)) _)); (first | refine WLA.both rfl rfl ?_ ?_ | refine WLA.bothB rfl rfl ?_ ?_) <;> intro hg))
    exact QQ.end_ rfl () rfl fun w h => h.to
  by_cases c1 : c < 1
  · skip
    repeat' (first | ((rw [hbt])) | ((first | refine WLA.m rfl rfl ?_ ?_ | refine WLA.st rfl ?_ ?_ | refine WLA.x rfl rfl ?_ (fun x => ?_) | refine WLA.x0 rfl ?_ (fun x => ?_)); first | exact trivial | exact rfl | assumption | omega | (refine ⟨?_, ?_⟩ <;> omega) | (simp only [Room, lenS]; omega) | decide | skip) | (refine Stp.go ?_) | (guard_target =~ WLA _ _ _ _ _ (⟨_, .call ⟨.value (.func 8), _, _⟩, _, _, _, _⟩ :: _) _ _; refine WLA.cq rfl rfl (hsm0) ?_) | (guard_target =~ WLA _ _ _ _ _ (⟨_, .call ⟨.value (.func 9), _, _⟩, _, _, _, _⟩ :: _) _ _; refine WLA.call rfl rfl (live_tr21 _ _ _) ?_; rintro ⟨⟩) | (refine WPA.ifT ?_) | (refine WPA.ifF ?_) | (refine WLA.no rfl rfl ?_) | ((first | refine WPA.dec ?_ | ((fail_if_success (guard_target =~ WLA _ _ _ _ _ _ (put1 _ _ (.bool true)) _)); (fail_if_success (guard_target =~ WLA _ _ _ _ _ _ (put1 _ _ (.bool false)) _)); refine WLA.dec rfl rfl ?_) | refine WLA.pk ?_); first | refine .inl ⟨by first | assumption | omega | with_reducible rfl | (refine fun h => h ?_; first | assumption | with_reducible rfl) | (simp only [lenS] <;> omega) | decide, ?_⟩ | refine .inr ⟨by first | assumption | omega | with_reducible rfl | (refine fun h => h ?_; first | assumption | with_reducible rfl) | (simp only [lenS] <;> omega) | decide, ?_⟩) | ((first | refine WPA.ifBt ?_ ?_ | refine WPA.ifBnf ?_ ?_); assumption) | ((first | refine WPA.ifBnt ?_ ?_ | refine WPA.ifBf ?_ ?_); assumption) | ((first | refine WPA.ifs ?_ ?_ | refine WPA.ifB ?_ ?_) <;> intro hc) | ((fail_if_success (guard_target =~ WLA _ _ _ _ _ _ (put1 _ _ (.bool true)) _)); (fail_if_success (guard_target =~ WLA _ _ _ _ _ _ (put1 _ _ (.bool false)) _)); (first | refine WLA.both rfl rfl ?_ ?_ | refine WLA.bothB rfl rfl ?_ ?_) <;> intro hg))
    exact QQ.end_ rfl () rfl fun w h => h.to
  by_cases c2 : 400 < c
  · skip
    repeat' (first | ((rw [hbt])) | ((first | refine WLA.m rfl rfl ?_ ?_ | refine WLA.st rfl ?_ ?_ | refine WLA.x rfl rfl ?_ (fun x => ?_) | refine WLA.x0 rfl ?_ (fun x => ?_)); first | exact trivial | exact rfl | assumption | omega | (refine ⟨?_, ?_⟩ <;> omega) | (simp only [Room, lenS]; omega) | decide | skip) | (refine Stp.go ?_) | (guard_target =~ WLA _ _ _ _ _ (⟨_, .call ⟨.value (.func 8), _, _⟩, _, _, _, _⟩ :: _) _ _; refine WLA.cq rfl rfl (hsm0) ?_) | (guard_target =~ WLA _ _ _ _ _ (⟨_, .call ⟨.value (.func 9), _, _⟩, _, _, _, _⟩ :: _) _ _; refine WLA.call rfl rfl (live_tr21 _ _ _) ?_; rintro ⟨⟩) | (refine WPA.ifT ?_) | (refine WPA.ifF ?_) | (refine WLA.no rfl rfl ?_) | ((first | refine WPA.dec ?_ | ((fail_if_success (guard_target =~ WLA _ _ _ _ _ _ (put1 _ _ (.bool true)) _)); (fail_if_success (guard_target =~ WLA _ _ _ _ _ _ (put1 _ _ (.bool false)) _)); refine WLA.dec rfl rfl ?_) | refine WLA.pk ?_); first | refine .inl ⟨by first | assumption | omega | with_reducible rfl | (refine fun h => h ?_; first | assumption | with_reducible rfl) | (simp only [lenS] <;> omega) | decide, ?_⟩ | refine .inr ⟨by first | assumption | omega | with_reducible rfl | (refine fun h => h ?_; first | assumption | with_reducible rfl) | (simp only [lenS] <;> omega) | decide, ?_⟩) | ((first | refine WPA.ifBt ?_ ?_ | refine WPA.ifBnf ?_ ?_); assumption) | ((first | refine WPA.ifBnt ?_ ?_ | refine WPA.ifBf ?_ ?_); assumption) | ((first | refine WPA.ifs ?_ ?_ | refine WPA.ifB ?_ ?_) <;> intro hc) | ((fail_if_success (guard_target =~ WLA _ _ _ _ _ _ (put1 _ _ (.bool true)) _)); (fail_if_success (guard_target =~ WLA _ _ _ _ _ _ (put1 _ _ (.bool false)) _)); (first | refine WLA.both rfl rfl ?_ ?_ | refine WLA.bothB rfl rfl ?_ ?_) <;> intro hg))
    exact QQ.end_ rfl () rfl fun w h => h.to
  by_cases o1 : o < 1
  · skip
    repeat' (first | ((rw [hbt])) | ((first | refine WLA.m rfl rfl ?_ ?_ | refine WLA.st rfl ?_ ?_ | refine WLA.x rfl rfl ?_ (fun x => ?_) | refine WLA.x0 rfl ?_ (fun x => ?_)); first | exact trivial | exact rfl | assumption | omega | (refine ⟨?_, ?_⟩ <;> omega) | (simp only [Room, lenS]; omega) | decide | skip) | (refine Stp.go ?_) | (guard_target =~ WLA _ _ _ _ _ (⟨_, .call ⟨.value (.func 8), _, _⟩, _, _, _, _⟩ :: _) _ _; refine WLA.cq rfl rfl (hsm0) ?_) | (guard_target =~ WLA _ _ _ _ _ (⟨_, .call ⟨.value (.func 9), _, _⟩, _, _, _, _⟩ :: _) _ _; refine WLA.call rfl rfl (live_tr21 _ _ _) ?_; rintro ⟨⟩) | (refine WPA.ifT ?_) | (refine WPA.ifF ?_) | (refine WLA.no rfl rfl ?_) | ((first | refine WPA.dec ?_ | ((fail_if_success (guard_target =~ WLA _ _ _ _ _ _ (put1 _ _ (.bool true)) _)); (fail_if_success (guard_target =~ WLA _ _ _ _ _ _ (put1 _ _ (.bool false)) _)); refine WLA.dec rfl rfl ?_) | refine WLA.pk ?_); first | refine .inl ⟨by first | assumption | omega | with_reducible rfl | (refine fun h => h ?_; first | assumption | with_reducible rfl) | (simp only [lenS] <;> omega) | decide, ?_⟩ | refine .inr ⟨by first | assumption | omega | with_reducible rfl | (refine fun h => h ?_; first | assumption | with_reducible rfl) | (simp only [lenS] <;> omega) | decide, ?_⟩) | ((first | refine WPA.ifBt ?_ ?_ | refine WPA.ifBnf ?_ ?_); assumption) | ((first | refine WPA.ifBnt ?_ ?_ | refine WPA.ifBf ?_ ?_); assumption) | ((first | refine WPA.ifs ?_ ?_ | refine WPA.ifB ?_ ?_) <;> intro hc) | ((fail_if_success (guard_target =~ WLA _ _ _ _ _ _ (put1 _ _ (.bool true)) _)); (fail_if_success (guard_target =~ WLA _ _ _ _ _ _ (put1 _ _ (.bool false)) _)); (first | refine WLA.both rfl rfl ?_ ?_ | refine WLA.bothB rfl rfl ?_ ?_) <;> intro hg))
    exact QQ.end_ rfl () rfl fun w h => h.to
  by_cases o2 : 8 < o
  · skip
    repeat' (first | ((rw [hbt])) | ((first | refine WLA.m rfl rfl ?_ ?_ | refine WLA.st rfl ?_ ?_ | refine WLA.x rfl rfl ?_ (fun x => ?_) | refine WLA.x0 rfl ?_ (fun x => ?_)); first | exact trivial | exact rfl | assumption | omega | (refine ⟨?_, ?_⟩ <;> omega) | (simp only [Room, lenS]; omega) | decide | skip) | (refine Stp.go ?_) | (guard_target =~ WLA _ _ _ _ _ (⟨_, .call ⟨.value (.func 8), _, _⟩, _, _, _, _⟩ :: _) _ _; refine WLA.cq rfl rfl (hsm0) ?_) | (guard_target =~ WLA _ _ _ _ _ (⟨_, .call ⟨.value (.func 9), _, _⟩, _, _, _, _⟩ :: _) _ _; refine WLA.call rfl rfl (live_tr21 _ _ _) ?_; rintro ⟨⟩) | (refine WPA.ifT ?_) | (refine WPA.ifF ?_) | (refine WLA.no rfl rfl ?_) | ((first | refine WPA.dec ?_ | ((fail_if_success (guard_target =~ WLA _ _ _ _ _ _ (put1 _ _ (.bool true)) _)); (fail_if_success (guard_target =~ WLA _ _ _ _ _ _ (put1 _ _ (.bool false)) _)); refine WLA.dec rfl rfl ?_) | refine WLA.pk ?_); first | refine .inl ⟨by first | assumption | omega | with_reducible rfl | (refine fun h => h ?_; first | assumption | with_reducible rfl) | (simp only [lenS] <;> omega) | decide, ?_⟩ | refine .inr ⟨by first | assumption | omega | with_reducible rfl | (refine fun h => h ?_; first | assumption | with_reducible rfl) | (simp only [lenS] <;> omega) | decide, ?_⟩) | ((first | refine WPA.ifBt ?_ ?_ | refine WPA.ifBnf ?_ ?_); assumption) | ((first | refine WPA.ifBnt ?_ ?_ | refine WPA.ifBf ?_ ?_); assumption) | ((first | refine WPA.ifs ?_ ?_ | refine WPA.ifB ?_ ?_) <;> intro hc) | ((fail_if_success (guard_target =~ WLA _ _ _ _ _ _ (put1 _ _ (.bool true)) _)); (fail_if_success (guard_target =~ WLA _ _ _ _ _ _ (put1 _ _ (.bool false)) _)); (first | refine WLA.both rfl rfl ?_ ?_ | refine WLA.bothB rfl rfl ?_ ?_) <;> intro hg))
    exact QQ.end_ rfl () rfl fun w h => h.to
  obtain ⟨ls, hls⟩ : ∃ ls, ls = hs.map fun h => (tp h).map (ctP kg) := ⟨_, rfl⟩
  have hll : hs.length = ls.length := by rw [hls, List.length_map]
  have hlI : LsI I hs ls := ⟨hll, fun j hj => by
    rw [hls, List.getD_eq_getElem?_getD, List.getElem?_map, List.getElem?_eq_getElem (by omega), at_nat hs j (by omega)]
    have := hG _ (List.getElem_mem (show j < hs.length by omega))
    exact LstI.ofMap this.sl this.el⟩
  have hlp : ∀ ms ∈ ls, ms.length ≤ 20 ∧ (∀ m ∈ ms, m.1.length ≤ 8) ∧ Ris id ms := fun ms hms => by
    rw [hls] at hms
    obtain ⟨h, hh, rfl⟩ := List.mem_map.1 hms
    obtain ⟨⟨q1, q2⟩, q3⟩ := hsm.2 h hh
    refine ⟨by rw [List.length_map]; exact q1, fun m hm => ?_, ?_⟩
    · obtain ⟨p, hp, rfl⟩ := List.mem_map.1 hm; exact q2 p hp
    · unfold Ris at q3 ⊢; rw [List.pairwise_map]; exact q3
  have hfl := flat20 fun ms hms => (hlp ms hms).1
  have hl12 : ls.length ≤ 12 := by omega
  have hgood : ∀ h ∈ hs, GoodL I kg tp h := fun h hh => ⟨(hG h hh).sl, fun p hp => ⟨(hG h hh).el p hp, by have := (hsm.2 h hh).1.2 p hp; omega⟩, (hsm.2 h hh).2⟩
  have hfm : (hs.flatMap tp).map (ctP kg) = ls.flatten := by rw [hls, List.map_flatMap, List.flatMap_def]
  have hfml : (hs.flatMap tp).length = ls.flatten.length := by rw [← hfm, List.length_map]
  clear hls
  have hz : 1 ≤ z ∧ z ≤ 65536 := by omega
  have ho : 1 ≤ o ∧ o ≤ 8 := by omega
  repeat' (first | ((rw [hbt])) | ((first | refine WLA.m rfl rfl ?_ ?_ | refine WLA.st rfl ?_ ?_ | refine WLA.x rfl rfl ?_ (fun x => ?_) | refine WLA.x0 rfl ?_ (fun x => ?_)); first | exact trivial | exact rfl | assumption | omega | (refine ⟨?_, ?_⟩ <;> omega) | (simp only [Room, lenS]; omega) | decide | skip) | (refine Stp.go ?_) | (guard_target =~ WLA _ _ _ _ _ (⟨_, .call ⟨.value (.func 8), _, _⟩, _, _, _, _⟩ :: _) _ _; refine WLA.cq rfl rfl (hsm0) ?_) | (refine WPA.ifT ?_) | (refine WPA.ifF ?_) | (refine WLA.no rfl rfl ?_) | ((first | refine WPA.dec ?_ | ((fail_if_success (guard_target =~ WLA _ _ _ _ _ _ (put1 _ _ (.bool true)) _)); (fail_if_success (guard_target =~ WLA _ _ _ _ _ _ (put1 _ _ (.bool false)) _)); refine WLA.dec rfl rfl ?_) | refine WLA.pk ?_); first | refine .inl ⟨by first | assumption | omega | with_reducible rfl | (refine fun h => h ?_; first | assumption | with_reducible rfl) | (simp only [lenS] <;> omega) | decide, ?_⟩ | refine .inr ⟨by first | assumption | omega | with_reducible rfl | (refine fun h => h ?_; first | assumption | with_reducible rfl) | (simp only [lenS] <;> omega) | decide, ?_⟩) | ((first | refine WPA.ifBt ?_ ?_ | refine WPA.ifBnf ?_ ?_); assumption) | ((first | refine WPA.ifBnt ?_ ?_ | refine WPA.ifBf ?_ ?_); assumption) | ((first | refine WPA.ifs ?_ ?_ | refine WPA.ifB ?_ ?_) <;> intro hc) | ((fail_if_success (guard_target =~ WLA _ _ _ _ _ _ (put1 _ _ (.bool true)) _)); (fail_if_success (guard_target =~ WLA _ _ _ _ _ _ (put1 _ _ (.bool false)) _)); (first | refine WLA.both rfl rfl ?_ ?_ | refine WLA.bothB rfl rfl ?_ ?_) <;> intro hg))
  revert x; intro Q
  refine WPA.loopS (σ := Nat) (fun i => [(1, .slice s.a s.n s.cap), (2, .int .i64 k), (3, .pointer (some ⟨Q, 0, none⟩)), (7, .int .i64 (blkS z (ls.take i))), (8, .int .i64 i)]) (fun i => i ≤ ls.length ∧ ∀ j : Nat, j < i → wrong o (ls.getD j []) = 0)
    (fun i => SL w0 I [Bk Q 22 [.int .i64 z, .int .i64 c, .int .i64 o]]) (fun i => ls.length - i) 0 ⟨rfl, rfl, rfl, rfl, rfl, trivial⟩ ⟨Nat.zero_le _, fun j hj => absurd hj (Nat.not_lt_zero j)⟩ (fun w h => h.to) ?_
  rintro i ρ ⟨hi, hwj⟩
  by_cases hlt : i < ls.length
  · have hlt' : (i : Int) < hs.length := by omega
    have hir : (0 : Int) ≤ i ∧ (i : Int) < hs.length := by omega
    have hv := hlI.2 i hlt
    have hmi : ls.getD i [] ∈ ls := by rw [List.getD_eq_getElem?_getD, List.getElem?_eq_getElem hlt]; exact List.getElem_mem _
    have hpi := hlp _ hmi
    have htk : ls.take (i + 1) = ls.take i ++ [ls.getD i []] := by rw [List.take_add_one, List.getElem?_eq_getElem hlt, List.getD_eq_getElem?_getD, List.getElem?_eq_getElem hlt]; rfl
    have hsk := blkS_snoc z (ls.take i) (ls.getD i [])
    rw [← htk] at hsk
    have hnx : wrong o (ls.getD i []) = 0 → ∀ j : Nat, j < i + 1 → wrong o (ls.getD j []) = 0 := fun h0 j hj => by
      by_cases e : j = i
      · subst e; exact h0
      · exact hwj j (by omega)
    have hb0 := blkS_nonneg hz.1 (ls.take i)
    have hb1 := blkS_le (o := o) (z := z) hz.1 (ls := ls.take i) fun ms hms => by
      obtain ⟨j, hj, rfl⟩ := List.mem_iff_getElem.1 hms
      rw [List.length_take] at hj
      have := hwj j (by omega)
      rw [List.getD_eq_getElem?_getD, List.getElem?_eq_getElem (by omega)] at this
      rw [List.getElem_take]; exact this
    have hfp := flat_pre_len hlt
    obtain ⟨v, hvq⟩ : ∃ v, at_ hs (i : Int) = v := ⟨_, rfl⟩
    rw [hvq] at hv
    generalize hms : ls.getD i [] = ms at hv hpi hsk hnx hfp
    have hm6 : ∀ m ∈ ms, m.1.length ≤ 1000000 := fun m hm => by have := hpi.2.1 m hm; omega
    have hwt := fun {L : List HP} => Wrong_trI (w0 := w0) (L := L) (o := o) hv hm6 (by omega)
    by_cases hw : wrong o ms = 0
    case neg =>
      generalize wrong o ms = e at hw hwt
      repeat' (first | ((rw [hvq])) | ((first | refine WLA.m rfl rfl ?_ ?_ | refine WDQ.m rfl rfl ?_ ?_ | refine WLA.st rfl ?_ ?_ | refine WLA.x rfl rfl ?_ (fun x => ?_) | refine WLA.x0 rfl ?_ (fun x => ?_)); first | exact trivial | exact rfl | assumption | omega | (refine ⟨?_, ?_⟩ <;> omega) | (simp only [Room, lenS]; omega) | decide | skip) | (refine Stp.go ?_) | (guard_target =~ WLA _ _ _ _ _ (⟨_, .call ⟨.value (.func 10), _, _⟩, _, _, _, _⟩ :: _) _ _; refine WLA.call rfl rfl (hwt) ?_; rintro ⟨⟩) | (guard_target =~ WLA _ _ _ _ _ (⟨_, .call ⟨.value (.func 9), _, _⟩, _, _, _, _⟩ :: _) _ _; refine WLA.call rfl rfl (live_tr21 _ _ _) ?_; rintro ⟨⟩) | (refine WPA.ifT ?_) | (refine WPA.ifF ?_) | ((first | refine WPA.dec ?_); first | refine .inl ⟨by first | assumption | omega | with_reducible rfl | (refine fun h => h ?_; first | assumption | with_reducible rfl) | (simp only [lenS] <;> omega) | decide, ?_⟩ | refine .inr ⟨by first | assumption | omega | with_reducible rfl | (refine fun h => h ?_; first | assumption | with_reducible rfl) | (simp only [lenS] <;> omega) | decide, ?_⟩) | ((first | refine WPA.ifBt ?_ ?_ | refine WPA.ifBnf ?_ ?_); assumption) | ((first | refine WPA.ifBnt ?_ ?_ | refine WPA.ifBf ?_ ?_); assumption) | ((first | refine WPA.ifs ?_ ?_ | refine WPA.ifB ?_ ?_) <;> intro hc) | (guard_target =~ WPA _ _ _ (.region 7 _ true) _ _ _; refine WPA.drawT 6 (.q 0 (.q 1 (.q 2 (.q 3 (.q 4 (.q 5 .fin)))))) mixed ?_ ?_; kernel_rfl) | (refine WDA.finish (tl := [⟨_, _, _, _, _, _⟩, ⟨_, _, _, _, _, _⟩]) rfl ?_) | (refine WDQ.see rfl ?_) | (guard_target =~ WDE _ _ _ _ _ _ _ ⟨_, .call ⟨.value (.func 10), _, _⟩, _, _, _, _⟩ _ _ _; refine WDE.call rfl rfl (hwt) ?_ ?_; (intro x w h; first | exact h | exact Ent.drop1.sl h | exact SL.unI h | exact SL.to h); rintro ⟨⟩) | (guard_target =~ WDW _ _ _ _ _ _ _ ⟨_, .call ⟨.value (.func 10), _, _⟩, _, _, _, _⟩ _ _ _; refine WDW.call rfl rfl (hwt) ?_; rintro ⟨⟩) | (guard_target =~ WDE _ _ _ _ _ _ _ ⟨_, .call ⟨.value (.func 9), _, _⟩, _, _, _, _⟩ _ _ _; refine WDE.call rfl rfl (live_tr21 _ _ _) ?_ ?_; (intro x w h; first | exact h | exact Ent.drop1.sl h | exact SL.unI h | exact SL.to h); rintro ⟨⟩) | (guard_target =~ WDW _ _ _ _ _ _ _ ⟨_, .call ⟨.value (.func 9), _, _⟩, _, _, _, _⟩ _ _ _; refine WDW.call rfl rfl (live_tr21 _ _ _) ?_; rintro ⟨⟩))
      exact QQ.end_ rfl () rfl fun w h => h.to
    rw [hw] at hwt
    have h00 : ¬ (0 : Int) ≠ 0 := fun h => h rfl
    have hby := byS_w hw
    have hbl := blkN_le (z := z) (n := (byS ms).size) hz.1
    have hbdef : blkN z (byS ms).size = (((byS ms).size : Int) + z - 1) / z := rfl
    rw [hbdef] at hsk hbl
    have hbt2 := fun {L : List HP} => rBytes_trI (w0 := w0) (L := L) hv hw (by omega)
    generalize hB1 : blkS z (ls.take i) = B1 at hsk hb0 hb1
    generalize hby2 : (byS ms).size = n at hby hbl hsk
    generalize hdd : ((n : Int) + z - 1) / z = d at hbl hsk
    repeat' (first | ((rw [hvq])) | ((rw [hby2])) | ((rw [hdd])) | ((first | refine WLA.m rfl rfl ?_ ?_ | refine WDQ.m rfl rfl ?_ ?_ | refine WLA.st rfl ?_ ?_ | refine WLA.x rfl rfl ?_ (fun x => ?_) | refine WLA.x0 rfl ?_ (fun x => ?_)); first | exact trivial | exact rfl | assumption | omega | (refine ⟨?_, ?_⟩ <;> omega) | (simp only [Room, lenS]; omega) | decide | skip) | (refine Stp.go ?_) | (guard_target =~ WLA _ _ _ _ _ (⟨_, .call ⟨.value (.func 10), _, _⟩, _, _, _, _⟩ :: _) _ _; refine WLA.call rfl rfl (hwt) ?_; rintro ⟨⟩) | (guard_target =~ WLA _ _ _ _ _ (⟨_, .call ⟨.value (.func 11), _, _⟩, _, _, _, _⟩ :: _) _ _; refine WLA.call rfl rfl (hbt2) ?_; rintro ⟨⟩) | (refine WPA.ifT ?_) | (refine WPA.ifF ?_) | ((first | refine WPA.dec ?_); first | refine .inl ⟨by first | assumption | omega | with_reducible rfl | (refine fun h => h ?_; first | assumption | with_reducible rfl) | (simp only [lenS] <;> omega) | decide, ?_⟩ | refine .inr ⟨by first | assumption | omega | with_reducible rfl | (refine fun h => h ?_; first | assumption | with_reducible rfl) | (simp only [lenS] <;> omega) | decide, ?_⟩) | ((first | refine WPA.ifBt ?_ ?_ | refine WPA.ifBnf ?_ ?_); assumption) | ((first | refine WPA.ifBnt ?_ ?_ | refine WPA.ifBf ?_ ?_); assumption) | ((first | refine WPA.ifs ?_ ?_ | refine WPA.ifB ?_ ?_) <;> intro hc) | (guard_target =~ WPA _ _ _ (.region 7 _ true) _ _ _; refine WPA.drawT 6 (.q 0 (.q 1 (.q 2 (.q 3 (.q 4 (.q 5 .fin)))))) mixed ?_ ?_; kernel_rfl) | (refine WDA.finish (tl := [⟨_, _, _, _, _, _⟩, ⟨_, _, _, _, _, _⟩]) rfl ?_) | (refine WDQ.see rfl ?_) | (guard_target =~ WDE _ _ _ _ _ _ _ ⟨_, .call ⟨.value (.func 10), _, _⟩, _, _, _, _⟩ _ _ _; refine WDE.call rfl rfl (hwt) ?_ ?_; (intro x w h; first | exact h | exact Ent.drop1.sl h | exact SL.unI h | exact SL.to h); rintro ⟨⟩) | (guard_target =~ WDW _ _ _ _ _ _ _ ⟨_, .call ⟨.value (.func 10), _, _⟩, _, _, _, _⟩ _ _ _; refine WDW.call rfl rfl (hwt) ?_; rintro ⟨⟩) | (guard_target =~ WDE _ _ _ _ _ _ _ ⟨_, .call ⟨.value (.func 11), _, _⟩, _, _, _, _⟩ _ _ _; refine WDE.call rfl rfl (hbt2) ?_ ?_; (intro x w h; first | exact h | exact Ent.drop1.sl h | exact SL.unI h | exact SL.to h); rintro ⟨⟩) | (guard_target =~ WDW _ _ _ _ _ _ _ ⟨_, .call ⟨.value (.func 11), _, _⟩, _, _, _, _⟩ _ _ _; refine WDW.call rfl rfl (hbt2) ?_; rintro ⟨⟩))
    exact QQ.loopS (i + 1) ⟨rfl, rfl, rfl, by show _ = Value.int .i64 (blkS z (ls.take (i + 1))); rw [hsk]; rfl, rfl, trivial⟩ ⟨hlt, hnx hw⟩ (by omega) (fun w h => h.to)
  have hlt' : ¬ (i : Int) < hs.length := by omega
  have hie : i = ls.length := by omega
  subst hie
  rw [List.take_length]
  have hw0 : ∀ ms ∈ ls, wrong o ms = 0 := fun ms hms => by
    obtain ⟨j, hj, rfl⟩ := List.mem_iff_getElem.1 hms
    have := hwj j hj
    rw [List.getD_eq_getElem?_getD, List.getElem?_eq_getElem hj] at this
    exact this
  have hb0 := blkS_nonneg hz.1 ls
  have hb1 := blkS_le hz.1 hw0
  obtain ⟨M, hM⟩ : ∃ M, max c (blkS z ls) = M := ⟨_, rfl⟩
  have hM1 : (1 ≤ M ∧ M ≤ 1048576) ∧ blkS z ls ≤ M := by omega
  have hlaid := fun {L L1 L2 : List HP} {S X : Nat} [FindK L StoreR S (BS.mk z M [] [] 0 0 0) L1] [FindK L1 RefR X (RS.mk z M [] [] 0) L2] => laid_tr (o := o) (w0 := w0) (L := L) (L1 := L1) (L2 := L2) (S := S) (X := X) hsl hlI hz hM1.1 hM1.2 (fun ms hms => ⟨hw0 ms hms, (hlp ms hms).2.2⟩) (by omega) (by omega)
  generalize hBS : blkS z ls = B at hb0 hb1 hM hM1
  repeat' ((fail_if_success (guard_target =~ WPA _ _ _ (.region 13 _ _) _ _ _)); first | ((rw [hM])) | ((first | refine WLA.m rfl rfl ?_ ?_ | refine WLA.st rfl ?_ ?_ | refine WLA.x rfl rfl ?_ (fun x => ?_) | refine WLA.x0 rfl ?_ (fun x => ?_)); first | exact trivial | exact rfl | assumption | omega | (refine ⟨?_, ?_⟩ <;> omega) | (simp only [Room, lenS]; omega) | decide | skip) | (refine Stp.go ?_) | (guard_target =~ WLA _ _ _ _ _ (⟨_, .call ⟨.value (.func 12), _, _⟩, _, _, _, _⟩ :: _) _ _; refine WLA.call rfl rfl (New_tr _ _ _ hz hM1.1) ?_; rintro S) | (refine WPA.ifT ?_) | (refine WPA.ifF ?_) | ((first | refine WPA.dec ?_); first | refine .inl ⟨by first | assumption | omega | with_reducible rfl | (refine fun h => h ?_; first | assumption | with_reducible rfl) | (simp only [lenS] <;> omega) | decide, ?_⟩ | refine .inr ⟨by first | assumption | omega | with_reducible rfl | (refine fun h => h ?_; first | assumption | with_reducible rfl) | (simp only [lenS] <;> omega) | decide, ?_⟩) | ((first | refine WPA.ifBt ?_ ?_ | refine WPA.ifBnf ?_ ?_); assumption) | ((first | refine WPA.ifBnt ?_ ?_ | refine WPA.ifBf ?_ ?_); assumption) | ((first | refine WPA.ifs ?_ ?_ | refine WPA.ifB ?_ ?_) <;> intro hc))
  revert x; intro X
  refine WPA.ent (L' := [RefR X ⟨z, M, [], [], 0⟩, StoreR S ⟨z, M, [], [], 0, 0, 0⟩, Bk Q 22 [.int .i64 z, .int .i64 c, .int .i64 o]]) ((Ent.take Take.here (Ent.ownNil (Ent.ownNil Ent.refl))).trans (RefR.fold (x := ⟨z, M, [], [], 0⟩) (p := SV.nil) (q := SV.nil) rfl)) ?_
  repeat' ((fail_if_success (guard_target =~ WPA _ _ _ (.region 16 _ _) _ _ _)); first | ((rw [hbt])) | ((first | refine WLA.m rfl rfl ?_ ?_ | refine WLA.st rfl ?_ ?_ | refine WLA.x rfl rfl ?_ (fun x => ?_) | refine WLA.x0 rfl ?_ (fun x => ?_)); first | exact trivial | exact rfl | assumption | omega | (refine ⟨?_, ?_⟩ <;> omega) | (simp only [Room, lenS]; omega) | decide | skip) | (refine Stp.go ?_) | (guard_target =~ WLA _ _ _ _ _ (⟨_, .call ⟨.value (.func 13), _, _⟩, _, _, _, _⟩ :: _) _ _; refine WLA.call rfl rfl (hlaid) ?_; rintro ⟨i, J, m, rs, out, oes, want, wes, lp⟩; dsimp only; refine WLA.pure fun hP => ?_) | (refine WPA.ifT ?_) | (refine WPA.ifF ?_) | ((first | refine WPA.dec ?_); first | refine .inl ⟨by first | assumption | omega | with_reducible rfl | (refine fun h => h ?_; first | assumption | with_reducible rfl) | (simp only [lenS] <;> omega) | decide, ?_⟩ | refine .inr ⟨by first | assumption | omega | with_reducible rfl | (refine fun h => h ?_; first | assumption | with_reducible rfl) | (simp only [lenS] <;> omega) | decide, ?_⟩) | ((first | refine WPA.ifBt ?_ ?_ | refine WPA.ifBnf ?_ ?_); assumption) | ((first | refine WPA.ifBnt ?_ ?_ | refine WPA.ifBf ?_ ?_); assumption) | ((first | refine WPA.ifs ?_ ?_ | refine WPA.ifB ?_ ?_) <;> intro hc))
  obtain ⟨hJ, hp, hr, hI, rel, hsnd, hus, hzz, hmm⟩ := hP
  dsimp only at hJ hp hr hI rel hsnd hus hzz hmm
  rw [hBS] at hus
  have hlpl : lp.length = ls.length := by rw [← hsnd, List.length_map]
  have hcf : ctsF lp = ls.flatten := by rw [ctsF, List.flatMap_def, hsnd]
  have hsJ : SlI J s SV inferInstance hs := hsl.sub
  refine WPA.freeze fun R1 hF1 => ?_
  refine WPA.freeze fun R2 hF2 => ?_
  have s1 : SlI (R2 ++ (R1 ++ J)) out RE inferInstance oes := by have := SlI.ofOwn hF1; infer_instance
  have s2 : SlI (R2 ++ (R1 ++ J)) want RF inferInstance wes := by have := SlI.ofOwn hF2; infer_instance
  have hp2 : Rows (PRunI (R2 ++ (R1 ++ J)) o) oes lp := hp.mono fun _ _ k => k.sub inferInstance
  have hr2 : Rows (RRunI (R2 ++ (R1 ++ J))) wes lp := hr.mono fun _ _ k => k.sub inferInstance
  have hNI : SubI (R2 ++ (R1 ++ J)) I := ⟨fun z hz => List.mem_append_right _ (List.mem_append_right _ (hJ.out hz))⟩
  clear hF1 hF2 hsJ hp hr hJ
  generalize R2 ++ (R1 ++ J) = N at s1 s2 hp2 hr2 hNI
  by_cases hf : k < 2
  · have hck : ∀ {L L' : List HP} [FindK L StoreR S m L'], Tr Tryz.prog 42 #[.pointer (some ⟨S, 0, none⟩), .int .i64 o, .slice out.a out.n out.cap, .int .i64 k] (SL w0 N L) (fun _ : Unit => .int .i64 1) (fun _ => SL w0 N (StoreR S m :: L')) := fun {L L'} h =>
      (mck_arg (by omega)).conv (fun _ h => h) fun _ w hw => ⟨(), rfl, h.out.sl hw⟩
    repeat' (first | ((rw [hus])) | ((first | refine WLA.m rfl rfl ?_ ?_ | refine WLA.st rfl ?_ ?_ | refine WLA.x rfl rfl ?_ (fun x => ?_) | refine WLA.x0 rfl ?_ (fun x => ?_)); first | exact trivial | exact rfl | assumption | omega | (refine ⟨?_, ?_⟩ <;> omega) | (simp only [Room, lenS]; omega) | decide | skip) | (refine Stp.go ?_) | (guard_target =~ WLA _ _ _ _ _ (⟨_, .call ⟨.value (.func 14), _, _⟩, _, _, _, _⟩ :: _) _ _; refine WLA.call rfl rfl (Runs_bad (by decide) hck) ?_; rintro ⟨⟩) | (guard_target =~ WLA _ _ _ _ _ (⟨_, .call ⟨.value (.func 15), _, _⟩, _, _, _, _⟩ :: _) _ _; refine WLA.cq rfl rfl (Used_tr) ?_) | (guard_target =~ WLA _ _ _ _ _ (⟨_, .call ⟨.value (.func 9), _, _⟩, _, _, _, _⟩ :: _) _ _; refine WLA.call rfl rfl (live_tr21 _ _ _) ?_; rintro ⟨⟩) | (refine WPA.ifT ?_) | (refine WPA.ifF ?_) | (refine WLA.no rfl rfl ?_) | ((first | refine WPA.dec ?_ | ((fail_if_success (guard_target =~ WLA _ _ _ _ _ _ (put1 _ _ (.bool true)) _)); (fail_if_success (guard_target =~ WLA _ _ _ _ _ _ (put1 _ _ (.bool false)) _)); refine WLA.dec rfl rfl ?_) | refine WLA.pk ?_); first | refine .inl ⟨by first | assumption | omega | with_reducible rfl | (refine fun h => h ?_; first | assumption | with_reducible rfl) | (simp only [lenS] <;> omega) | decide, ?_⟩ | refine .inr ⟨by first | assumption | omega | with_reducible rfl | (refine fun h => h ?_; first | assumption | with_reducible rfl) | (simp only [lenS] <;> omega) | decide, ?_⟩) | ((first | refine WPA.ifBt ?_ ?_ | refine WPA.ifBnf ?_ ?_); assumption) | ((first | refine WPA.ifBnt ?_ ?_ | refine WPA.ifBf ?_ ?_); assumption) | ((first | refine WPA.ifs ?_ ?_ | refine WPA.ifB ?_ ?_) <;> intro hc) | ((fail_if_success (guard_target =~ WLA _ _ _ _ _ _ (put1 _ _ (.bool true)) _)); (fail_if_success (guard_target =~ WLA _ _ _ _ _ _ (put1 _ _ (.bool false)) _)); (first | refine WLA.both rfl rfl ?_ ?_ | refine WLA.bothB rfl rfl ?_ ?_) <;> intro hg))
    exact QQ.end_ rfl () rfl fun w h => (h.to : SL w0 N [] w).sub hNI.out
  obtain ⟨f, rfl⟩ : ∃ f : Nat, k = (f : Int) := ⟨k.toNat, by omega⟩
  have hf2 : 2 ≤ f ∧ (f : Int) ≤ 9223372036854775807 := by omega
  obtain ⟨m', l', p, e, hGG⟩ : ∃ m' l' p e, runsF o f m lp 0 = (m', l', p, e) := ⟨_, _, _, _, rfl⟩
  have hok := runs_ok (o := o) (f := f) (by omega) lp.length lp rfl m 0 hI
  have hlaw := fun h => runs_law (o := o) (f := f) (by omega) lp.length lp rfl m 0 hI h
  rw [hGG] at hok hlaw
  dsimp only at hok hlaw
  rw [hcf] at hlaw
  repeat' ((fail_if_success (guard_target =~ WPA _ _ _ (.region 19 _ _) _ _ _)); first | ((first | refine WLA.m rfl rfl ?_ ?_ | refine WLA.st rfl ?_ ?_ | refine WLA.x rfl rfl ?_ (fun x => ?_) | refine WLA.x0 rfl ?_ (fun x => ?_)); first | exact trivial | exact rfl | assumption | omega | (refine ⟨?_, ?_⟩ <;> omega) | (simp only [Room, lenS]; omega) | decide | skip) | (refine Stp.go ?_) | (guard_target =~ WLA _ _ _ _ _ (⟨_, .call ⟨.value (.func 14), _, _⟩, _, _, _, _⟩ :: _) _ _; refine WLA.call rfl rfl (Runs_tr ho hf2 s1 hp2 hI (by omega) hGG) ?_; rintro ⟨⟨xo, xn, xs⟩, K⟩; dsimp only; refine WLA.pure fun hx => ?_) | (refine WPA.ifT ?_) | (refine WPA.ifF ?_) | ((first | refine WPA.dec ?_); first | refine .inl ⟨by first | assumption | omega | with_reducible rfl | (refine fun h => h ?_; first | assumption | with_reducible rfl) | (simp only [lenS] <;> omega) | decide, ?_⟩ | refine .inr ⟨by first | assumption | omega | with_reducible rfl | (refine fun h => h ?_; first | assumption | with_reducible rfl) | (simp only [lenS] <;> omega) | decide, ?_⟩) | ((first | refine WPA.ifBt ?_ ?_ | refine WPA.ifBnf ?_ ?_); assumption) | ((first | refine WPA.ifBnt ?_ ?_ | refine WPA.ifBf ?_ ?_); assumption) | ((first | refine WPA.ifs ?_ ?_ | refine WPA.ifB ?_ ?_) <;> intro hc))
  revert x; intro X16
  obtain ⟨hKN, hx0, hx1⟩ := hx
  have s3 : SlI K want RF inferInstance wes := s2.sub
  have hr3 : Rows (RRunI K) wes lp := hr2.mono fun _ _ k => k.sub hKN
  have hee : ¬ e ≠ e := fun h => h rfl
  have hpp : ¬ (p : Int) ≠ (p : Int) := fun h => h rfl
  repeat' ((fail_if_success (guard_target =~ WPA _ _ _ (.region 20 _ _) _ _ _)); first | ((first | refine WLA.m rfl rfl ?_ ?_ | refine WLA.st rfl ?_ ?_ | refine WLA.x rfl rfl ?_ (fun x => ?_) | refine WLA.x0 rfl ?_ (fun x => ?_)); first | exact trivial | exact rfl | assumption | omega | (refine ⟨?_, ?_⟩ <;> omega) | (simp only [Room, lenS]; omega) | decide | skip) | (refine Stp.go ?_) | (guard_target =~ WLA _ _ _ _ _ (⟨_, .call ⟨.value (.func 16), _, _⟩, _, _, _, _⟩ :: _) _ _; refine WLA.call rfl rfl (rRuns_tr hf2 s3 hr3 hI rel (by omega) hGG) ?_; rintro ⟨⟨wb, wl⟩, K2, rs2⟩; dsimp only; refine WLA.pure fun hy => ?_) | (refine WPA.ifT ?_) | (refine WPA.ifF ?_) | ((first | refine WPA.dec ?_); first | refine .inl ⟨by first | assumption | omega | with_reducible rfl | (refine fun h => h ?_; first | assumption | with_reducible rfl) | (simp only [lenS] <;> omega) | decide, ?_⟩ | refine .inr ⟨by first | assumption | omega | with_reducible rfl | (refine fun h => h ?_; first | assumption | with_reducible rfl) | (simp only [lenS] <;> omega) | decide, ?_⟩) | ((first | refine WPA.ifBt ?_ ?_ | refine WPA.ifBnf ?_ ?_); assumption) | ((first | refine WPA.ifBnt ?_ ?_ | refine WPA.ifBf ?_ ?_); assumption) | ((first | refine WPA.ifs ?_ ?_ | refine WPA.ifB ?_ ?_) <;> intro hc))
  revert x; intro X19
  obtain ⟨hK2, rel2, hy0⟩ := hy
  have hrl : rs2.tk.length ≤ 1048576 := by rw [rel2.tk]; have := hok.lm; have := hok.most; omega
  obtain ⟨cn, hcn⟩ : ∃ cn : Int, ((rs2.tk.count true : Nat) : Int) = cn := ⟨_, rfl⟩
  have hU : m'.used = cn := by rw [← hcn, rel2.tk]; exact hok.used
  have hxx : ¬ cn ≠ cn := fun h => h rfl
  have hK2I : SubI K2 I := ⟨fun z hz => hK2.out (hKN.out (hNI.out hz))⟩
  by_cases he : e = 0
  case neg =>
    have hxz := hx1 he
    simp only [Prod.mk.injEq] at hxz
    obtain ⟨rfl, rfl, rfl⟩ := hxz
    repeat' (first | ((rw [hU])) | ((rw [hcn])) | ((first | refine WLA.m rfl rfl ?_ ?_ | refine WLA.st rfl ?_ ?_ | refine WLA.x rfl rfl ?_ (fun x => ?_) | refine WLA.x0 rfl ?_ (fun x => ?_)); first | exact trivial | exact rfl | assumption | omega | (refine ⟨?_, ?_⟩ <;> omega) | (simp only [Room, lenS]; omega) | decide | skip) | (refine Stp.go ?_) | (guard_target =~ WLA _ _ _ _ _ (⟨_, .call ⟨.value (.func 15), _, _⟩, _, _, _, _⟩ :: _) _ _; refine WLA.cq rfl rfl (Used_tr) ?_) | (guard_target =~ WLA _ _ _ _ _ (⟨_, .call ⟨.value (.func 17), _, _⟩, _, _, _, _⟩ :: _) _ _; refine WLA.cq rfl rfl (rUsed_tr hrl) ?_) | (guard_target =~ WLA _ _ _ _ _ (⟨_, .call ⟨.value (.func 9), _, _⟩, _, _, _, _⟩ :: _) _ _; refine WLA.call rfl rfl (live_tr21 _ _ _) ?_; rintro ⟨⟩) | (refine WPA.ifT ?_) | (refine WPA.ifF ?_) | (refine WLA.no rfl rfl ?_) | ((first | refine WPA.dec ?_ | ((fail_if_success (guard_target =~ WLA _ _ _ _ _ _ (put1 _ _ (.bool true)) _)); (fail_if_success (guard_target =~ WLA _ _ _ _ _ _ (put1 _ _ (.bool false)) _)); refine WLA.dec rfl rfl ?_) | refine WLA.pk ?_); first | refine .inl ⟨by first | assumption | omega | with_reducible rfl | (refine fun h => h ?_; first | assumption | with_reducible rfl) | (simp only [lenS] <;> omega) | decide, ?_⟩ | refine .inr ⟨by first | assumption | omega | with_reducible rfl | (refine fun h => h ?_; first | assumption | with_reducible rfl) | (simp only [lenS] <;> omega) | decide, ?_⟩) | ((first | refine WPA.ifBt ?_ ?_ | refine WPA.ifBnf ?_ ?_); assumption) | ((first | refine WPA.ifBnt ?_ ?_ | refine WPA.ifBf ?_ ?_); assumption) | ((first | refine WPA.ifs ?_ ?_ | refine WPA.ifB ?_ ?_) <;> intro hc) | ((fail_if_success (guard_target =~ WLA _ _ _ _ _ _ (put1 _ _ (.bool true)) _)); (fail_if_success (guard_target =~ WLA _ _ _ _ _ _ (put1 _ _ (.bool false)) _)); (first | refine WLA.both rfl rfl ?_ ?_ | refine WLA.bothB rfl rfl ?_ ?_) <;> intro hg))
    exact QQ.end_ rfl () rfl fun w h => (h.to : SL w0 K2 [] w).sub hK2I.out
  subst he
  obtain ⟨hI', hmg, hl1⟩ := hlaw rfl
  obtain ⟨ids, ms, ⟨⟨x1, x2⟩, x3⟩, ⟨y1, y2⟩, ⟨t1, t2⟩, ⟨g1, g2⟩, g3, g4, g5⟩ := fin_of ho (hx0 rfl) (hy0 rfl) hI' hK2
  dsimp only at x1 x2 x3 y1 y2
  subst x1
  rw [← x2] at t2
  rw [hmg] at g1
  have hrd : ∀ {L L' : List HP} [FindK L StoreR S m' L'], Tr Tryz.prog 18 #[.pointer (some ⟨S, 0, none⟩), .agg #[.int .i64 xo, .int .i64 xn, .slice xs.a xs.n xs.cap]] (SL w0 K2 L) (fun x : SV => .tuple #[.slice x.a x.n x.cap, .int .i64 0]) (fun x => SL w0 K2 (CtsH x ms :: StoreR S m' :: L')) := fun {L L'} _ =>
    runRead_tr (res := some ms) ⟨ho, by omega⟩ x3 hok.lens hI'.txb g3 t1 t2
  have g2' : cn = (ids.length : Int) := by rw [← hU]; exact g2
  repeat' ((fail_if_success (guard_target =~ WPA _ _ _ (.region 25 _ _) _ _ _)); first | ((rw [hU])) | ((rw [hcn])) | ((first | refine WLA.m rfl rfl ?_ ?_ | refine WLA.st rfl ?_ ?_ | refine WLA.x rfl rfl ?_ (fun x => ?_) | refine WLA.x0 rfl ?_ (fun x => ?_)); first | exact trivial | exact rfl | assumption | omega | (refine ⟨?_, ?_⟩ <;> omega) | (simp only [Room, lenS]; omega) | decide | skip) | (refine Stp.go ?_) | (guard_target =~ WLA _ _ _ _ _ (⟨_, .call ⟨.value (.func 15), _, _⟩, _, _, _, _⟩ :: _) _ _; refine WLA.cq rfl rfl (Used_tr) ?_) | (guard_target =~ WLA _ _ _ _ _ (⟨_, .call ⟨.value (.func 17), _, _⟩, _, _, _, _⟩ :: _) _ _; refine WLA.cq rfl rfl (rUsed_tr hrl) ?_) | (guard_target =~ WLA _ _ _ _ _ (⟨_, .call ⟨.value (.func 18), _, _⟩, _, _, _, _⟩ :: _) _ _; refine WLA.call rfl rfl (hrd) ?_; rintro y) | (refine WPA.ifT ?_) | (refine WPA.ifF ?_) | (refine WLA.no rfl rfl ?_) | ((first | refine WPA.dec ?_ | ((fail_if_success (guard_target =~ WLA _ _ _ _ _ _ (put1 _ _ (.bool true)) _)); (fail_if_success (guard_target =~ WLA _ _ _ _ _ _ (put1 _ _ (.bool false)) _)); refine WLA.dec rfl rfl ?_) | refine WLA.pk ?_); first | refine .inl ⟨by first | assumption | omega | with_reducible rfl | (refine fun h => h ?_; first | assumption | with_reducible rfl) | (simp only [lenS] <;> omega) | decide, ?_⟩ | refine .inr ⟨by first | assumption | omega | with_reducible rfl | (refine fun h => h ?_; first | assumption | with_reducible rfl) | (simp only [lenS] <;> omega) | decide, ?_⟩) | ((first | refine WPA.ifBt ?_ ?_ | refine WPA.ifBnf ?_ ?_); assumption) | ((first | refine WPA.ifBnt ?_ ?_ | refine WPA.ifBf ?_ ?_); assumption) | ((first | refine WPA.ifs ?_ ?_ | refine WPA.ifB ?_ ?_) <;> intro hc) | ((fail_if_success (guard_target =~ WLA _ _ _ _ _ _ (put1 _ _ (.bool true)) _)); (fail_if_success (guard_target =~ WLA _ _ _ _ _ _ (put1 _ _ (.bool false)) _)); (first | refine WLA.both rfl rfl ?_ ?_ | refine WLA.bothB rfl rfl ?_ ?_) <;> intro hg))
  refine WPA.ent (EntC.out (L' := CtsH y ms :: StoreR S m' :: Bk X16 44 [.int .i64 xo, .int .i64 xn, .slice xs.a xs.n xs.cap] :: Bk X19 49 [.slice wb.a wb.n wb.cap, .slice wl.a wl.n wl.cap] :: [Bk Q 22 [.int .i64 z, .int .i64 c, .int .i64 xo]])) ?_
  refine WPA.freeze fun R3 hF3 => ?_
  obtain ⟨qs, q1, q2, q3⟩ := (LstI.ofCts hF3).sub (J' := R3 ++ K2) inferInstance
  have x4 : SlI (R3 ++ K2) xs Int inferInstance ids := x3.sub
  have y4 : SlI (R3 ++ K2) wb Int inferInstance ids := y1.sub
  obtain ⟨ds, d1, d2, d3⟩ := y2.sub (J' := R3 ++ K2) inferInstance
  have hsI : SubI (R3 ++ K2) I := ⟨fun z hz => List.mem_append_right _ (hK2I.out hz)⟩
  have hs4 : SlI (R3 ++ K2) s SV inferInstance hs := hsl.sub
  have hgood4 : ∀ h ∈ hs, GoodL (R3 ++ K2) kg tp h := fun h hh => ⟨(hgood h hh).sl.sub, fun p hp => ⟨((hgood h hh).el p hp).1.sub, ((hgood h hh).el p hp).2⟩, (hgood h hh).ris⟩
  clear hF3 x3 y1 y2
  generalize R3 ++ K2 = V at q1 q3 x4 y4 d1 d3 hsI hs4 hgood4
  have hfst := fold_fst (kg := kg) (G := fun g => SlI V g Int inferInstance (kg g)) (ps := hs.flatMap tp) (a := []) (fun p hp => by
    obtain ⟨h, hh, hp⟩ := List.mem_flatMap.1 hp
    exact ((hgood4 h hh).el p hp).1) (by simp)
  have hcell : ((hs.flatMap tp).foldl (putL kg) []).map (ctP kg) = ms := by
    have := fold_cell (kg := kg) (hs.flatMap tp) []
    have e2 : (hs.flatMap tp).map (moP kg) = ls.flatten := hfm
    rw [e2] at this
    have hm : ls.flatten.foldl putM [] = ms := by have := g1; unfold mrg at this; exact this
    exact this.trans hm
  have hrl := fun {L : List HP} => rLists_tr (w0 := w0) (s := s) (L := L) hgood4 (by omega) (by omega)
  generalize (hs.flatMap tp).foldl (putL kg) [] = fo at hfst hcell hrl
  have hfo1 : fo.map Prod.snd = ms.map Prod.snd := by rw [← hcell, List.map_map]; rfl
  have hfo2 : ∀ i : Nat, i < fo.length → SlI V (at_ fo (i : Int)).1 Int inferInstance (ms.getD i ([], 0)).1 := fun i hi => by
    have := hfst (at_ fo (i : Int)) (by rw [at_nat fo i hi]; exact List.getElem_mem _)
    rw [← hcell, List.getD_eq_getElem?_getD, List.getElem?_map, List.getElem?_eq_getElem hi, ← at_nat fo i hi]
    exact this
  have hm9 : ∀ m ∈ ms, m.1.length ≤ 1000000000 := fun m hm => by have := g5 m hm; omega
  have hsA : ∀ {r2 : SV} {L : List HP} [RdS V L r2 Pe inferInstance fo], TrP Tryz.prog 19 #[.slice y.a y.n y.cap, .slice r2.a r2.n r2.cap] (SL w0 V L) (.bool true) := fun {r2 L} _ => by
    have := Same_tr (w0 := w0) (I := V) (L := L) (a := y) (b := r2) (cs := qs) (ds := fo) (ms := ms) (ns := ms) q2 hfo1 (fun i hi => by have := q3 i hi; exact RdS.imm) (fun i hi => by have := hfo2 i hi; exact RdS.imm) hm9 (by omega)
    rw [decide_eq_true rfl] at this
    exact this
  have hsB : ∀ {L : List HP}, TrP Tryz.prog 19 #[.slice y.a y.n y.cap, .slice wl.a wl.n wl.cap] (SL w0 V L) (.bool true) := fun {L} => by
    have := Same_tr (w0 := w0) (I := V) (L := L) (a := y) (b := wl) (cs := qs) (ds := ds) (ms := ms) (ns := ms) q2 d2 (fun i hi => by have := q3 i hi; exact RdS.imm) (fun i hi => by have := d3 i hi; exact RdS.imm) hm9 (by omega)
    rw [decide_eq_true rfl] at this
    exact this
  have hid : decide (ids = ids) = true := decide_eq_true rfl
  have hU2 : m'.used = (ids.length : Int) := g2
  clear hgood hgood4 hlI hG hlp hs4 hfst hcell hfo1 hfo2 hlaid
  repeat' (first | ((rw [hU2])) | ((rw [hid])) | ((first | refine WLA.m rfl rfl ?_ ?_ | refine WDQ.m rfl rfl ?_ ?_ | refine WLA.st rfl ?_ ?_ | refine WLA.x rfl rfl ?_ (fun x => ?_) | refine WLA.x0 rfl ?_ (fun x => ?_)); first | exact trivial | exact rfl | assumption | omega | (refine ⟨?_, ?_⟩ <;> omega) | (simp only [Room, lenS]; omega) | decide | skip) | (refine Stp.go ?_) | (guard_target =~ WLA _ _ _ _ _ (⟨_, .call ⟨.value (.func 20), _, _⟩, _, _, _, _⟩ :: _) _ _; refine WLA.call rfl rfl (hrl) ?_; rintro r2) | (guard_target =~ WLA _ _ _ _ _ (⟨_, .call ⟨.value (.func 19), _, _⟩, _, _, _, _⟩ :: _) _ _; refine WLA.cq rfl rfl (hsB) ?_) | (guard_target =~ WLA _ _ _ _ _ (⟨_, .call ⟨.value (.func 19), _, _⟩, _, _, _, _⟩ :: _) _ _; refine WLA.cq rfl rfl (hsA) ?_) | (guard_target =~ WLA _ _ _ _ _ (⟨_, .call ⟨.value (.func 21), _, _⟩, _, _, _, _⟩ :: _) _ _; refine WLA.cq rfl rfl (Ints_tr (by omega)) ?_) | (guard_target =~ WLA _ _ _ _ _ (⟨_, .call ⟨.value (.func 15), _, _⟩, _, _, _, _⟩ :: _) _ _; refine WLA.cq rfl rfl (Used_tr) ?_) | (guard_target =~ WLA _ _ _ _ _ (⟨_, .call ⟨.value (.func 9), _, _⟩, _, _, _, _⟩ :: _) _ _; refine WLA.call rfl rfl (live_tr21 _ _ _) ?_; rintro ⟨⟩) | (refine WPA.ifT ?_) | (refine WPA.ifF ?_) | (refine WLA.no rfl rfl ?_) | (refine WDQ.no rfl rfl ?_) | ((first | refine WPA.dec ?_ | ((fail_if_success (guard_target =~ WLA _ _ _ _ _ _ (put1 _ _ (.bool true)) _)); (fail_if_success (guard_target =~ WLA _ _ _ _ _ _ (put1 _ _ (.bool false)) _)); refine WLA.dec rfl rfl ?_) | refine WLA.pk ?_ | refine WDQ.dec rfl rfl ?_); first | refine .inl ⟨by first | assumption | omega | with_reducible rfl | (refine fun h => h ?_; first | assumption | with_reducible rfl) | (simp only [lenS] <;> omega) | decide, ?_⟩ | refine .inr ⟨by first | assumption | omega | with_reducible rfl | (refine fun h => h ?_; first | assumption | with_reducible rfl) | (simp only [lenS] <;> omega) | decide, ?_⟩) | ((first | refine WPA.ifBt ?_ ?_ | refine WPA.ifBnf ?_ ?_); assumption) | ((first | refine WPA.ifBnt ?_ ?_ | refine WPA.ifBf ?_ ?_); assumption) | ((first | refine WPA.ifs ?_ ?_ | refine WPA.ifB ?_ ?_) <;> intro hc) | ((fail_if_success (guard_target =~ WLA _ _ _ _ _ _ (put1 _ _ (.bool true)) _)); (fail_if_success (guard_target =~ WLA _ _ _ _ _ _ (put1 _ _ (.bool false)) _)); (first | refine WLA.both rfl rfl ?_ ?_ | refine WLA.bothB rfl rfl ?_ ?_) <;> intro hg) | (guard_target =~ WPA _ _ _ (.region 25 _ true) _ _ _; refine WPA.drawT 34 (.q 0 (.q 1 (.q 2 (.q 3 (.q 4 (.e 5 (.q 6 (.q 7 (.q 8 (.q 9 (.q 10 (.q 11 (.q 12 (.q 13 (.q 14 (.q 15 (.q 16 (.q 17 (.q 18 (.q 19 (.q 20 (.q 21 (.q 22 (.q 23 (.q 24 (.q 25 (.q 26 (.q 27 (.q 28 (.q 29 (.q 30 (.q 31 (.q 32 (.q 33 .fin)))))))))))))))))))))))))))))))))) mixed ?_ ?_; kernel_rfl) | (refine WDA.finish (tl := [⟨_, _, _, _, _, _⟩, ⟨_, _, _, _, _, _⟩, ⟨_, _, _, _, _, _⟩, ⟨_, _, _, _, _, _⟩, ⟨_, _, _, _, _, _⟩, ⟨_, _, _, _, _, _⟩]) rfl ?_) | (refine WDQ.see rfl ?_) | (refine WDE.see rfl ?_) | (refine WDE.alloc rfl rfl (fun w h => h) (fun x => ?_)) | (refine WDE.stE rfl ?_) | (refine WDE.x rfl rfl ?_ ?_ (fun x => ?_); rotate_left 1; (intro x w h; first | exact h | exact Ent.drop1.sl h | exact SL.unI h | exact SL.to h); rotate_left 1; first | exact trivial | exact rfl | assumption | omega | (refine ⟨?_, ?_⟩ <;> omega) | (simp only [Room, lenS]; omega) | decide | skip) | (guard_target =~ WDE _ _ _ _ _ _ _ ⟨_, .call ⟨.value (.func 20), _, _⟩, _, _, _, _⟩ _ _ _; refine WDE.call rfl rfl (hrl) ?_ ?_; (intro x w h; first | exact h | exact Ent.drop1.sl h | exact SL.unI h | exact SL.to h); rintro r2) | (guard_target =~ WDW _ _ _ _ _ _ _ ⟨_, .call ⟨.value (.func 20), _, _⟩, _, _, _, _⟩ _ _ _; refine WDW.call rfl rfl (hrl) ?_; rintro r2) | (guard_target =~ WDQ _ _ _ _ _ _ _ ⟨_, .call ⟨.value (.func 19), _, _⟩, _, _, _, _⟩ _ _ _; refine WDQ.cq rfl rfl (hsB) ?_) | (guard_target =~ WDQ _ _ _ _ _ _ _ ⟨_, .call ⟨.value (.func 19), _, _⟩, _, _, _, _⟩ _ _ _; refine WDQ.cq rfl rfl (hsA) ?_) | (guard_target =~ WDQ _ _ _ _ _ _ _ ⟨_, .call ⟨.value (.func 21), _, _⟩, _, _, _, _⟩ _ _ _; refine WDQ.cq rfl rfl (Ints_tr (by omega)) ?_) | (guard_target =~ WDQ _ _ _ _ _ _ _ ⟨_, .call ⟨.value (.func 15), _, _⟩, _, _, _, _⟩ _ _ _; refine WDQ.cq rfl rfl (Used_tr) ?_) | (guard_target =~ WDE _ _ _ _ _ _ _ ⟨_, .call ⟨.value (.func 9), _, _⟩, _, _, _, _⟩ _ _ _; refine WDE.call rfl rfl (live_tr21 _ _ _) ?_ ?_; (intro x w h; first | exact h | exact Ent.drop1.sl h | exact SL.unI h | exact SL.to h); rintro ⟨⟩) | (guard_target =~ WDW _ _ _ _ _ _ _ ⟨_, .call ⟨.value (.func 9), _, _⟩, _, _, _, _⟩ _ _ _; refine WDW.call rfl rfl (live_tr21 _ _ _) ?_; rintro ⟨⟩) | ((first | refine WDQ.both rfl rfl ?_ ?_) <;> intro hg))
  all_goals exact QQ.end_ rfl () rfl fun w h => (h.to : SL w0 V [] w).sub hsI.out
theorem MergeRuns_law (W : World) (x : Int × Int × Int) (h : gInt W x.1 ∧ gInt W x.2.1 ∧ gInt W x.2.2) (s : SV) (h2 : gSl (gSl (gPair (gSl gInt 8) gInt) 32) 24 W s) (k : Int) (h3 : gInt W k) : Calls Tryz.prog 3 #[.agg #[.int .i64 x.1, .int .i64 x.2.1, .int .i64 x.2.2], .slice s.a s.n s.cap, .int .i64 k] W fun e w' => e = .returned (.bool true) ∧ Below W.heap.size W w' := by
  obtain ⟨hs, h1, h2, _⟩ := h2
  haveI := SlI.all h1
  refine Calls.below (MergeRuns_tr (kg := Go.Fw.rd Int (allB W)) (tp := Go.Fw.rd Pe (allB W)) (fun g hg => ?_) h3.2)
  obtain ⟨ps, k1, k2, k3⟩ := h2 g hg
  have j1 := SlI.all k1
  have e : Go.Fw.rd Pe (allB W) g = ps := j1.rd.det j1 (SL.all W)
  refine ⟨j1.rd, fun p hp => ?_⟩
  rw [e] at hp
  obtain ⟨xs, m1, m2, m3⟩ := (k2 p hp).1
  exact (SlI.all m1).rd
end
end Go.Proofs.YtamnobjdgjbmbaaGreat
