/- Texts that MergeRefuses_law leans on, part 16. Conditions: none. -/
import Derived.Test.YtamnobjdgjbmbaaGreatQn15
namespace Go.Proofs.YtamnobjdgjbmbaaGreat
open Go Go.Fw Go.RowKit
set_option linter.unusedVariables false
set_option linter.unusedSimpArgs false
set_option maxRecDepth 100000
set_option maxHeartbeats 16000000
set_option synthInstance.maxHeartbeats 200000
set_option synthInstance.maxSize 100000
attribute [local irreducible] WPA WLA WDA WDQ WDE QQ seqQ blockQ loopQ fnQ OpP OpT Tr TrP SL SLd OwnS LitS Bk BkE Ob
attribute [local irreducible] vS keyS parL RowH CtsH
theorem u8_wf' {z : Int} (h : (Lit.int .u8 z).wf = true) : 0 ≤ z ∧ z ≤ 255 := by
  simp [Lit.wf, IntKind.min, IntKind.max, IntKind.bits, IntKind.signed] at h
  omega
theorem blk20 : ∀ {ls : List (List Ct)}, (∀ ms ∈ ls, (byS ms).size ≤ 680) → blkS 20 ls ≤ 34 * (ls.length : Nat)
  | [], _ => Int.le_refl 0
  | ms :: ls, h => by
    have h1 := blk20 (ls := ls) fun x hx => h x (List.mem_cons_of_mem _ hx)
    have h2 := h ms (List.mem_cons_self ..)
    have h3 : blkN 20 (byS ms).size ≤ 34 := by unfold blkN; omega
    have e : blkS 20 (ms :: ls) = blkN 20 (byS ms).size + blkS 20 ls := rfl
    rw [e, List.length_cons]
    omega
theorem byS_34' {o : Int} {ms : List Ct} (h : wrong o ms = 0) (hl : ms.length ≤ 20) : (byS ms).size ≤ 680 := by
  have : ∀ (n : Nat) {ms : List Ct}, ms.length = n → (∀ m ∈ ms, m.1.length ≤ 8 ∧ m.2 ≤ 1099511627776) → (byS ms).size ≤ 34 * n := by
    intro n
    induction n with
    | zero => intro ms h _; rw [List.eq_nil_of_length_eq_zero h]; exact Nat.le_refl 0
    | succ n ih =>
      intro ms h hm
      have hne : ms ≠ [] := by intro e; rw [e] at h; simp at h
      have e : ms = ms.dropLast ++ [ms.getLast hne] := (List.dropLast_concat_getLast hne).symm
      have ih := ih (ms := ms.dropLast) (by rw [List.length_dropLast, h]; rfl) fun m h => hm m (List.dropLast_subset ms h)
      obtain ⟨h1, h2⟩ := hm _ (List.getLast_mem hne)
      have hv := vS_size (n := (ms.getLast hne).2.toNat) (by omega)
      have hk := keyS_size (ms.getLast hne).1
      rw [e, byS_snoc, ByteArray.size_append, ByteArray.size_append]; omega
  have := this ms.length rfl fun m hm => ⟨wrong_len8 h m hm, (wrong_good h m hm).2.2.2⟩
  omega
structure WW where
  i : Nat
  J : Foot
  m : BS
  out : SV
  oes : List RE
  lp : List PR
theorem tk_app {es : List RE} {x : RE} {i : Nat} (h : i < es.length) : at_ (es ++ [x]) (i : Int) = at_ es (i : Int) := by
  rw [at_nat _ i (by rw [List.length_append]; omega), at_nat _ i h, List.getElem_append_left h]
theorem tk_last {es : List RE} {x : RE} : at_ (es ++ [x]) (es.length : Int) = x := by
  rw [at_nat _ es.length (by rw [List.length_append]; simp)]; simp
theorem getD_app {l : List (List Int)} {x : List Int} {i : Nat} (h : i < l.length) : (l ++ [x]).getD i [] = l.getD i [] := by
  rw [List.getD_eq_getElem?_getD, List.getD_eq_getElem?_getD, List.getElem?_append_left h]
theorem getD_last {l : List (List Int)} {x : List Int} : (l ++ [x]).getD l.length [] = x := by
  rw [List.getD_eq_getElem?_getD, List.getElem?_append_right (Nat.le_refl _), Nat.sub_self]; rfl
section
variable {L L' : List HP} {w0 : World} {I : Foot} {S : Nat}
theorem Runs_badO {m : BS} {o f e : Int} {s : SV} {es : List RE} {t : TypeId} {L1 L2 : List HP} [h : FindOwn L s t RE inferInstance es L1] [h2 : FindK L1 StoreR S m L2] (he : e ≠ 0) (hck : ∀ (J : Foot), SubI J I → SlI J s RE inferInstance es → ∀ {L L' : List HP} [FindK L StoreR S m L'], Tr Tryz.prog 42 #[.pointer (some ⟨S, 0, none⟩), .int .i64 o, .slice s.a s.n s.cap, .int .i64 f] (SL w0 J L) (fun _ : Unit => .int .i64 e) (fun _ => SL w0 J (StoreR S m :: L'))) :
    Tr Tryz.prog 14 #[.pointer (some ⟨S, 0, none⟩), .int .i64 o, .slice s.a s.n s.cap, .int .i64 f] (SL w0 I L) (fun _ : Unit => .tuple #[.agg #[.int .i64 0, .int .i64 0, .slice none 0 0], .int .i64 0, .int .i64 e]) (fun _ => SL w0 I (OwnS t s es :: StoreR S m :: L2)) := by
  refine Tr.at (h.out.trans (Ent.cons h2.out)) (Tr.mk fun w hw => ?_)
  obtain ⟨R, hR, h3, h4⟩ := hw.borrow
  have hs : SlI (R ++ I) s RE inferInstance es := by have := SlI.ofOwn hR; exact SlI.left
  have := (Runs_bad (w0 := w0) (I := R ++ I) (S := S) (m := m) (L := StoreR S m :: L2) he (fun {L L'} _ => hck (R ++ I) inferInstance hs)).ap h3
  exact this.mono fun e w' ⟨x, h5, h6⟩ => ⟨x, h5, h4 _ _ h6⟩
theorem check_more {J : Foot} {m : BS} {o e : Int} {f : Int} {s : SV} {es : List RE} {l : List PR} {x : RE} {xi : List Int} [h : FindK L StoreR S m L'] (ho : (1 ≤ o ∧ o ≤ 8) ∧ 2 ≤ f) (hs : SlI J s RE inferInstance (es ++ [x])) (hR : Rows (PRunI J o) es l) (hI : RInv o m l) (hn : l.length ≤ 1000) (hx : SlI J x.2.2 Int inferInstance xi) (hxl : xi.length ≤ 1000000)
    (he : (¬ (x.1 = o ∧ ((l.map Prod.fst) ++ [xi]).flatten.Nodup) ∧ e = 1) ∨ (x = (o, 1, SV.nil) ∧ xi = [] ∧ e = 3)) :
    Tr Tryz.prog 42 #[.pointer (some ⟨S, 0, none⟩), .int .i64 o, .slice s.a s.n s.cap, .int .i64 f] (SL w0 J L) (fun _ : Unit => .int .i64 e) (fun _ => SL w0 J (StoreR S m :: L')) := by
  have hl := hR.1
  have hml : (l.map Prod.fst).length = es.length := by rw [List.length_map]; exact hl.symm
  have hg : ∀ i : Nat, i < es.length → (l.map Prod.fst).getD i [] = (l.getD i ([], [])).1 := fun i hi => by
    rw [List.getD_eq_getElem?_getD, List.getElem?_map, List.getElem?_eq_getElem (by omega), List.getD_eq_getElem?_getD, List.getElem?_eq_getElem (by omega)]; rfl
  have hmem : ∀ i : Nat, i < es.length → l.getD i ([], []) ∈ l := fun i hi => by
    rw [List.getD_eq_getElem?_getD, List.getElem?_eq_getElem (by omega)]; exact List.getElem_mem _
  have hlen : (es ++ [x]).length = es.length + 1 := by rw [List.length_append]; rfl
  have hlast : at_ (es ++ [x]) (es.length : Int) = x := tk_last
  refine mck_tr (ids := l.map Prod.fst ++ [xi]) ho hs (by rw [hlen, List.length_append, hml]; rfl) (fun i hi => ?_) (by rw [hlen]; omega) (fun y hy => ?_) ?_
  · rw [hlen] at hi
    by_cases e1 : i < es.length
    · rw [tk_app e1, getD_app (by omega), hg i e1]; exact (hR.2 i (by omega)).2
    · have e2 : i = es.length := by omega
      subst e2
      rw [hlast, ← hml, getD_last]; exact hx
  · rcases List.mem_append.1 hy with hy | hy
    · obtain ⟨r, hr, rfl⟩ := List.mem_map.1 hy; exact hI.idl r hr
    · rw [List.mem_singleton.1 hy]; exact hxl
  · rcases he with ⟨hn1, he⟩ | ⟨rfl, rfl, rfl⟩
    · refine .inl ⟨fun hA => hn1 ⟨?_, hA.2⟩, he⟩
      have := hA.1 es.length (by rw [hlen]; omega)
      rw [hlast] at this
      exact this
    · obtain ⟨T, hT1, hT2⟩ : ∃ T : Nat → ByteArray, (∀ i, i < es.length → T i = byS (l.getD i ([], [])).2) ∧ T es.length = ⟨#[]⟩ := ⟨fun i => if i < es.length then byS (l.getD i ([], [])).2 else ⟨#[]⟩, fun i hi => if_pos hi, if_neg (Nat.lt_irrefl _)⟩
      refine .inr ⟨⟨fun i hi => ?_, ?_⟩, ⟨hI.ok.lens, hI.txb⟩, T, fun i hi => ?_, ?_⟩
      · rw [hlen] at hi
        by_cases e1 : i < es.length
        · rw [tk_app e1]; exact (hR.2 i (by omega)).1.1
        · have e2 : i = es.length := by omega
          subst e2
          rw [hlast]
      · rw [List.flatten_append, List.flatten_singleton, List.append_nil, ← List.flatMap_def]; exact hI.nodup
      · rw [hlen] at hi
        by_cases e1 : i < es.length
        · rw [tk_app e1, getD_app (by omega), hg i e1, hT1 i e1]
          exact ⟨by have := (hR.2 i (by omega)).1.2; omega, hI.text (hmem i e1)⟩
        · have e2 : i = es.length := by omega
          subst e2
          rw [hlast, hT2, ← hml, getD_last]
          exact ⟨by show (0 : Int) ≤ 1; decide, rfl⟩
      · have h0 : ∀ n, n ≤ es.length → fstN (fun i => rdE (readS o (at_ (es ++ [(o, 1, SV.nil)]) (i : Int)).2.1 (T i))) n = 0 := by
          intro n
          induction n with
          | zero => intro _; rfl
          | succ n ih =>
            intro hn
            rw [fstN_succ (ih (by omega)), tk_app (by omega), hT1 n (by omega), (hR.2 n (by omega)).1.2, hI.back (hmem n (by omega))]; rfl
        rw [hlen, fstN_succ (h0 _ (Nat.le_refl _)), hlast, hT2, readS_long ho.1.1 (by show (0 : Int) < 1; decide)]; rfl
end
section
variable {w0 : World} {I : Foot} {kg : SV → List Int} {tp : SV → List Pe}
theorem MergeRefuses_tr {s : SV} {hs : List SV} {o v : Int} [hsl : SlI I s SV inferInstance hs] (hG : ∀ h ∈ hs, RawL I kg tp h) (hv : 0 ≤ v ∧ v ≤ 255) :
    Tr Tryz.prog 4 #[.int .i64 o, .slice s.a s.n s.cap, .int .u8 v] (SL w0 I []) (fun _ : Unit => .bool true) (fun _ => SL w0 I []) := by
  refine Tr.intro Tryz.func4 rfl Tryz.ntmps4 rfl ?_
  have hbt : (!true) = false := rfl
  have hbf : (!false) = true := rfl
  have hsm0 := fun {L : List HP} => small_tr (w0 := w0) (I := I) (L := L) (s := s) hG
  by_cases hsm : hs.length ≤ 12 ∧ ∀ h ∈ hs, SmallP kg tp h
  case neg =>
    rw [decide_eq_false hsm] at hsm0
    repeat' (first | ((rw [hbf])) | ((first | refine WLA.m rfl rfl ?_ ?_ | refine WLA.st rfl ?_ ?_ | refine WLA.x rfl rfl ?_ (fun x => ?_) | refine WLA.x0 rfl ?_ (fun x => ?_)); first | exact trivial | exact rfl | assumption | omega | (refine ⟨?_, ?_⟩ <;> omega) | (simp only [Room, lenS]; omega) | decide | skip) | (refine Stp.go ?_) | (guard_target =~ WLA _ _ _ _ _ (⟨_, .call ⟨.value (.func 8), _, _⟩, _, _, _, _⟩ :: _) _ _; refine WLA.cq rfl rfl (hsm0) ?_) | (guard_target =~ WLA _ _ _ _ _ (⟨_, .call ⟨.value (.func 9), _, _⟩, _, _, _, _⟩ :: _) _ _; refine WLA.call rfl rfl (live_tr21 _ _ _) ?_; rintro ⟨⟩) | (refine WPA.ifT ?_) | (refine WPA.ifF ?_) | (refine WLA.no rfl rfl ?_) | ((first | refine WPA.dec ?_ | ((fail_if_success (guard_target =~ WLA _ _ _ _ _ _ (put1 _ _ (.bool true)) _)); (fail_if_success (guard_target =~ WLA _ _ _ _ _ _ (put1 _ _ (.bool false)) _)); refine WLA.dec rfl rfl ?_) | refine WLA.pk ?_); first | refine .inl ⟨by first | assumption | omega | with_reducible rfl | (refine fun h => h ?_; first | assumption | with_reducible rfl) | (simp only [lenS] <;> omega) | decide, ?_⟩ | refine .inr ⟨by first | assumption | omega | with_reducible rfl | (refine fun h => h ?_; first | assumption | with_reducible rfl) | (simp only [lenS] <;> omega) | decide, ?_⟩) | ((first | refine WPA.ifBt ?_ ?_ | refine WPA.ifBnf ?_ ?_); assumption) | ((first | refine WPA.ifBnt ?_ ?_ | refine WPA.ifBf ?_ ?_); assumption) | ((first | refine WPA.ifs ?_ ?_ | refine WPA.ifB ?_ ?_) <;> intro hc) | ((fail_if_success (guard_target =~ WLA _ _ _ _ _ _ (put1 _ _ (.bool true)) _)); (fail_if_success (guard_target =~ WLA _ _ _ _ _ _ (put1 _ _ (.bool false)) _)); (first | refine WLA.both rfl rfl ?_ ?_ | refine WLA.bothB rfl rfl ?_ ?_) <;> intro hg))
    exact QQ.end_ rfl () rfl fun w h => h.to
  rw [decide_eq_true hsm] at hsm0
  by_cases h4 : (4 : Int) < hs.length
  · skip
    repeat' (first | ((rw [hbt])) | ((first | refine WLA.m rfl rfl ?_ ?_ | refine WLA.st rfl ?_ ?_ | refine WLA.x rfl rfl ?_ (fun x => ?_) | refine WLA.x0 rfl ?_ (fun x => ?_)); first | exact trivial | exact rfl | assumption | omega | (refine ⟨?_, ?_⟩ <;> omega) | (simp only [Room, lenS]; omega) | decide | skip) | (refine Stp.go ?_) | (guard_target =~ WLA _ _ _ _ _ (⟨_, .call ⟨.value (.func 8), _, _⟩, _, _, _, _⟩ :: _) _ _; refine WLA.cq rfl rfl (hsm0) ?_) | (guard_target =~ WLA _ _ _ _ _ (⟨_, .call ⟨.value (.func 9), _, _⟩, _, _, _, _⟩ :: _) _ _; refine WLA.call rfl rfl (live_tr21 _ _ _) ?_; rintro ⟨⟩) | (refine WPA.ifT ?_) | (refine WPA.ifF ?_) | (refine WLA.no rfl rfl ?_) | ((first | refine WPA.dec ?_ | ((fail_if_success (guard_target =~ WLA _ _ _ _ _ _ (put1 _ _ (.bool true)) _)); (fail_if_success (guard_target =~ WLA _ _ _ _ _ _ (put1 _ _ (.bool false)) _)); refine WLA.dec rfl rfl ?_) | refine WLA.pk ?_); first | refine .inl ⟨by first | assumption | omega | with_reducible rfl | (refine fun h => h ?_; first | assumption | with_reducible rfl) | (simp only [lenS] <;> omega) | decide, ?_⟩ | refine .inr ⟨by first | assumption | omega | with_reducible rfl | (refine fun h => h ?_; first | assumption | with_reducible rfl) | (simp only [lenS] <;> omega) | decide, ?_⟩) | ((first | refine WPA.ifBt ?_ ?_ | refine WPA.ifBnf ?_ ?_); assumption) | ((first | refine WPA.ifBnt ?_ ?_ | refine WPA.ifBf ?_ ?_); assumption) | ((first | refine WPA.ifs ?_ ?_ | refine WPA.ifB ?_ ?_) <;> intro hc) | ((fail_if_success (guard_target =~ WLA _ _ _ _ _ _ (put1 _ _ (.bool true)) _)); (fail_if_success (guard_target =~ WLA _ _ _ _ _ _ (put1 _ _ (.bool false)) _)); (first | refine WLA.both rfl rfl ?_ ?_ | refine WLA.bothB rfl rfl ?_ ?_) <;> intro hg))
    exact QQ.end_ rfl () rfl fun w h => h.to
  by_cases o1 : o < 1
  · skip
    repeat' (first | ((rw [hbt])) | ((first | refine WLA.m rfl rfl ?_ ?_ | refine WLA.st rfl ?_ ?_ | refine WLA.x rfl rfl ?_ (fun x => ?_) | refine WLA.x0 rfl ?_ (fun x => ?_)); first | exact trivial | exact rfl | assumption | omega | (refine ⟨?_, ?_⟩ <;> omega) | (simp only [Room, lenS]; omega) | decide | skip) | (refine Stp.go ?_) | (guard_target =~ WLA _ _ _ _ _ (⟨_, .call ⟨.value (.func 8), _, _⟩, _, _, _, _⟩ :: _) _ _; refine WLA.cq rfl rfl (hsm0) ?_) | (guard_target =~ WLA _ _ _ _ _ (⟨_, .call ⟨.value (.func 9), _, _⟩, _, _, _, _⟩ :: _) _ _; refine WLA.call rfl rfl (live_tr21 _ _ _) ?_; rintro ⟨⟩) | (refine WPA.ifT ?_) | (refine WPA.ifF ?_) | (refine WLA.no rfl rfl ?_) | ((first | refine WPA.dec ?_ | ((fail_if_success (guard_target =~ WLA _ _ _ _ _ _ (put1 _ _ (.bool true)) _)); (fail_if_success (guard_target =~ WLA _ _ _ _ _ _ (put1 _ _ (.bool false)) _)); refine WLA.dec rfl rfl ?_) | refine WLA.pk ?_); first | refine .inl ⟨by first | assumption | omega | with_reducible rfl | (refine fun h => h ?_; first | assumption | with_reducible rfl) | (simp only [lenS] <;> omega) | decide, ?_⟩ | refine .inr ⟨by first | assumption | omega | with_reducible rfl | (refine fun h => h ?_; first | assumption | with_reducible rfl) | (simp only [lenS] <;> omega) | decide, ?_⟩) | ((first | refine WPA.ifBt ?_ ?_ | refine WPA.ifBnf ?_ ?_); assumption) | ((first | refine WPA.ifBnt ?_ ?_ | refine WPA.ifBf ?_ ?_); assumption) | ((first | refine WPA.ifs ?_ ?_ | refine WPA.ifB ?_ ?_) <;> intro hc) | ((fail_if_success (guard_target =~ WLA _ _ _ _ _ _ (put1 _ _ (.bool true)) _)); (fail_if_success (guard_target =~ WLA _ _ _ _ _ _ (put1 _ _ (.bool false)) _)); (first | refine WLA.both rfl rfl ?_ ?_ | refine WLA.bothB rfl rfl ?_ ?_) <;> intro hg))
    exact QQ.end_ rfl () rfl fun w h => h.to
  by_cases o2 : 8 < o
  · skip
    repeat' (first | ((rw [hbt])) | ((first | refine WLA.m rfl rfl ?_ ?_ | refine WLA.st rfl ?_ ?_ | refine WLA.x rfl rfl ?_ (fun x => ?_) | refine WLA.x0 rfl ?_ (fun x => ?_)); first | exact trivial | exact rfl | assumption | omega | (refine ⟨?_, ?_⟩ <;> omega) | (simp only [Room, lenS]; omega) | decide | skip) | (refine Stp.go ?_) | (guard_target =~ WLA _ _ _ _ _ (⟨_, .call ⟨.value (.func 8), _, _⟩, _, _, _, _⟩ :: _) _ _; refine WLA.cq rfl rfl (hsm0) ?_) | (guard_target =~ WLA _ _ _ _ _ (⟨_, .call ⟨.value (.func 9), _, _⟩, _, _, _, _⟩ :: _) _ _; refine WLA.call rfl rfl (live_tr21 _ _ _) ?_; rintro ⟨⟩) | (refine WPA.ifT ?_) | (refine WPA.ifF ?_) | (refine WLA.no rfl rfl ?_) | ((first | refine WPA.dec ?_ | ((fail_if_success (guard_target =~ WLA _ _ _ _ _ _ (put1 _ _ (.bool true)) _)); (fail_if_success (guard_target =~ WLA _ _ _ _ _ _ (put1 _ _ (.bool false)) _)); refine WLA.dec rfl rfl ?_) | refine WLA.pk ?_); first | refine .inl ⟨by first | assumption | omega | with_reducible rfl | (refine fun h => h ?_; first | assumption | with_reducible rfl) | (simp only [lenS] <;> omega) | decide, ?_⟩ | refine .inr ⟨by first | assumption | omega | with_reducible rfl | (refine fun h => h ?_; first | assumption | with_reducible rfl) | (simp only [lenS] <;> omega) | decide, ?_⟩) | ((first | refine WPA.ifBt ?_ ?_ | refine WPA.ifBnf ?_ ?_); assumption) | ((first | refine WPA.ifBnt ?_ ?_ | refine WPA.ifBf ?_ ?_); assumption) | ((first | refine WPA.ifs ?_ ?_ | refine WPA.ifB ?_ ?_) <;> intro hc) | ((fail_if_success (guard_target =~ WLA _ _ _ _ _ _ (put1 _ _ (.bool true)) _)); (fail_if_success (guard_target =~ WLA _ _ _ _ _ _ (put1 _ _ (.bool false)) _)); (first | refine WLA.both rfl rfl ?_ ?_ | refine WLA.bothB rfl rfl ?_ ?_) <;> intro hg))
    exact QQ.end_ rfl () rfl fun w h => h.to
  obtain ⟨ls, hls⟩ : ∃ ls, ls = hs.map fun h => (tp h).map (ctP kg) := ⟨_, rfl⟩
  have hll : hs.length = ls.length := by rw [hls, List.length_map]
  have hlI : LsI I hs ls := ⟨hll, fun j hj => by
    rw [hls, List.getD_eq_getElem?_getD, List.getElem?_map, List.getElem?_eq_getElem (by omega), at_nat hs j (by omega)]
    have := hG _ (List.getElem_mem (show j < hs.length by omega))
    exact LstI.ofMap this.sl this.el⟩
  have hlp : ∀ ms ∈ ls, ms.length ≤ 20 ∧ (∀ m ∈ ms, m.1.length ≤ 8) ∧ Ris id ms := fun ms hms => by
    rw [hls] at hms
    obtain ⟨h, hh, rfl⟩ := List.mem_map.1 hms
    obtain ⟨⟨q1, q2⟩, q3⟩ := hsm.2 h hh
    refine ⟨by rw [List.length_map]; exact q1, fun m hm => ?_, ?_⟩
    · obtain ⟨p, hp, rfl⟩ := List.mem_map.1 hm; exact q2 p hp
    · unfold Ris at q3 ⊢; rw [List.pairwise_map]; exact q3
  have hfl : ls.flatten.length ≤ 20 * ls.length := by
    have : ∀ (l : List (List Ct)), (∀ ms ∈ l, ms.length ≤ 20) → l.flatten.length ≤ 20 * l.length := by
      intro l
      induction l with
      | nil => intro _; exact Nat.le_refl _
      | cons a l ih =>
        intro h
        have h1 := ih fun x hx => h x (List.mem_cons_of_mem _ hx)
        have h2 := h a (List.mem_cons_self ..)
        rw [List.flatten_cons, List.length_append, List.length_cons]; omega
    exact this ls fun ms hms => (hlp ms hms).1
  have hl4 : ls.length ≤ 4 := by omega
  clear hls hG
  have ho : 1 ≤ o ∧ o ≤ 8 := by omega
  repeat' (first | ((rw [hbt])) | ((first | refine WLA.m rfl rfl ?_ ?_ | refine WLA.st rfl ?_ ?_ | refine WLA.x rfl rfl ?_ (fun x => ?_) | refine WLA.x0 rfl ?_ (fun x => ?_)); first | exact trivial | exact rfl | assumption | omega | (refine ⟨?_, ?_⟩ <;> omega) | (simp only [Room, lenS]; omega) | decide | skip) | (refine Stp.go ?_) | (guard_target =~ WLA _ _ _ _ _ (⟨_, .call ⟨.value (.func 8), _, _⟩, _, _, _, _⟩ :: _) _ _; refine WLA.cq rfl rfl (hsm0) ?_) | (refine WPA.ifT ?_) | (refine WPA.ifF ?_) | (refine WLA.no rfl rfl ?_) | ((first | refine WPA.dec ?_ | ((fail_if_success (guard_target =~ WLA _ _ _ _ _ _ (put1 _ _ (.bool true)) _)); (fail_if_success (guard_target =~ WLA _ _ _ _ _ _ (put1 _ _ (.bool false)) _)); refine WLA.dec rfl rfl ?_) | refine WLA.pk ?_); first | refine .inl ⟨by first | assumption | omega | with_reducible rfl | (refine fun h => h ?_; first | assumption | with_reducible rfl) | (simp only [lenS] <;> omega) | decide, ?_⟩ | refine .inr ⟨by first | assumption | omega | with_reducible rfl | (refine fun h => h ?_; first | assumption | with_reducible rfl) | (simp only [lenS] <;> omega) | decide, ?_⟩) | ((first | refine WPA.ifBt ?_ ?_ | refine WPA.ifBnf ?_ ?_); assumption) | ((first | refine WPA.ifBnt ?_ ?_ | refine WPA.ifBf ?_ ?_); assumption) | ((first | refine WPA.ifs ?_ ?_ | refine WPA.ifB ?_ ?_) <;> intro hc) | ((fail_if_success (guard_target =~ WLA _ _ _ _ _ _ (put1 _ _ (.bool true)) _)); (fail_if_success (guard_target =~ WLA _ _ _ _ _ _ (put1 _ _ (.bool false)) _)); (first | refine WLA.both rfl rfl ?_ ?_ | refine WLA.bothB rfl rfl ?_ ?_) <;> intro hg))
  refine WPA.loopS (σ := Nat) (fun i => [(0, .int .i64 o), (1, .slice s.a s.n s.cap), (2, .int .u8 v), (7, .int .i64 i)]) (fun i => i ≤ ls.length ∧ ∀ j : Nat, j < i → wrong o (ls.getD j []) = 0)
    (fun i => SL w0 I []) (fun i => ls.length - i) 0 ⟨rfl, rfl, rfl, rfl, trivial⟩ ⟨Nat.zero_le _, fun j hj => absurd hj (Nat.not_lt_zero j)⟩ (fun w h => h.to) ?_
  rintro i ρ ⟨hi, hwj⟩
  by_cases hlt : i < ls.length
  · have hlt' : (i : Int) < hs.length := by omega
    have hir : (0 : Int) ≤ i ∧ (i : Int) < hs.length := by omega
    have hvI := hlI.2 i hlt
    have hmi : ls.getD i [] ∈ ls := by rw [List.getD_eq_getElem?_getD, List.getElem?_eq_getElem hlt]; exact List.getElem_mem _
    have hpi := hlp _ hmi
    have hnx : wrong o (ls.getD i []) = 0 → ∀ j : Nat, j < i + 1 → wrong o (ls.getD j []) = 0 := fun h0 j hj => by
      by_cases e : j = i
      · subst e; exact h0
      · exact hwj j (by omega)
    obtain ⟨u, hvq⟩ : ∃ u, at_ hs (i : Int) = u := ⟨_, rfl⟩
    rw [hvq] at hvI
    generalize hms : ls.getD i [] = ms at hvI hpi hnx
    have hm6 : ∀ m ∈ ms, m.1.length ≤ 1000000 := fun m hm => by have := hpi.2.1 m hm; omega
    have hwt := fun {L : List HP} => Wrong_trI (w0 := w0) (L := L) (o := o) hvI hm6 (by omega)
    by_cases hw : wrong o ms = 0
    case neg =>
      generalize wrong o ms = e at hw hwt
      repeat' (first | ((rw [hvq])) | ((first | refine WLA.m rfl rfl ?_ ?_ | refine WLA.st rfl ?_ ?_ | refine WLA.x rfl rfl ?_ (fun x => ?_) | refine WLA.x0 rfl ?_ (fun x => ?_)); first | exact trivial | exact rfl | assumption | omega | (refine ⟨?_, ?_⟩ <;> omega) | (simp only [Room, lenS]; omega) | decide | skip) | (refine Stp.go ?_) | (guard_target =~ WLA _ _ _ _ _ (⟨_, .call ⟨.value (.func 10), _, _⟩, _, _, _, _⟩ :: _) _ _; refine WLA.call rfl rfl (hwt) ?_; rintro ⟨⟩) | (guard_target =~ WLA _ _ _ _ _ (⟨_, .call ⟨.value (.func 9), _, _⟩, _, _, _, _⟩ :: _) _ _; refine WLA.call rfl rfl (live_tr21 _ _ _) ?_; rintro ⟨⟩) | (refine WPA.ifT ?_) | (refine WPA.ifF ?_) | ((first | refine WPA.dec ?_); first | refine .inl ⟨by first | assumption | omega | with_reducible rfl | (refine fun h => h ?_; first | assumption | with_reducible rfl) | (simp only [lenS] <;> omega) | decide, ?_⟩ | refine .inr ⟨by first | assumption | omega | with_reducible rfl | (refine fun h => h ?_; first | assumption | with_reducible rfl) | (simp only [lenS] <;> omega) | decide, ?_⟩) | ((first | refine WPA.ifBt ?_ ?_ | refine WPA.ifBnf ?_ ?_); assumption) | ((first | refine WPA.ifBnt ?_ ?_ | refine WPA.ifBf ?_ ?_); assumption) | ((first | refine WPA.ifs ?_ ?_ | refine WPA.ifB ?_ ?_) <;> intro hc))
      exact QQ.end_ rfl () rfl fun w h => h.to
    rw [hw] at hwt
    have h00 : ¬ (0 : Int) ≠ 0 := fun h => h rfl
    repeat' (first | ((rw [hvq])) | ((first | refine WLA.m rfl rfl ?_ ?_ | refine WLA.st rfl ?_ ?_ | refine WLA.x rfl rfl ?_ (fun x => ?_) | refine WLA.x0 rfl ?_ (fun x => ?_)); first | exact trivial | exact rfl | assumption | omega | (refine ⟨?_, ?_⟩ <;> omega) | (simp only [Room, lenS]; omega) | decide | skip) | (refine Stp.go ?_) | (guard_target =~ WLA _ _ _ _ _ (⟨_, .call ⟨.value (.func 10), _, _⟩, _, _, _, _⟩ :: _) _ _; refine WLA.call rfl rfl (hwt) ?_; rintro ⟨⟩) | (refine WPA.ifT ?_) | (refine WPA.ifF ?_) | ((first | refine WPA.dec ?_); first | refine .inl ⟨by first | assumption | omega | with_reducible rfl | (refine fun h => h ?_; first | assumption | with_reducible rfl) | (simp only [lenS] <;> omega) | decide, ?_⟩ | refine .inr ⟨by first | assumption | omega | with_reducible rfl | (refine fun h => h ?_; first | assumption | with_reducible rfl) | (simp only [lenS] <;> omega) | decide, ?_⟩) | ((first | refine WPA.ifBt ?_ ?_ | refine WPA.ifBnf ?_ ?_); assumption) | ((first | refine WPA.ifBnt ?_ ?_ | refine WPA.ifBf ?_ ?_); assumption) | ((first | refine WPA.ifs ?_ ?_ | refine WPA.ifB ?_ ?_) <;> intro hc))
    exact QQ.loopS (i + 1) ⟨rfl, rfl, rfl, rfl, trivial⟩ ⟨hlt, hnx hw⟩ (by omega) (fun w h => h.to)
  have hlt' : ¬ (i : Int) < hs.length := by omega
  have hie : i = ls.length := by omega
  subst hie
  have hw0 : ∀ ms ∈ ls, wrong o ms = 0 := fun ms hms => by
    obtain ⟨j, hj, rfl⟩ := List.mem_iff_getElem.1 hms
    have := hwj j hj
    rw [List.getD_eq_getElem?_getD, List.getElem?_eq_getElem hj] at this
    exact this
  have hB : blkS 20 ls ≤ 1000 := by have := blk20 fun ms hms => byS_34' (hw0 ms hms) (hlp ms hms).1; omega
  repeat' (first | ((first | refine WLA.m rfl rfl ?_ ?_ | refine WLA.st rfl ?_ ?_ | refine WLA.x rfl rfl ?_ (fun x => ?_) | refine WLA.x0 rfl ?_ (fun x => ?_)); first | exact trivial | exact rfl | assumption | omega | (refine ⟨?_, ?_⟩ <;> omega) | (simp only [Room, lenS]; omega) | decide | skip) | (refine Stp.go ?_) | (guard_target =~ WLA _ _ _ _ _ (⟨_, .call ⟨.value (.func 12), _, _⟩, _, _, _, _⟩ :: _) _ _; refine WLA.call rfl rfl (New_tr _ _ _ (by decide) (by decide)) ?_; rintro S) | (refine WPA.ifT ?_) | (refine WPA.ifF ?_) | ((first | refine WPA.dec ?_); first | refine .inl ⟨by first | assumption | omega | with_reducible rfl | (refine fun h => h ?_; first | assumption | with_reducible rfl) | (simp only [lenS] <;> omega) | decide, ?_⟩ | refine .inr ⟨by first | assumption | omega | with_reducible rfl | (refine fun h => h ?_; first | assumption | with_reducible rfl) | (simp only [lenS] <;> omega) | decide, ?_⟩) | ((first | refine WPA.ifBt ?_ ?_ | refine WPA.ifBnf ?_ ?_); assumption) | ((first | refine WPA.ifBnt ?_ ?_ | refine WPA.ifBf ?_ ?_); assumption) | ((first | refine WPA.ifs ?_ ?_ | refine WPA.ifB ?_ ?_) <;> intro hc))
  refine WPA.loopS (σ := WW) (fun y => [(0, .int .i64 o), (1, .slice s.a s.n s.cap), (2, .int .u8 v), (8, .pointer (some ⟨S, 0, none⟩)), (10, .slice y.out.a y.out.n y.out.cap), (11, .int .i64 y.i)])
    (fun y => y.i ≤ ls.length ∧ (SubI y.J I ∧ Rows (PRunI y.J o) y.oes y.lp ∧ RInv o y.m y.lp) ∧ y.lp.map Prod.snd = ls.take y.i ∧ y.m.used = blkS 20 (ls.take y.i) ∧ y.m.size = 20 ∧ y.m.most = 1000)
    (fun y => SL w0 y.J [OwnS 44 y.out y.oes, StoreR S y.m]) (fun y => ls.length - y.i) ⟨0, I, BS.mk 20 1000 [] [] 0 0 0, SV.nil, [], []⟩ ⟨rfl, rfl, rfl, rfl, rfl, rfl, trivial⟩
    ⟨Nat.zero_le _, ⟨inferInstance, Rows.nil, ⟨BS.Ok.new (by decide) (by decide), TxB.new, rfl, fun i hi => absurd hi List.not_mem_nil, List.nodup_nil, fun r hr => absurd hr List.not_mem_nil, fun r hr => absurd hr List.not_mem_nil, fun r hr => absurd hr List.not_mem_nil, Nat.zero_le _, fun r hr => absurd hr List.not_mem_nil⟩⟩, by rw [List.take_zero]; rfl, by rw [List.take_zero]; rfl, rfl, rfl⟩ (fun w h => by
      have h3 := (Ent.ownNil (α := RE) (t := 44) Ent.refl).sl h
      show SL w0 I [OwnS 44 SV.nil ([] : List RE), StoreR S (BS.mk 20 1000 [] [] 0 0 0)] w
      exact h3.to) ?_
  rintro ⟨i, J, m, out, oes, lp⟩ ρ ⟨hi, ⟨hJ, hp, hI⟩, hsnd, hus, hzz, hmm⟩
  dsimp only at hi hJ hp hI hsnd hus hzz hmm ⊢
  have hpl := hp.1
  have hlpl : lp.length = i := by have := congrArg List.length hsnd; rw [List.length_map, List.length_take] at this; omega
  have hsJ : SlI J s SV inferInstance hs := hsl.sub
  by_cases hlt2 : i < ls.length
  · have hlt' : (i : Int) < hs.length := by omega
    have hir : (0 : Int) ≤ i ∧ (i : Int) < hs.length := by omega
    have hvI := (hlI.2 i hlt2).sub hJ
    have hmi : ls.getD i [] ∈ ls := by rw [List.getD_eq_getElem?_getD, List.getElem?_eq_getElem hlt2]; exact List.getElem_mem _
    have hwi := hw0 _ hmi
    have hri := (hlp _ hmi).2.2
    have hbt0 := blkS_take (z := 20) (by decide) hlt2
    have hfp := flat_pre_len hlt2
    have htk : ls.take (i + 1) = ls.take i ++ [ls.getD i []] := by rw [List.take_add_one, List.getElem?_eq_getElem hlt2, List.getD_eq_getElem?_getD, List.getElem?_eq_getElem hlt2]; rfl
    have hcf : (ctsF lp).length = (ls.take i).flatten.length := by rw [ctsF, List.flatMap_def, hsnd]
    have hsk := blkS_snoc 20 (ls.take i) (ls.getD i [])
    obtain ⟨u, hvq⟩ : ∃ u, at_ hs (i : Int) = u := ⟨_, rfl⟩
    rw [hvq] at hvI
    generalize ls.getD i [] = ms at hvI hwi hri hbt0 hfp htk hsk
    have hml : ms.length ≤ 300 := by omega
    have hm8 : ∀ m ∈ ms, m.1.length ≤ 1000 := fun x hx => by have := wrong_len8 hwi x hx; omega
    have hbl := blkN_le (z := 20) (n := (byS ms).size) (by decide)
    have hroom : ¬ m.size * (m.most - m.used) < (byS ms).size := by
      rw [hzz, hmm, hus]
      have h3 : 20 * blkN 20 (byS ms).size ≤ 20 * (1000 - blkS 20 (ls.take i)) := Int.mul_le_mul_of_nonneg_left (by omega) (by decide)
      omega
    have F := fill_law hI.ok hroom
    have hnew := put_law (a := lp) (g := []) (b := []) (M := ms) (by simpa using hI) hwi hri (by show (ctsF lp).length + (ms.length + 0) ≤ 300; omega) hroom
    have hnew2 : RInv o (fillN (byS ms) m [] 0).1 (lp ++ [((fillN (byS ms) m [] 0).2, ms)]) := by simpa using hnew
    have he := errW_ok (m := m) hwi
    rw [if_neg hroom] at he
    have hx : WrX o ms m 0 o ms.length (fillN (byS ms) m [] 0).1 (fillN (byS ms) m [] 0).2 := .inr ⟨rfl, rfl, rfl, rfl, rfl⟩
    clear hnew
    generalize (fillN (byS ms) m [] 0).1 = m1 at F hnew2 hx
    generalize (fillN (byS ms) m [] 0).2 = ids at F hnew2 hx
    have hnum := F.num
    rw [hzz] at hnum
    have hcnt := blkN_eq (by decide) hnum.1 hnum.2
    have hroom1 : Room (oes.length + 1) 40 := ⟨by omega, by omega⟩
    repeat' (first | ((rw [hvq])) | ((first | refine WLA.m rfl rfl ?_ ?_ | refine WLA.st rfl ?_ ?_ | refine WLA.x rfl rfl ?_ (fun x => ?_) | refine WLA.x0 rfl ?_ (fun x => ?_)); first | exact trivial | exact rfl | assumption | omega | (refine ⟨?_, ?_⟩ <;> omega) | (simp only [Room, lenS]; omega) | decide | skip) | (refine Stp.go ?_) | (guard_target =~ WLA _ _ _ _ _ (⟨_, .call ⟨.value (.func 22), _, _⟩, _, _, _, _⟩ :: _) _ _; refine WLA.call rfl rfl (runWrite_trI hI.ok hvI hm8 (by omega) he.symm hx) ?_; rintro nr) | (refine WPA.ifT ?_) | (refine WPA.ifF ?_) | ((first | refine WPA.dec ?_); first | refine .inl ⟨by first | assumption | omega | with_reducible rfl | (refine fun h => h ?_; first | assumption | with_reducible rfl) | (simp only [lenS] <;> omega) | decide, ?_⟩ | refine .inr ⟨by first | assumption | omega | with_reducible rfl | (refine fun h => h ?_; first | assumption | with_reducible rfl) | (simp only [lenS] <;> omega) | decide, ?_⟩) | ((first | refine WPA.ifBt ?_ ?_ | refine WPA.ifBnf ?_ ?_); assumption) | ((first | refine WPA.ifBnt ?_ ?_ | refine WPA.ifBf ?_ ?_); assumption) | ((first | refine WPA.ifs ?_ ?_ | refine WPA.ifB ?_ ?_) <;> intro hc))
    refine QQ.ent (EntC.out (L' := OwnS 3 nr ids :: OwnS 44 x (oes ++ [(o, (ms.length : Int), nr)]) :: [StoreR S m1])) ?_
    refine QQ.freeze fun R1 hF1 => ?_
    have s1 : SlI (R1 ++ J) nr Int inferInstance ids := by have := SlI.ofOwn hF1; infer_instance
    refine QQ.loopS ⟨i + 1, R1 ++ J, m1, x, oes ++ [(o, (ms.length : Int), nr)], lp ++ [(ids, ms)]⟩ ⟨rfl, rfl, rfl, rfl, rfl, rfl, trivial⟩ ⟨hlt2, ⟨⟨fun z hz => List.mem_append_right _ (hJ.out hz)⟩, (hp.mono fun _ _ k => k.sub inferInstance).snoc ⟨⟨rfl, rfl⟩, s1⟩, hnew2⟩, ?_, ?_, ?_, ?_⟩ (by dsimp only; omega) (fun w h => h.to)
    · dsimp only; rw [List.map_append, hsnd, htk]; rfl
    · dsimp only; rw [F.used, hus, htk, hsk, ← hcnt]
    · dsimp only; rw [F.sz.1, hzz]
    · dsimp only; rw [F.sz.2, hmm]
  have hlt' : ¬ (i : Int) < hs.length := by omega
  obtain ⟨B, hBB⟩ : ∃ B, m.used = B := ⟨_, rfl⟩
  have hBx : ¬ B ≠ B := fun h => h rfl
  clear hus hmm hzz hsnd hB hlI hlp hwj hw0 hfl
  have hoes : oes.length ≤ 1000 := by omega
  have hf2 : (1 ≤ o ∧ o ≤ 8) ∧ (2 : Int) ≤ 2 := ⟨ho, by decide⟩
  have hroom1 : Room (oes.length + 1) 40 := ⟨by omega, by omega⟩
  have hroom2 : Room oes.length 40 := ⟨by omega, by omega⟩
  have hroom3 : Room (0 + oes.length) 40 := ⟨by omega, by omega⟩
  have hck2 : ∀ {q : SV} (K : Foot), SubI K J → SlI K q RE inferInstance (oes ++ [(o, 1, SV.nil)]) → ∀ {L L' : List HP} [FindK L StoreR S m L'], Tr Tryz.prog 42 #[.pointer (some ⟨S, 0, none⟩), .int .i64 o, .slice q.a q.n q.cap, .int .i64 2] (SL w0 K L) (fun _ : Unit => .int .i64 3) (fun _ => SL w0 K (StoreR S m :: L')) := fun {q} K hK hq {L L'} _ =>
    check_more (xi := []) hf2 hq (hp.mono fun _ _ k => k.sub hK) hI (by omega) SlI.nil (by decide) (.inr ⟨rfl, rfl, rfl⟩)
  have hck3 : ∀ {q : SV} {o' : Int} (ho' : o' ≠ o) (K : Foot), SubI K J → SlI K q RE inferInstance (oes ++ [(o', 0, SV.nil)]) → ∀ {L L' : List HP} [FindK L StoreR S m L'], Tr Tryz.prog 42 #[.pointer (some ⟨S, 0, none⟩), .int .i64 o, .slice q.a q.n q.cap, .int .i64 2] (SL w0 K L) (fun _ : Unit => .int .i64 1) (fun _ => SL w0 K (StoreR S m :: L')) := fun {q o'} ho' K hK hq {L L'} _ =>
    check_more (xi := []) hf2 hq (hp.mono fun _ _ k => k.sub hK) hI (by omega) SlI.nil (by decide) (.inl ⟨fun h => ho' h.1, rfl⟩)
  have hck4 : ∀ {q : SV} {es : List RE} (K : Foot), SubI K J → SlI K q RE inferInstance es → ∀ {L L' : List HP} [FindK L StoreR S m L'], Tr Tryz.prog 42 #[.pointer (some ⟨S, 0, none⟩), .int .i64 (o + 8), .slice q.a q.n q.cap, .int .i64 2] (SL w0 K L) (fun _ : Unit => .int .i64 1) (fun _ => SL w0 K (StoreR S m :: L')) := fun {q es} K hK hq {L L'} h =>
    (mck_arg (by omega)).conv (fun _ h => h) fun _ w hw => ⟨(), rfl, h.out.sl hw⟩
  have hrem : o % 8 + 1 ≠ o := by omega
  repeat' (first | ((rw [hBB])) | ((first | refine WLA.m rfl rfl ?_ ?_ | refine WLA.st rfl ?_ ?_ | refine WLA.x rfl rfl ?_ (fun x => ?_) | refine WLA.x0 rfl ?_ (fun x => ?_)); first | exact trivial | exact rfl | assumption | omega | (refine ⟨?_, ?_⟩ <;> omega) | (simp only [Room, lenS]; omega) | decide | skip) | (refine Stp.go ?_) | (guard_target =~ WLA _ _ _ _ _ (⟨_, .call ⟨.value (.func 15), _, _⟩, _, _, _, _⟩ :: _) _ _; refine WLA.cq rfl rfl (Used_tr) ?_) | (guard_target =~ WLA _ _ _ _ _ (⟨_, .call ⟨.value (.func 14), _, _⟩, _, _, _, _⟩ :: _) _ _; refine WLA.call rfl rfl (Runs_nil) ?_; rintro ⟨⟩) | (guard_target =~ WLA _ _ _ _ _ (⟨_, .call ⟨.value (.func 14), _, _⟩, _, _, _, _⟩ :: _) _ _; refine WLA.call rfl rfl (Runs_badO (by decide) hck2) ?_; rintro ⟨⟩) | (guard_target =~ WLA _ _ _ _ _ (⟨_, .call ⟨.value (.func 14), _, _⟩, _, _, _, _⟩ :: _) _ _; refine WLA.call rfl rfl (Runs_badO (by decide) (hck3 hrem)) ?_; rintro ⟨⟩) | (guard_target =~ WLA _ _ _ _ _ (⟨_, .call ⟨.value (.func 14), _, _⟩, _, _, _, _⟩ :: _) _ _; refine WLA.call rfl rfl (Runs_badO (by decide) hck4) ?_; rintro ⟨⟩) | (refine WPA.ifT ?_) | (refine WPA.ifF ?_) | ((first | refine WPA.dec ?_); first | refine .inl ⟨by first | assumption | omega | with_reducible rfl | (refine fun h => h ?_; first | assumption | with_reducible rfl) | (simp only [lenS] <;> omega) | decide, ?_⟩ | refine .inr ⟨by first | assumption | omega | with_reducible rfl | (refine fun h => h ?_; first | assumption | with_reducible rfl) | (simp only [lenS] <;> omega) | decide, ?_⟩) | ((first | refine WPA.ifBt ?_ ?_ | refine WPA.ifBnf ?_ ?_); assumption) | ((first | refine WPA.ifBnt ?_ ?_ | refine WPA.ifBf ?_ ?_); assumption) | ((first | refine WPA.ifs ?_ ?_ | refine WPA.ifB ?_ ?_) <;> intro hc))
  by_cases h0 : oes.length = 0
  · have h0' : (oes.length : Int) = 0 := by omega
    repeat' (first | ((rw [hBB])) | ((first | refine WLA.m rfl rfl ?_ ?_ | refine WLA.st rfl ?_ ?_ | refine WLA.x rfl rfl ?_ (fun x => ?_) | refine WLA.x0 rfl ?_ (fun x => ?_)); first | exact trivial | exact rfl | assumption | omega | (refine ⟨?_, ?_⟩ <;> omega) | (simp only [Room, lenS]; omega) | decide | skip) | (refine Stp.go ?_) | (guard_target =~ WLA _ _ _ _ _ (⟨_, .call ⟨.value (.func 15), _, _⟩, _, _, _, _⟩ :: _) _ _; refine WLA.cq rfl rfl (Used_tr) ?_) | (guard_target =~ WLA _ _ _ _ _ (⟨_, .call ⟨.value (.func 9), _, _⟩, _, _, _, _⟩ :: _) _ _; refine WLA.call rfl rfl (live_tr21 _ _ _) ?_; rintro ⟨⟩) | (refine WPA.ifT ?_) | (refine WPA.ifF ?_) | (refine WLA.no rfl rfl ?_) | ((first | refine WPA.dec ?_ | ((fail_if_success (guard_target =~ WLA _ _ _ _ _ _ (put1 _ _ (.bool true)) _)); (fail_if_success (guard_target =~ WLA _ _ _ _ _ _ (put1 _ _ (.bool false)) _)); refine WLA.dec rfl rfl ?_) | refine WLA.pk ?_); first | refine .inl ⟨by first | assumption | omega | with_reducible rfl | (refine fun h => h ?_; first | assumption | with_reducible rfl) | (simp only [lenS] <;> omega) | decide, ?_⟩ | refine .inr ⟨by first | assumption | omega | with_reducible rfl | (refine fun h => h ?_; first | assumption | with_reducible rfl) | (simp only [lenS] <;> omega) | decide, ?_⟩) | ((first | refine WPA.ifBt ?_ ?_ | refine WPA.ifBnf ?_ ?_); assumption) | ((first | refine WPA.ifBnt ?_ ?_ | refine WPA.ifBf ?_ ?_); assumption) | ((first | refine WPA.ifs ?_ ?_ | refine WPA.ifB ?_ ?_) <;> intro hc) | ((fail_if_success (guard_target =~ WLA _ _ _ _ _ _ (put1 _ _ (.bool true)) _)); (fail_if_success (guard_target =~ WLA _ _ _ _ _ _ (put1 _ _ (.bool false)) _)); (first | refine WLA.both rfl rfl ?_ ?_ | refine WLA.bothB rfl rfl ?_ ?_) <;> intro hg))
    exact QQ.end_ rfl () rfl fun w h => (h.to : SL w0 J [] w).sub hJ.out
  have h0' : ¬ (oes.length : Int) = 0 := by omega
  obtain ⟨j, hj⟩ : ∃ j : Nat, v % (oes.length : Int) = (j : Int) := ⟨(v % (oes.length : Int)).toNat, by have := Int.emod_nonneg v h0'; omega⟩
  have hjl : j < oes.length := by have := Int.emod_lt_of_pos v (show (0 : Int) < oes.length by omega); omega
  have hvr : 0 ≤ v ∧ (0 : Int) < oes.length := by omega
  have hjr : (0 : Int) ≤ j ∧ (j : Int) < oes.length := by omega
  have hpj := hp.2 j (by omega)
  have hmj : lp.getD j ([], []) ∈ lp := by rw [List.getD_eq_getElem?_getD, List.getElem?_eq_getElem (by omega)]; exact List.getElem_mem _
  obtain ⟨q, hq⟩ : ∃ q, at_ oes (j : Int) = q := ⟨_, rfl⟩
  rw [hq] at hpj
  obtain ⟨qo, qn, qs⟩ := q
  obtain ⟨⟨q1, q2⟩, q3⟩ := hpj
  dsimp only at q1 q2 q3
  have hidl := hI.idl _ hmj
  have hnd : (lp.getD j ([], [])).1 ≠ [] → ¬ ((lp.map Prod.fst) ++ [(lp.getD j ([], [])).1]).flatten.Nodup := fun hne h => by
    rw [List.flatten_append, List.flatten_singleton] at h
    obtain ⟨a, ha⟩ := List.exists_mem_of_ne_nil _ hne
    exact (List.nodup_append.1 h).2.2 a (List.mem_flatten.2 ⟨_, List.mem_map.2 ⟨_, hmj, rfl⟩, ha⟩) a ha rfl
  generalize (lp.getD j ([], [])).1 = ids at q3 hidl hnd
  by_cases hi0 : ids.length = 0
  · have hi0' : (ids.length : Int) = 0 := by omega
    repeat' (first | ((rw [hBB])) | ((rw [hj])) | ((rw [hq])) | ((first | refine WLA.m rfl rfl ?_ ?_ | refine WLA.st rfl ?_ ?_ | refine WLA.x rfl rfl ?_ (fun x => ?_) | refine WLA.x0 rfl ?_ (fun x => ?_)); first | exact trivial | exact rfl | assumption | omega | (refine ⟨?_, ?_⟩ <;> omega) | (simp only [Room, lenS]; omega) | decide | skip) | (refine Stp.go ?_) | (guard_target =~ WLA _ _ _ _ _ (⟨_, .call ⟨.value (.func 15), _, _⟩, _, _, _, _⟩ :: _) _ _; refine WLA.cq rfl rfl (Used_tr) ?_) | (guard_target =~ WLA _ _ _ _ _ (⟨_, .call ⟨.value (.func 9), _, _⟩, _, _, _, _⟩ :: _) _ _; refine WLA.call rfl rfl (live_tr21 _ _ _) ?_; rintro ⟨⟩) | (refine WPA.ifT ?_) | (refine WPA.ifF ?_) | (refine WLA.no rfl rfl ?_) | ((first | refine WPA.dec ?_ | ((fail_if_success (guard_target =~ WLA _ _ _ _ _ _ (put1 _ _ (.bool true)) _)); (fail_if_success (guard_target =~ WLA _ _ _ _ _ _ (put1 _ _ (.bool false)) _)); refine WLA.dec rfl rfl ?_) | refine WLA.pk ?_); first | refine .inl ⟨by first | assumption | omega | with_reducible rfl | (refine fun h => h ?_; first | assumption | with_reducible rfl) | (simp only [lenS] <;> omega) | decide, ?_⟩ | refine .inr ⟨by first | assumption | omega | with_reducible rfl | (refine fun h => h ?_; first | assumption | with_reducible rfl) | (simp only [lenS] <;> omega) | decide, ?_⟩) | ((first | refine WPA.ifBt ?_ ?_ | refine WPA.ifBnf ?_ ?_); assumption) | ((first | refine WPA.ifBnt ?_ ?_ | refine WPA.ifBf ?_ ?_); assumption) | ((first | refine WPA.ifs ?_ ?_ | refine WPA.ifB ?_ ?_) <;> intro hc) | ((fail_if_success (guard_target =~ WLA _ _ _ _ _ _ (put1 _ _ (.bool true)) _)); (fail_if_success (guard_target =~ WLA _ _ _ _ _ _ (put1 _ _ (.bool false)) _)); (first | refine WLA.both rfl rfl ?_ ?_ | refine WLA.bothB rfl rfl ?_ ?_) <;> intro hg))
    exact QQ.end_ rfl () rfl fun w h => (h.to : SL w0 J [] w).sub hJ.out
  have hi0' : ¬ (ids.length : Int) = 0 := by omega
  have hnd2 := hnd fun h => hi0 (by rw [h]; rfl)
  have hck5 : ∀ {u : SV} (K : Foot), SubI K J → SlI K u RE inferInstance (oes ++ [(qo, qn, qs)]) → ∀ {L L' : List HP} [FindK L StoreR S m L'], Tr Tryz.prog 42 #[.pointer (some ⟨S, 0, none⟩), .int .i64 o, .slice u.a u.n u.cap, .int .i64 2] (SL w0 K L) (fun _ : Unit => .int .i64 1) (fun _ => SL w0 K (StoreR S m :: L')) := fun {u} K hK hu {L L'} _ =>
    check_more (xi := ids) hf2 hu (hp.mono fun _ _ k => k.sub hK) hI (by omega) q3.sub hidl (.inl ⟨fun h => hnd2 h.2, rfl⟩)
  clear hck2 hck3 hck4 hnd
  repeat' ((fail_if_success (guard_target =~ WPA _ _ _ (.region 27 _ _) _ _ _)); first | ((rw [hBB])) | ((rw [hj])) | ((rw [hq])) | ((first | refine WLA.m rfl rfl ?_ ?_ | refine WLA.st rfl ?_ ?_ | refine WLA.x rfl rfl ?_ (fun x => ?_) | refine WLA.x0 rfl ?_ (fun x => ?_)); first | exact trivial | exact rfl | assumption | omega | (refine ⟨?_, ?_⟩ <;> omega) | (simp only [Room, lenS]; omega) | decide | skip) | (refine Stp.go ?_) | (guard_target =~ WLA _ _ _ _ _ (⟨_, .call ⟨.value (.func 15), _, _⟩, _, _, _, _⟩ :: _) _ _; refine WLA.cq rfl rfl (Used_tr) ?_) | (refine WPA.ifT ?_) | (refine WPA.ifF ?_) | (refine WLA.no rfl rfl ?_) | ((first | refine WPA.dec ?_ | ((fail_if_success (guard_target =~ WLA _ _ _ _ _ _ (put1 _ _ (.bool true)) _)); (fail_if_success (guard_target =~ WLA _ _ _ _ _ _ (put1 _ _ (.bool false)) _)); refine WLA.dec rfl rfl ?_) | refine WLA.pk ?_); first | refine .inl ⟨by first | assumption | omega | with_reducible rfl | (refine fun h => h ?_; first | assumption | with_reducible rfl) | (simp only [lenS] <;> omega) | decide, ?_⟩ | refine .inr ⟨by first | assumption | omega | with_reducible rfl | (refine fun h => h ?_; first | assumption | with_reducible rfl) | (simp only [lenS] <;> omega) | decide, ?_⟩) | ((first | refine WPA.ifBt ?_ ?_ | refine WPA.ifBnf ?_ ?_); assumption) | ((first | refine WPA.ifBnt ?_ ?_ | refine WPA.ifBf ?_ ?_); assumption) | ((first | refine WPA.ifs ?_ ?_ | refine WPA.ifB ?_ ?_) <;> intro hc) | ((fail_if_success (guard_target =~ WLA _ _ _ _ _ _ (put1 _ _ (.bool true)) _)); (fail_if_success (guard_target =~ WLA _ _ _ _ _ _ (put1 _ _ (.bool false)) _)); (first | refine WLA.both rfl rfl ?_ ?_ | refine WLA.bothB rfl rfl ?_ ?_) <;> intro hg))
  refine WPA.ent (EntC.out (L' := OwnS 44 out oes :: [StoreR S m])) ?_
  refine WPA.freeze fun R hF => ?_
  have hso : SlI (R ++ J) out RE inferInstance oes := by have := SlI.ofOwn hF; infer_instance
  have hck6 := fun {u : SV} (K : Foot) (hK : SubI K (R ++ J)) => hck5 (u := u) K ⟨fun z hz => hK.out (List.mem_append_right _ hz)⟩
  have hKI : SubI (R ++ J) I := ⟨fun z hz => List.mem_append_right _ (hJ.out hz)⟩
  clear hF hck5 hsJ hp q3
  generalize R ++ J = V at hso hck6 hKI
  repeat' ((fail_if_success (guard_target =~ WPA _ _ _ (.region 28 _ _) _ _ _)); first | ((rw [hj])) | ((rw [hq])) | ((first | refine WLA.m rfl rfl ?_ ?_ | refine WDQ.m rfl rfl ?_ ?_ | refine WDP.m rfl rfl ?_ ?_ | refine WLA.st rfl ?_ ?_ | refine WLA.x rfl rfl ?_ (fun x => ?_) | refine WLA.x0 rfl ?_ (fun x => ?_) | refine WDW.x rfl rfl ?_ (fun x => ?_) | refine WDW.st rfl ?_ ?_); first | exact trivial | exact rfl | assumption | omega | (refine ⟨?_, ?_⟩ <;> omega) | (simp only [Room, lenS]; omega) | decide | skip) | (refine Stp.go ?_) | (guard_target =~ WLA _ _ _ _ _ (⟨_, .call ⟨.value (.func 14), _, _⟩, _, _, _, _⟩ :: _) _ _; refine WLA.call rfl rfl (Runs_badO (by decide) hck6) ?_; rintro ⟨⟩) | (refine WPA.ifT ?_) | (refine WPA.ifF ?_) | ((first | refine WPA.dec ?_); first | refine .inl ⟨by first | assumption | omega | with_reducible rfl | (refine fun h => h ?_; first | assumption | with_reducible rfl) | (simp only [lenS] <;> omega) | decide, ?_⟩ | refine .inr ⟨by first | assumption | omega | with_reducible rfl | (refine fun h => h ?_; first | assumption | with_reducible rfl) | (simp only [lenS] <;> omega) | decide, ?_⟩) | ((first | refine WPA.ifBt ?_ ?_ | refine WPA.ifBnf ?_ ?_); assumption) | ((first | refine WPA.ifBnt ?_ ?_ | refine WPA.ifBf ?_ ?_); assumption) | ((first | refine WPA.ifs ?_ ?_ | refine WPA.ifB ?_ ?_) <;> intro hc) | (guard_target =~ WPA _ _ _ (.region 27 _ true) _ _ _; refine WPA.drawT 23 (.p 0 (.p 1 (.p 3 (.p 5 (.p 6 (.p 7 (.p 8 (.p 9 (.p 10 (.p 11 (.p 12 (.t false 2 (.t true 4 (.b false 13 (.b true 14 (.b false 15 (.p 16 (.p 17 (.p 18 (.p 19 (.e 20 (.e 21 (.p 22 .fin))))))) false 20 (.e 15 (.p 16 (.p 17 (.p 18 (.p 19 (.e 21 (.p 22 .fin)))))))) false 20 (.w 14 (.e 15 (.p 16 (.p 17 (.p 18 (.p 19 (.e 21 (.p 22 .fin))))))))) false 20 (.e 13 (.w 14 (.e 15 (.p 16 (.p 17 (.p 18 (.p 19 (.e 21 (.p 22 .fin)))))))))) false 13 (.b true 4 (.b true 14 (.b false 15 (.p 16 (.p 17 (.p 18 (.p 19 (.e 20 (.e 21 (.p 22 .fin))))))) false 20 (.e 15 (.p 16 (.p 17 (.p 18 (.p 19 (.e 21 (.p 22 .fin)))))))) false 20 (.w 14 (.e 15 (.p 16 (.p 17 (.p 18 (.p 19 (.e 21 (.p 22 .fin))))))))) false 20 (.w 4 (.w 14 (.e 15 (.p 16 (.p 17 (.p 18 (.p 19 (.e 21 (.p 22 .fin)))))))))) false 20 (.b true 4 (.e 13 (.w 14 (.e 15 (.p 16 (.p 17 (.p 18 (.p 19 (.e 21 (.p 22 .fin))))))))) false 13 (.w 4 (.w 14 (.e 15 (.p 16 (.p 17 (.p 18 (.p 19 (.e 21 (.p 22 .fin))))))))))) false 13 (.b false 2 (.b true 4 (.b true 14 (.b false 15 (.p 16 (.p 17 (.p 18 (.p 19 (.e 20 (.e 21 (.p 22 .fin))))))) false 20 (.e 15 (.p 16 (.p 17 (.p 18 (.p 19 (.e 21 (.p 22 .fin)))))))) false 20 (.w 14 (.e 15 (.p 16 (.p 17 (.p 18 (.p 19 (.e 21 (.p 22 .fin))))))))) false 20 (.w 4 (.w 14 (.e 15 (.p 16 (.p 17 (.p 18 (.p 19 (.e 21 (.p 22 .fin)))))))))) false 20 (.e 2 (.w 4 (.w 14 (.e 15 (.p 16 (.p 17 (.p 18 (.p 19 (.e 21 (.p 22 .fin))))))))))) false 20 (.b false 2 (.b true 4 (.e 13 (.w 14 (.e 15 (.p 16 (.p 17 (.p 18 (.p 19 (.e 21 (.p 22 .fin))))))))) false 13 (.w 4 (.w 14 (.e 15 (.p 16 (.p 17 (.p 18 (.p 19 (.e 21 (.p 22 .fin)))))))))) false 13 (.e 2 (.w 4 (.w 14 (.e 15 (.p 16 (.p 17 (.p 18 (.p 19 (.e 21 (.p 22 .fin))))))))))))))))))))))) mixed ?_ ?_; kernel_rfl) | (refine WDA.finish (tl := [⟨_, _, _, _, _, _⟩]) rfl ?_) | (refine WDQ.see rfl ?_) | (refine WDP.see rfl ?_) | (refine WDW.see rfl ?_) | (first | (refine WDA.two rfl rfl ?_ ?_) | (refine WDA.twoL rfl rfl ?_ ?_) | (refine WDA.twoR rfl rfl ?_ ?_) | (refine WDA.twoW rfl rfl ?_ ?_)) | (first | (refine WDA.three rfl rfl rfl ?_ ?_ ?_) | (refine WDA.threeL rfl rfl rfl ?_ ?_ ?_) | (refine WDA.threeM rfl rfl rfl ?_ ?_ ?_) | (refine WDA.threeR rfl rfl rfl ?_ ?_ ?_)) | (refine WDE.see rfl ?_) | (refine WDE.alloc rfl rfl (fun w h => h) (fun x => ?_)) | (refine WDE.stE rfl ?_) | (refine WDE.x rfl rfl ?_ ?_ (fun x => ?_); rotate_left 1; (intro x w h; first | exact h | exact Ent.drop1.sl h | exact SL.unI h | exact SL.to h); rotate_left 1; first | exact trivial | exact rfl | assumption | omega | (refine ⟨?_, ?_⟩ <;> omega) | (simp only [Room, lenS]; omega) | decide | skip) | (guard_target =~ WDE _ _ _ _ _ _ _ ⟨_, .call ⟨.value (.func 14), _, _⟩, _, _, _, _⟩ _ _ _; refine WDE.call rfl rfl (Runs_badO (by decide) hck6) ?_ ?_; (intro x w h; first | exact h | exact Ent.drop1.sl h | exact SL.unI h | exact SL.to h); rintro ⟨⟩) | (guard_target =~ WDW _ _ _ _ _ _ _ ⟨_, .call ⟨.value (.func 14), _, _⟩, _, _, _, _⟩ _ _ _; refine WDW.call rfl rfl (Runs_badO (by decide) hck6) ?_; rintro ⟨⟩))
  all_goals
    repeat' (first | ((rw [hBB])) | ((first | refine WLA.m rfl rfl ?_ ?_ | refine WLA.st rfl ?_ ?_ | refine WLA.x rfl rfl ?_ (fun x => ?_) | refine WLA.x0 rfl ?_ (fun x => ?_)); first | exact trivial | exact rfl | assumption | omega | (refine ⟨?_, ?_⟩ <;> omega) | (simp only [Room, lenS]; omega) | decide | skip) | (refine Stp.go ?_) | (guard_target =~ WLA _ _ _ _ _ (⟨_, .call ⟨.value (.func 15), _, _⟩, _, _, _, _⟩ :: _) _ _; refine WLA.cq rfl rfl (Used_tr) ?_) | (guard_target =~ WLA _ _ _ _ _ (⟨_, .call ⟨.value (.func 9), _, _⟩, _, _, _, _⟩ :: _) _ _; refine WLA.call rfl rfl (live_tr21 _ _ _) ?_; rintro ⟨⟩) | (refine WPA.ifT ?_) | (refine WPA.ifF ?_) | (refine WLA.no rfl rfl ?_) | ((first | refine WPA.dec ?_ | ((fail_if_success (guard_target =~ WLA _ _ _ _ _ _ (put1 _ _ (.bool true)) _)); (fail_if_success (guard_target =~ WLA _ _ _ _ _ _ (put1 _ _ (.bool false)) _)); refine WLA.dec rfl rfl ?_) | refine WLA.pk ?_); first | refine .inl ⟨by first | assumption | omega | with_reducible rfl | (refine fun h => h ?_; first | assumption | with_reducible rfl) | (simp only [lenS] <;> omega) | decide, ?_⟩ | refine .inr ⟨by first | assumption | omega | with_reducible rfl | (refine fun h => h ?_; first | assumption | with_reducible rfl) | (simp only [lenS] <;> omega) | decide, ?_⟩) | ((first | refine WPA.ifBt ?_ ?_ | refine WPA.ifBnf ?_ ?_); assumption) | ((first | refine WPA.ifBnt ?_ ?_ | refine WPA.ifBf ?_ ?_); assumption) | ((first | refine WPA.ifs ?_ ?_ | refine WPA.ifB ?_ ?_) <;> intro hc) | ((fail_if_success (guard_target =~ WLA _ _ _ _ _ _ (put1 _ _ (.bool true)) _)); (fail_if_success (guard_target =~ WLA _ _ _ _ _ _ (put1 _ _ (.bool false)) _)); (first | refine WLA.both rfl rfl ?_ ?_ | refine WLA.bothB rfl rfl ?_ ?_) <;> intro hg))
    all_goals exact QQ.end_ rfl () rfl fun w h => (h.to : SL w0 V [] w).sub hKI.out
theorem MergeRefuses_law (W : World) (o : Int) (h0 : gInt W o) (s : SV) (h2 : gSl (gSl (gPair (gSl gInt 8) gInt) 32) 24 W s) (v : KInt .u8) (hv : gKInt .u8 W v) : Calls Tryz.prog 4 #[.int .i64 o, .slice s.a s.n s.cap, .int .u8 v] W fun e w' => e = .returned (.bool true) ∧ Below W.heap.size W w' := by
  obtain ⟨hs, h1, h2, _⟩ := h2
  haveI := SlI.all h1
  refine Calls.below (MergeRefuses_tr (kg := Go.Fw.rd Int (allB W)) (tp := Go.Fw.rd Pe (allB W)) (v := v) (fun g hg => ?_) (u8_wf' hv))
  obtain ⟨ps, k1, k2, k3⟩ := h2 g hg
  have j1 := SlI.all k1
  have e : Go.Fw.rd Pe (allB W) g = ps := j1.rd.det j1 (SL.all W)
  refine ⟨j1.rd, fun p hp => ?_⟩
  rw [e] at hp
  obtain ⟨xs, m1, m2, m3⟩ := (k2 p hp).1
  exact (SlI.all m1).rd
end
end Go.Proofs.YtamnobjdgjbmbaaGreat
