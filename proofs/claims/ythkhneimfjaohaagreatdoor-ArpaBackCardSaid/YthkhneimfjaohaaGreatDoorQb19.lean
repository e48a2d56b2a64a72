/- Texts that ArpaBack_law leans on, part 19. Conditions: none. -/
import Derived.Test.YthkhneimfjaohaaGreatDoorQb18
namespace Go.Proofs.YthkhneimfjaohaaGreatDoor
open Go Go.Fw Go.RowKit
set_option linter.unusedVariables false
set_option linter.unusedSimpArgs false
set_option maxRecDepth 100000
set_option maxHeartbeats 16000000
set_option synthInstance.maxHeartbeats 200000
set_option synthInstance.maxSize 100000
attribute [local irreducible] WPA WLA WDA WDQ WDE QQ seqQ blockQ loopQ fnQ OpP OpT Tr TrP SL SLd OwnS LitS Bk BkE Ob
theorem cntF_err : ∀ (f : Nat) (s : ByteArray) (n : Int) (l : ByteArray) (cs : List Int) (y : Int × Int), s.size < f → 0 ≤ n → cntF f s n l cs = .error y → y.2 ≠ 0 ∧ 0 ≤ y.1
  | 0, s, n, l, cs, y, hf, _, _ => absurd hf (Nat.not_lt_zero _)
  | f + 1, s, n, l, cs, y, hf, hn, h => by
    rw [cntF] at h
    split at h
    · cases h
    split at h
    · injection h with h; subst h; exact ⟨by dsimp only; decide, hn⟩
    split at h
    · injection h with h; subst h; exact ⟨by dsimp only; decide, hn⟩
    split at h
    · injection h with h; subst h; exact ⟨by dsimp only; decide, hn⟩
    split at h
    · injection h with h; subst h; exact ⟨by dsimp only; decide, by show 0 ≤ n + 1; omega⟩
    · rename_i h8
      have ha := aft_size (Classical.byContradiction h8)
      exact cntF_err f _ _ _ _ _ (by omega) (by omega) h
theorem headF_err {s : ByteArray} {n : Int} {y : Int × Int} (hn : 0 ≤ n) (e : headF s n = .error y) : y.2 ≠ 0 ∧ 0 ≤ y.1 := by
  unfold headF at e
  split at e
  · injection e with e; subst e; exact ⟨by dsimp only; decide, by show 0 ≤ n + 1; omega⟩
  split at e
  · injection e with e; subst e; exact ⟨by dsimp only; decide, by show 0 ≤ n + 1; omega⟩
  split at e
  · injection e with e; subst e; exact ⟨by dsimp only; decide, by show 0 ≤ n + 1 + 1; omega⟩
  split at e
  · injection e with e; subst e; exact ⟨by dsimp only; decide, by show 0 ≤ n + 1 + 1; omega⟩
  split at e
  · injection e with e; subst e; exact ⟨by dsimp only; decide, by show 0 ≤ n + 1 + 1 + 1; omega⟩
  revert e
  generalize hc : cntF _ _ _ _ _ = X
  intro e
  cases X with
  | ok r => cases e
  | error z =>
    have e2 : z = y := by injection e
    subst e2
    exact cntF_err _ _ _ _ _ _ (Nat.lt_succ_self _) (by omega) hc
theorem secF_err (o : Int) (last : Bool) : ∀ (k : Nat) (s : ByteArray) (n : Int) (y : Int × Int), 0 ≤ n → secF o last k s n = .error y → y.2 ≠ 0 ∧ 0 ≤ y.1
  | 0, s, n, y, _, h => by rw [secF] at h; cases h
  | k + 1, s, n, y, hn, h => by
    rw [secF] at h
    split at h
    · injection h with h; subst h; exact ⟨by dsimp only; decide, by show 0 ≤ n + 1; omega⟩
    split at h
    · injection h with h; subst h; exact ⟨by dsimp only; decide, by show 0 ≤ n + 1; omega⟩
    revert h
    generalize hc : secF _ _ _ _ _ = X
    intro h
    cases X with
    | ok r => cases h
    | error z =>
      have e2 : z = y := by injection h
      subst e2
      exact secF_err o last k _ _ _ (by omega) hc
theorem secF_line (o : Int) (last : Bool) : ∀ (k : Nat) (s : ByteArray) (n : Int) (gs : List GrL) (s' : ByteArray) (n' : Int), 0 ≤ n → secF o last k s n = .ok (gs, s', n') → n ≤ n' ∧ ∀ g ∈ gs, 0 ≤ g.line
  | 0, s, n, gs, s', n', _, h => by
    rw [secF] at h
    injection h with h
    obtain ⟨e1, e2⟩ := Prod.mk.inj h
    obtain ⟨e2, e3⟩ := Prod.mk.inj e2
    subst e1 e2 e3
    exact ⟨Int.le_refl _, fun g hg => by cases hg⟩
  | k + 1, s, n, gs, s', n', hn, h => by
    rw [secF] at h
    split at h
    · cases h
    split at h
    · cases h
    revert h
    generalize hc : secF _ _ _ _ _ = X
    intro h
    cases X with
    | error y => cases h
    | ok r =>
      obtain ⟨r, s2, n2⟩ := r
      have e2 : (((grF last n (befB s 10) :: r), s2, n2) : List GrL × ByteArray × Int) = (gs, s', n') := by injection h
      obtain ⟨e3, e4⟩ := Prod.mk.inj e2
      obtain ⟨e4, e5⟩ := Prod.mk.inj e4
      subst e3 e4 e5
      obtain ⟨i1, i2⟩ := secF_line o last k _ _ _ _ _ (by omega) hc
      refine ⟨by omega, fun g hg => ?_⟩
      rcases List.mem_cons.1 hg with rfl | hg
      · show 0 ≤ n + 1; omega
      · exact i2 g hg
theorem allF_err (N : Nat) : ∀ (cs : List Int) (k : Nat) (s : ByteArray) (n : Int), 0 ≤ n → (∀ y, allF N cs k s n = .error y → y.2 ≠ 0 ∧ 0 ≤ y.1) ∧ ∀ gss r, allF N cs k s n = .ok (gss, r) → ∀ gs ∈ gss, ∀ g ∈ gs, 0 ≤ g.line
  | [], k, s, n, hn => by
    refine ⟨fun y h => ?_, fun gss r h => ?_⟩
    all_goals rw [allF] at h
    all_goals (split at h)
    · injection h with h; subst h; exact ⟨by dsimp only; decide, by show 0 ≤ n + 1; omega⟩
    · split at h
      · injection h with h; subst h; exact ⟨by dsimp only; decide, by show 0 ≤ n + 1; omega⟩
      split at h
      · injection h with h; subst h; exact ⟨by dsimp only; decide, by show 0 ≤ n + 1 + 1; omega⟩
      · cases h
    · cases h
    · split at h
      · cases h
      split at h
      · cases h
      · injection h with h
        obtain ⟨e1, e2⟩ := Prod.mk.inj h
        subst e1
        intro gs hgs; cases hgs
  | c :: cs, k, s, n, hn => by
    constructor
    · intro y h
      rw [allF] at h
      split at h
      · injection h with h; subst h; exact ⟨by dsimp only; decide, by show 0 ≤ n + 1; omega⟩
      split at h
      · injection h with h; subst h; exact ⟨by dsimp only; decide, by show 0 ≤ n + 1; omega⟩
      split at h
      · rename_i z hc
        injection h with h; subst h
        exact secF_err _ _ _ _ _ _ (by omega) hc
      rename_i gs s2 n2 hc
      obtain ⟨j1, j2⟩ := secF_line _ _ _ _ _ _ _ _ (by omega) hc
      split at h
      · injection h with h; subst h; exact ⟨by dsimp only; decide, by show 0 ≤ n2 + 1; omega⟩
      split at h
      · injection h with h; subst h; exact ⟨by dsimp only; decide, by show 0 ≤ n2 + 1; omega⟩
      revert h
      generalize hd : allF _ _ _ _ _ = X
      intro h
      cases X with
      | ok r => cases h
      | error z =>
        have e2 : z = y := by injection h
        subst e2
        exact (allF_err N cs (k + 1) _ _ (by omega)).1 _ hd
    · intro gss r h
      rw [allF] at h
      split at h
      · cases h
      split at h
      · cases h
      split at h
      · cases h
      rename_i gs s2 n2 hc
      obtain ⟨j1, j2⟩ := secF_line _ _ _ _ _ _ _ _ (by omega) hc
      split at h
      · cases h
      split at h
      · cases h
      revert h
      generalize hd : allF _ _ _ _ _ = X
      intro h
      cases X with
      | error z => cases h
      | ok q =>
        obtain ⟨q1, q2⟩ := q
        have e2 : (((gs :: q1), q2) : List (List GrL) × ByteArray × Int) = (gss, r) := by injection h
        obtain ⟨e3, e4⟩ := Prod.mk.inj e2
        subst e3
        intro l hl
        rcases List.mem_cons.1 hl with rfl | hl
        · exact j2
        · exact (allF_err N cs (k + 1) _ _ (by omega)).2 _ _ hd l hl
theorem idsM_err {f : ByteArray → Option Int} {line : Int} : ∀ {l : List ByteArray} {y : Int × Int}, idsM f line l = .error y → y = (line, 10)
  | [], y, h => by rw [idsM] at h; cases h
  | w :: l, y, h => by
    rw [idsM] at h
    split at h
    · injection h with h; exact h.symm
    · revert h
      generalize hc : idsM f line l = X
      intro h
      cases X with
      | ok r => cases h
      | error z =>
        have e2 : z = y := by injection h
        subst e2
        exact idsM_err hc
theorem rowF_err {f : ByteArray → Option Int} : ∀ {l : List GrL} {y : Int × Int}, rowF f l = .error y → ∃ g ∈ l, y = (g.line, 10)
  | [], y, h => by rw [rowF] at h; cases h
  | g :: l, y, h => by
    rw [rowF] at h
    split at h
    · rename_i z hz
      injection h with h; subst h
      exact ⟨g, List.mem_cons_self, idsM_err hz⟩
    · revert h
      generalize hc : rowF f l = X
      intro h
      cases X with
      | ok r => cases h
      | error z =>
        have e2 : z = y := by injection h
        subst e2
        obtain ⟨g2, h1, h2⟩ := rowF_err hc
        exact ⟨g2, List.mem_cons_of_mem _ h1, h2⟩
theorem rowsF_err {f : ByteArray → Option Int} : ∀ {gss : List (List GrL)} {y : Int × Int}, rowsF f gss = .error y → ∃ gs ∈ gss, ∃ g ∈ gs, y = (g.line, 10)
  | [], y, h => by rw [rowsF] at h; cases h
  | g :: l, y, h => by
    rw [rowsF] at h
    split at h
    · rename_i z hz
      injection h with h; subst h
      exact ⟨g, List.mem_cons_self, rowF_err hz⟩
    · revert h
      generalize hc : rowsF f l = X
      intro h
      cases X with
      | ok r => cases h
      | error z =>
        have e2 : z = y := by injection h
        subst e2
        obtain ⟨g2, h1, h2⟩ := rowsF_err hc
        exact ⟨g2, List.mem_cons_of_mem _ h1, h2⟩
theorem parse_err {s : ByteArray} {y : Int × Int} (h : parseF s = .error y) : y.2 ≠ 0 ∧ 0 ≤ y.1 := by
  unfold parseF at h
  split at h
  · rename_i z h1
    injection h with h; subst h
    exact headF_err (Int.le_refl 0) h1
  rename_i hd s1 n1 h1
  have hn := (headF_ok h1).2.1
  split at h
  · rename_i z h2
    injection h with h; subst h
    exact (allF_err _ _ _ _ _ hn).1 _ h2
  rename_i gss r h2
  split at h
  · rename_i z h3
    injection h with h; subst h
    obtain ⟨gs, q1, g, q2, rfl⟩ := rowsF_err h3
    exact ⟨(by decide : (10 : Int) ≠ 0), (allF_err _ _ _ _ _ hn).2 _ _ h2 gs q1 g q2⟩
  split at h
  · rename_i h4
    injection h with h; subst h
    exact ⟨h4, Int.le_refl _⟩
  · cases h
theorem parse_few {s : ByteArray} {fr : Int} {ws : List ByteArray} {A : List (List EV)} (hs : s.size ≤ 1000000) (h : parseF s = .ok (fr, ws, A)) : (∀ w ∈ ws, w.size ≤ 140737488351232) ∧ ws.length ≤ 1000000 ∧ A.length ≤ 1000000 ∧ ∀ es ∈ A, es.length ≤ 1000000 ∧ ∀ e ∈ es, e.2.length ≤ 1000000 := by
  unfold parseF at h
  split at h
  · cases h
  rename_i hd s1 n1 h1
  split at h
  · cases h
  rename_i gss r h2
  obtain ⟨s2, n2⟩ := r
  split at h
  · cases h
  rename_i rows h3
  split at h
  · cases h
  injection h with h
  obtain ⟨e1, e2⟩ := Prod.mk.inj h
  obtain ⟨e2, e3⟩ := Prod.mk.inj e2
  subst e1 e2 e3
  exact told_few hs h1 h2 h3
attribute [local irreducible] fnX TrX TblH VocH EntOk TabP PrnR parseF printB chkA
section
variable {L : List HP} {w0 : World} {I : Foot}
theorem rCheckA_tr {fr : Int} {w g : SV} {ws : List ByteArray} {A : List (List EV)} (hM : MdL I w g ws A) (h1 : ∀ s ∈ ws, s.size ≤ 140737488351232) (h2 : ws.length ≤ 1000000) (h3 : A.length ≤ 1000000) (h4 : ∀ es ∈ A, es.length ≤ 1000000 ∧ ∀ e ∈ es, e.2.length ≤ 1000000) :
    Tr Tryz.prog 9 #[.agg #[.int .i64 fr, .slice w.a w.n w.cap, .slice g.a g.n g.cap]] (SL w0 I L) (fun _ : Unit => .int .i64 (chkA fr ws A)) (fun _ => SL w0 I L) := by
  unfold Tr
  intro u hu
  obtain ⟨gr, hQ⟩ := hM.nst hu
  have h := rCheck_tr (L := L) (w0 := w0) (fr := fr) (hQ.mdI h1 h2 h3 h4)
  unfold Tr at h
  have := h u hu
  rw [chkM_A, hQ.cont] at this
  exact this
theorem ArpaBack_tr {s : ByteArray} (hT : TabP w0) (h0 : w0.drawn = 0) : Tr Tryz.prog 5 #[.string s] (SL w0 I L) (fun _ : Unit => .bool true) (fun _ => SL w0 I L) := by
  refine Tr.intro Tryz.func5 rfl Tryz.ntmps5 rfl ?_
  by_cases hz : (s.size : Int) > 3000
  · have hl := fun {L : List HP} => live_tr39 (I := I) (L := L) hT h0
    repeat' (first | ((first | refine WLA.m rfl rfl ?_ ?_ | refine WLA.st rfl ?_ ?_ | refine WLA.x rfl rfl ?_ (fun x => ?_) | refine WLA.x0 rfl ?_ (fun x => ?_)); first | exact trivial | exact rfl | assumption | omega | (refine ⟨?_, ?_⟩ <;> omega) | (simp only [Room, lenS]; omega) | decide | skip) | (refine Stp.go ?_) | (guard_target =~ WLA _ _ _ _ _ (⟨_, .call ⟨.value (.func 7), _, _⟩, _, _, _, _⟩ :: _) _ _; refine WLA.call rfl rfl (hl) ?_; rintro ⟨⟩) | (refine WPA.ifT ?_) | (refine WPA.ifF ?_) | ((first | refine WPA.dec ?_); first | refine .inl ⟨by first | assumption | omega | with_reducible rfl | (refine fun h => h ?_; first | assumption | with_reducible rfl) | (simp only [lenS] <;> omega) | decide, ?_⟩ | refine .inr ⟨by first | assumption | omega | with_reducible rfl | (refine fun h => h ?_; first | assumption | with_reducible rfl) | (simp only [lenS] <;> omega) | decide, ?_⟩) | ((first | refine WPA.ifBt ?_ ?_ | refine WPA.ifBnf ?_ ?_); assumption) | ((first | refine WPA.ifBnt ?_ ?_ | refine WPA.ifBf ?_ ?_); assumption) | ((first | refine WPA.ifs ?_ ?_ | refine WPA.ifB ?_ ?_) <;> intro hc))
    exact QQ.end_ rfl () rfl fun w h => h.to
  have hp1 := fun {L : List HP} => Parse_trS (w0 := w0) (I := I) (L := L) (s := s) (by omega)
  cases hps : parseF s with
  | error y =>
    obtain ⟨y1, y2⟩ := y
    obtain ⟨k1, k2⟩ := parse_err hps
    dsimp only at k1 k2
    rw [hps] at hp1
    have hp2 : ∀ {L : List HP}, Tr Tryz.prog 10 #[.string s] (SL w0 I L)
      (fun x : { x : SV × SV × Foot // MdL (x.2.2 ++ I) x.1 x.2.1 [] [] } => .tuple #[.agg #[.int .i64 0, .slice x.1.1.a x.1.1.n x.1.1.cap, .slice x.1.2.1.a x.1.2.1.n x.1.2.1.cap], .int .i64 y1, .int .i64 y2]) (fun x => SL w0 (x.1.2.2 ++ I) L) := hp1
    have e1 : decide (y2 ≠ 0) = true := decide_eq_true k1
    repeat' ((fail_if_success (guard_target =~ WPA _ _ _ (.region 5 _ _) _ _ _)); first | ((rw [e1])) | ((first | refine WLA.m rfl rfl ?_ ?_ | refine WLA.st rfl ?_ ?_ | refine WLA.x rfl rfl ?_ (fun x => ?_) | refine WLA.x0 rfl ?_ (fun x => ?_)); first | exact trivial | exact rfl | assumption | omega | (refine ⟨?_, ?_⟩ <;> omega) | (simp only [Room, lenS]; omega) | decide | skip) | (refine Stp.go ?_) | (guard_target =~ WLA _ _ _ _ _ (⟨_, .call ⟨.value (.func 10), _, _⟩, _, _, _, _⟩ :: _) _ _; refine WLA.call rfl rfl (hp2) ?_; rintro ⟨⟨wv, gv, R⟩, hM⟩) | (refine WPA.ifT ?_) | (refine WPA.ifF ?_) | ((first | refine WPA.dec ?_); first | refine .inl ⟨by first | assumption | omega | with_reducible rfl | (refine fun h => h ?_; first | assumption | with_reducible rfl) | (simp only [lenS] <;> omega) | decide, ?_⟩ | refine .inr ⟨by first | assumption | omega | with_reducible rfl | (refine fun h => h ?_; first | assumption | with_reducible rfl) | (simp only [lenS] <;> omega) | decide, ?_⟩) | ((first | refine WPA.ifBt ?_ ?_ | refine WPA.ifBnf ?_ ?_); assumption) | ((first | refine WPA.ifBnt ?_ ?_ | refine WPA.ifBf ?_ ?_); assumption) | ((first | refine WPA.ifs ?_ ?_ | refine WPA.ifB ?_ ?_) <;> intro hc))
    dsimp only at hM ⊢
    have hw : SlI (R ++ I) wv ByteArray inferInstance [] := hM.1
    have hg : SlI (R ++ I) gv SV inferInstance [] := by
      obtain ⟨_, gr, h1, h2, _⟩ := hM
      have : gr = [] := List.eq_nil_of_length_eq_zero h2
      subst this
      exact h1
    have hl := fun {L : List HP} => live_tr39 (I := R ++ I) (L := L) hT h0
    have e2 : decide (y1 ≥ 0) = true := decide_eq_true k2
    have e2' : decide (0 ≤ y1) = true := decide_eq_true k2
    have e3 : decide (((([] : List SV).length : Nat) : Int) = 0) = true := rfl
    have e4 : decide (((([] : List ByteArray).length : Nat) : Int) = 0) = true := rfl
    repeat' (first | ((rw [e2])) | ((rw [e2'])) | ((rw [e3])) | ((rw [e4])) | ((first | refine WLA.m rfl rfl ?_ ?_ | refine WLA.st rfl ?_ ?_ | refine WLA.x rfl rfl ?_ (fun x => ?_) | refine WLA.x0 rfl ?_ (fun x => ?_)); first | exact trivial | exact rfl | assumption | omega | (refine ⟨?_, ?_⟩ <;> omega) | (simp only [Room, lenS]; omega) | decide | skip) | (refine Stp.go ?_) | (guard_target =~ WLA _ _ _ _ _ (⟨_, .call ⟨.value (.func 7), _, _⟩, _, _, _, _⟩ :: _) _ _; refine WLA.call rfl rfl (hl) ?_; rintro ⟨⟩) | (refine WPA.ifT ?_) | (refine WPA.ifF ?_) | (refine WLA.no rfl rfl ?_) | ((first | refine WPA.dec ?_ | ((fail_if_success (guard_target =~ WLA _ _ _ _ _ _ (put1 _ _ (.bool true)) _)); (fail_if_success (guard_target =~ WLA _ _ _ _ _ _ (put1 _ _ (.bool false)) _)); refine WLA.dec rfl rfl ?_) | refine WLA.pk ?_); first | refine .inl ⟨by first | assumption | omega | with_reducible rfl | (refine fun h => h ?_; first | assumption | with_reducible rfl) | (simp only [lenS] <;> omega) | decide, ?_⟩ | refine .inr ⟨by first | assumption | omega | with_reducible rfl | (refine fun h => h ?_; first | assumption | with_reducible rfl) | (simp only [lenS] <;> omega) | decide, ?_⟩) | ((first | refine WPA.ifBt ?_ ?_ | refine WPA.ifBnf ?_ ?_); assumption) | ((first | refine WPA.ifBnt ?_ ?_ | refine WPA.ifBf ?_ ?_); assumption) | ((first | refine WPA.ifs ?_ ?_ | refine WPA.ifB ?_ ?_) <;> intro hc) | ((fail_if_success (guard_target =~ WLA _ _ _ _ _ _ (put1 _ _ (.bool true)) _)); (fail_if_success (guard_target =~ WLA _ _ _ _ _ _ (put1 _ _ (.bool false)) _)); (first | refine WLA.both rfl rfl ?_ ?_ | refine WLA.bothB rfl rfl ?_ ?_) <;> intro hg))
    exact QQ.end_ rfl () rfl fun w h => (SL.unI h).to
  | ok r =>
    obtain ⟨fr, ws, A⟩ := r
    obtain ⟨k1, k2⟩ := parse_print hps
    obtain ⟨f1, f2, f3, f4⟩ := parse_few (by omega) hps
    rw [hps] at hp1
    have hp2 : ∀ {L : List HP}, Tr Tryz.prog 10 #[.string s] (SL w0 I L)
      (fun x : { x : SV × SV × Foot // MdL (x.2.2 ++ I) x.1 x.2.1 ws A } => .tuple #[.agg #[.int .i64 fr, .slice x.1.1.a x.1.1.n x.1.1.cap, .slice x.1.2.1.a x.1.2.1.n x.1.2.1.cap], .int .i64 0, .int .i64 0]) (fun x => SL w0 (x.1.2.2 ++ I) L) := hp1
    have e1 : decide ((0 : Int) ≠ 0) = false := rfl
    repeat' ((fail_if_success (guard_target =~ WPA _ _ _ (.region 6 _ _) _ _ _)); first | ((rw [e1])) | ((first | refine WLA.m rfl rfl ?_ ?_ | refine WLA.st rfl ?_ ?_ | refine WLA.x rfl rfl ?_ (fun x => ?_) | refine WLA.x0 rfl ?_ (fun x => ?_)); first | exact trivial | exact rfl | assumption | omega | (refine ⟨?_, ?_⟩ <;> omega) | (simp only [Room, lenS]; omega) | decide | skip) | (refine Stp.go ?_) | (guard_target =~ WLA _ _ _ _ _ (⟨_, .call ⟨.value (.func 10), _, _⟩, _, _, _, _⟩ :: _) _ _; refine WLA.call rfl rfl (hp2) ?_; rintro ⟨⟨wv, gv, R⟩, hM⟩) | (refine WPA.ifT ?_) | (refine WPA.ifF ?_) | ((first | refine WPA.dec ?_); first | refine .inl ⟨by first | assumption | omega | with_reducible rfl | (refine fun h => h ?_; first | assumption | with_reducible rfl) | (simp only [lenS] <;> omega) | decide, ?_⟩ | refine .inr ⟨by first | assumption | omega | with_reducible rfl | (refine fun h => h ?_; first | assumption | with_reducible rfl) | (simp only [lenS] <;> omega) | decide, ?_⟩) | ((first | refine WPA.ifBt ?_ ?_ | refine WPA.ifBnf ?_ ?_); assumption) | ((first | refine WPA.ifBnt ?_ ?_ | refine WPA.ifBf ?_ ?_); assumption) | ((first | refine WPA.ifs ?_ ?_ | refine WPA.ifB ?_ ?_) <;> intro hc))
    dsimp only at hM ⊢
    have hpr : ∀ {L : List HP}, Tr Tryz.prog 8 #[.agg #[.int .i64 fr, .slice wv.a wv.n wv.cap, .slice gv.a gv.n gv.cap]] (SL w0 (R ++ I) L) (fun _ : Unit => .tuple #[.string s, .int .i64 0]) (fun _ => SL w0 (R ++ I) L) := fun {L} => by
      have := PrintA_tr (w0 := w0) (L := L) (fr := fr) hT h0 hM f1 f2 f3 f4 (fun _ => by rw [k1]; omega)
      rw [k2, if_pos rfl, k1] at this
      exact this
    have hrc : ∀ {L : List HP}, Tr Tryz.prog 9 #[.agg #[.int .i64 fr, .slice wv.a wv.n wv.cap, .slice gv.a gv.n gv.cap]] (SL w0 (R ++ I) L) (fun _ : Unit => .int .i64 0) (fun _ => SL w0 (R ++ I) L) := fun {L} => by
      have := rCheckA_tr (w0 := w0) (L := L) (fr := fr) hM f1 f2 f3 f4
      rw [k2] at this
      exact this
    have hl := fun {L : List HP} => live_tr39 (I := R ++ I) (L := L) hT h0
    have e2 : decide (s = s) = true := decide_eq_true rfl
    have e3 : decide ((0 : Int) = 0) = true := rfl
    repeat' (first | ((rw [e2])) | ((rw [e3])) | ((first | refine WLA.m rfl rfl ?_ ?_ | refine WLA.st rfl ?_ ?_ | refine WLA.x rfl rfl ?_ (fun x => ?_) | refine WLA.x0 rfl ?_ (fun x => ?_)); first | exact trivial | exact rfl | assumption | omega | (refine ⟨?_, ?_⟩ <;> omega) | (simp only [Room, lenS]; omega) | decide | skip) | (refine Stp.go ?_) | (guard_target =~ WLA _ _ _ _ _ (⟨_, .call ⟨.value (.func 8), _, _⟩, _, _, _, _⟩ :: _) _ _; refine WLA.call rfl rfl (hpr) ?_; rintro ⟨⟩) | (guard_target =~ WLA _ _ _ _ _ (⟨_, .call ⟨.value (.func 9), _, _⟩, _, _, _, _⟩ :: _) _ _; refine WLA.call rfl rfl (hrc) ?_; rintro ⟨⟩) | (guard_target =~ WLA _ _ _ _ _ (⟨_, .call ⟨.value (.func 7), _, _⟩, _, _, _, _⟩ :: _) _ _; refine WLA.call rfl rfl (hl) ?_; rintro ⟨⟩) | (refine WPA.ifT ?_) | (refine WPA.ifF ?_) | (refine WLA.no rfl rfl ?_) | ((first | refine WPA.dec ?_ | ((fail_if_success (guard_target =~ WLA _ _ _ _ _ _ (put1 _ _ (.bool true)) _)); (fail_if_success (guard_target =~ WLA _ _ _ _ _ _ (put1 _ _ (.bool false)) _)); refine WLA.dec rfl rfl ?_) | refine WLA.pk ?_); first | refine .inl ⟨by first | assumption | omega | with_reducible rfl | (refine fun h => h ?_; first | assumption | with_reducible rfl) | (simp only [lenS] <;> omega) | decide, ?_⟩ | refine .inr ⟨by first | assumption | omega | with_reducible rfl | (refine fun h => h ?_; first | assumption | with_reducible rfl) | (simp only [lenS] <;> omega) | decide, ?_⟩) | ((first | refine WPA.ifBt ?_ ?_ | refine WPA.ifBnf ?_ ?_); assumption) | ((first | refine WPA.ifBnt ?_ ?_ | refine WPA.ifBf ?_ ?_); assumption) | ((first | refine WPA.ifs ?_ ?_ | refine WPA.ifB ?_ ?_) <;> intro hc) | ((fail_if_success (guard_target =~ WLA _ _ _ _ _ _ (put1 _ _ (.bool true)) _)); (fail_if_success (guard_target =~ WLA _ _ _ _ _ _ (put1 _ _ (.bool false)) _)); (first | refine WLA.both rfl rfl ?_ ?_ | refine WLA.bothB rfl rfl ?_ ?_) <;> intro hg))
    exact QQ.end_ rfl () rfl fun w h => (SL.unI h).to
theorem tab0 {W : World} (h : TabP W) : TabP { W with drawn := 0 } := by
  unfold TabP at h ⊢
  exact h
theorem ArpaBack_law (W : World) (hT : TabP W) (s : ByteArray) (hs : gStr W s) : Calls Tryz.prog 5 #[.string s] W fun e w' => e = .returned (.bool true) ∧ Below W.heap.size W w' :=
  Calls.below0 (ArpaBack_tr (tab0 hT) rfl)
end
end Go.Proofs.YthkhneimfjaohaaGreatDoor
