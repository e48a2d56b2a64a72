/- Texts that ArpaParses_law leans on, part 19. Conditions: none. -/
import Derived.Test.YthkhneimfjaohaaGreatDoorQq18
namespace Go.Proofs.YthkhneimfjaohaaGreatDoor
open Go Go.Fw Go.RowKit
set_option linter.unusedVariables false
set_option linter.unusedSimpArgs false
set_option maxRecDepth 100000
set_option maxHeartbeats 16000000
set_option synthInstance.maxHeartbeats 200000
set_option synthInstance.maxSize 100000
attribute [local irreducible] WPA WLA WDA WDQ WDE QQ seqQ blockQ loopQ fnQ OpP OpT Tr TrP SL SLd OwnS LitS Bk BkE Ob
attribute [local irreducible] fnX TrX TblH VocH EntOk chkA NumOk
noncomputable def secTT (o : Int) (last : Bool) (r : Nat) : St39 → Except (Int × Int) (List GrL × ByteArray × Int)
  | .ok q => secF o last r q.1 q.2
  | .error y => .error y
noncomputable def allTT (N : Nat) (cs : List Int) (k : Nat) : St39 → Except (Int × Int) (List (List GrL) × ByteArray × Int)
  | .ok q => allF N cs k q.1 q.2
  | .error y => .error y
theorem take_eq (s : ByteArray) (n : Int) : takeT (.ok (s, n)) = if 0 ≤ atB s 10 then (befB s 10, true, .ok (aftB s 10, n + 1)) else (⟨#[]⟩, false, .error (n + 1, 2)) := rfl
theorem want_eq (s b : ByteArray) (n : Int) : wantT b (.ok (s, n)) = if ¬ 0 ≤ atB s 10 then .error (n + 1, 2) else if befB s 10 ≠ b then .error (n + 1, 3) else .ok (aftB s 10, n + 1) := by
  have e0 := take_eq s n
  unfold wantT
  by_cases h : 0 ≤ atB s 10
  · rw [if_pos h] at e0
    rw [e0, if_neg (show ¬ ¬ 0 ≤ atB s 10 from fun k => k h)]
    dsimp only
    by_cases k : befB s 10 = b
    · rw [if_neg (show ¬ (true = true ∧ befB s 10 ≠ b) from fun z => z.2 k), if_neg (show ¬ befB s 10 ≠ b from fun z => z k)]
    · rw [if_pos (show true = true ∧ befB s 10 ≠ b from ⟨rfl, k⟩), if_pos (show befB s 10 ≠ b from k)]; rfl
  · rw [if_neg h] at e0
    rw [e0, if_pos h]
    dsimp only
    rw [if_neg (fun k => by cases k.1)]
theorem want_size {s b : ByteArray} {n : Int} {q : ByteArray × Int} (h : wantT b (.ok (s, n)) = .ok q) : q.1.size ≤ s.size := by
  rw [want_eq] at h
  split at h
  · cases h
  rename_i h0
  split at h
  · cases h
  · injection h with h
    subst h
    have := aft_size (Classical.byContradiction h0)
    dsimp only; omega
theorem want_err (b : ByteArray) (y : Int × Int) : wantT b (.error y) = .error y := by unfold wantT takeT; dsimp only; rw [if_neg (fun k => by cases k.1)]
theorem secTT_none {o : Int} {last : Bool} {r : Nat} {s : ByteArray} {n : Int} (h : ¬ 0 ≤ atB s 10) : secTT o last (r + 1) (.ok (s, n)) = .error (n + 1, 2) := by
  show secF o last (r + 1) s n = _
  rw [secF, if_pos h]
theorem secTT_bad {o : Int} {last : Bool} {r : Nat} {s : ByteArray} {n : Int} (h : 0 ≤ atB s 10) (k : ¬ EntOk o last (befB s 10)) : secTT o last (r + 1) (.ok (s, n)) = .error (n + 1, 3) := by
  show secF o last (r + 1) s n = _
  rw [secF, if_neg (show ¬ ¬ 0 ≤ atB s 10 from fun z => z h), if_pos k]
theorem secTT_ok {o : Int} {last : Bool} {r : Nat} {s : ByteArray} {n : Int} (h : 0 ≤ atB s 10) (k : EntOk o last (befB s 10)) : secTT o last (r + 1) (.ok (s, n)) = (secTT o last r (.ok (aftB s 10, n + 1))).map fun x => (grF last n (befB s 10) :: x.1, x.2) := by
  show secF o last (r + 1) s n = _
  rw [secF, if_neg (show ¬ ¬ 0 ≤ atB s 10 from fun z => z h), if_neg (show ¬ ¬ EntOk o last (befB s 10) from fun z => z k)]; rfl
theorem allTT_cons (N : Nat) (c : Int) (cs : List Int) (k : Nat) (q : ByteArray × Int) : allTT N (c :: cs) k (.ok q) = match secTT ((k + 1 : Nat) : Int) (decide ((k : Int) = (N : Int) - 1)) c.toNat (wantT (secB (k + 1)) (.ok q)) with
    | .error e => .error e
    | .ok (gs, q2) => (allTT N cs (k + 1) (wantT ⟨#[]⟩ (.ok q2))).map fun r => (gs :: r.1, r.2) := by
  obtain ⟨s, n⟩ := q
  show allF N (c :: cs) k s n = _
  rw [allF, want_eq]
  by_cases h : 0 ≤ atB s 10
  · rw [if_neg (show ¬ ¬ 0 ≤ atB s 10 from fun z => z h), if_neg (show ¬ ¬ 0 ≤ atB s 10 from fun z => z h)]
    by_cases k2 : befB s 10 = secB (k + 1)
    · rw [if_neg (show ¬ befB s 10 ≠ secB (k + 1) from fun z => z k2), if_neg (show ¬ befB s 10 ≠ secB (k + 1) from fun z => z k2)]
      show (_ : Except (Int × Int) (List (List GrL) × ByteArray × Int)) = match secF ((k + 1 : Nat) : Int) (decide ((k : Int) = (N : Int) - 1)) c.toNat (aftB s 10) (n + 1) with
        | .error e => .error e
        | .ok (gs, q2) => (allTT N cs (k + 1) (wantT ⟨#[]⟩ (.ok q2))).map fun r => (gs :: r.1, r.2)
      cases secF ((k + 1 : Nat) : Int) (decide ((k : Int) = (N : Int) - 1)) c.toNat (aftB s 10) (n + 1) with
      | error e => rfl
      | ok r =>
        obtain ⟨gs, s2, n2⟩ := r
        dsimp only
        rw [want_eq]
        by_cases h2 : 0 ≤ atB s2 10
        · rw [if_neg (show ¬ ¬ 0 ≤ atB s2 10 from fun z => z h2), if_neg (show ¬ ¬ 0 ≤ atB s2 10 from fun z => z h2)]
          by_cases k3 : befB s2 10 = ⟨#[]⟩
          · rw [if_neg (show ¬ befB s2 10 ≠ ⟨#[]⟩ from fun z => z k3), if_neg (show ¬ befB s2 10 ≠ ⟨#[]⟩ from fun z => z k3)]; rfl
          · rw [if_pos (show befB s2 10 ≠ ⟨#[]⟩ from k3), if_pos (show befB s2 10 ≠ ⟨#[]⟩ from k3)]; rfl
        · rw [if_pos h2, if_pos h2]; rfl
    · rw [if_pos (show befB s 10 ≠ secB (k + 1) from k2), if_pos (show befB s 10 ≠ secB (k + 1) from k2)]; rfl
  · rw [if_pos h, if_pos h]; rfl
theorem allTT_nil (N : Nat) (k : Nat) (q : ByteArray × Int) : allTT N [] k (.ok q) = match wantT endB (.ok q) with
    | .error y => .error y
    | .ok q2 => if q2.1 ≠ ⟨#[]⟩ then .error (q2.2 + 1, 3) else .ok ([], q2.1, q2.2 + 1) := by
  obtain ⟨s, n⟩ := q
  show allF N [] k s n = _
  rw [allF, want_eq]
  by_cases h : 0 ≤ atB s 10
  · rw [if_neg (show ¬ ¬ 0 ≤ atB s 10 from fun z => z h), if_neg (show ¬ ¬ 0 ≤ atB s 10 from fun z => z h)]
    by_cases k2 : befB s 10 = endB
    · rw [if_neg (show ¬ befB s 10 ≠ endB from fun z => z k2), if_neg (show ¬ befB s 10 ≠ endB from fun z => z k2)]
    · rw [if_pos (show befB s 10 ≠ endB from k2), if_pos (show befB s 10 ≠ endB from k2)]
  · rw [if_pos h, if_pos h]
theorem parse_all {s : ByteArray} {fr : Int} {cs : List Int} {st : St39} (h1 : ∀ q, st = .ok q → headF s 0 = .ok ((fr, cs), q)) (h2 : ∀ y, st = .error y → headF s 0 = .error y) :
    parseF s = match allTT cs.length cs 0 st with
      | .error y => .error y
      | .ok (gss, _) => toldF fr gss := by
  unfold parseF
  cases st with
  | error y => rw [h2 y rfl]; rfl
  | ok q =>
    obtain ⟨s1, n1⟩ := q
    rw [h1 _ rfl]
    show (match allF cs.length cs 0 s1 n1 with | .error y => _ | .ok (gss, _) => _) = match allF cs.length cs 0 s1 n1 with | .error y => _ | .ok (gss, _) => _
    cases allF cs.length cs 0 s1 n1 with
    | error y => rfl
    | ok r => rfl
theorem last_line {Ls : List ByteArray} {r : ByteArray} {n : Int} (h : stOk Ls (.ok (r, n))) : (0 ≤ n ∧ n < Ls.length) ∧ (¬ n = (Ls.length : Int) - 1 → r ≠ ⟨#[]⟩) ∧ (n = (Ls.length : Int) - 1 → at_ Ls n = r) := by
  obtain ⟨⟨h1, h2⟩, h3⟩ := h
  dsimp only at h1 h2 h3
  have hlen := congrArg List.length h3
  rw [List.length_drop] at hlen
  have hp : 0 < (splB r 10).length := List.length_pos_iff.2 (spl_ne _ _)
  have hat : ∀ y l, splB r 10 = y :: l → at_ Ls n = y := fun y l e => by
    unfold at_
    rw [List.getD_eq_getElem?_getD]
    have := congrArg (fun l => l[0]?) h3
    simp only [List.getElem?_drop, Nat.add_zero] at this
    rw [this, e]; rfl
  refine ⟨by omega, fun k e => ?_, fun k => ?_⟩
  · subst e
    have : splB ⟨#[]⟩ 10 = [⟨#[]⟩] := spl_no (by decide)
    rw [this] at hlen
    have : ([⟨#[]⟩] : List ByteArray).length = 1 := rfl
    omega
  · by_cases h0 : 0 ≤ atB r 10
    · rw [spl_yes h0, List.length_cons] at hlen
      have := List.length_pos_iff.2 (spl_ne (aftB r 10) 10)
      omega
    · exact hat r [] (spl_no h0)
structure PO where
  k : Nat
  st : St39
  v : SV
  vs : List SV
  dn : List (List GrL)
  J : Foot
structure PN where
  st : St39
  i : Nat
  q : SV
  gs : List LE
  dg : List GrL
  r : Nat
  J : Foot
section
variable {L L' : List HP} {w0 : World} {I : Foot}
theorem told_trS2 {av : SV} {vs : List SV} {gss : List (List GrL)} {fr : Int} [hav : SlI I av SV inferInstance vs] (hvl : vs.length = gss.length) (hpos : 0 < gss.length) (hrow : ∀ j : Nat, j < gss.length → RowL I (at_ vs (j : Int)) (gss.getD j [])) (hgl : gss.length ≤ 8) (hwl0 : ∀ r ∈ gss, ∀ g ∈ r, g.words.length ≤ 1000001) (hlen : ∀ r ∈ gss, r.length ≤ 1000000) (hw1 : ∀ g ∈ gss.getD 0 [], 0 < g.words.length)
    (hfew : ∀ rows, rowsF (idF (gss.getD 0 [])) gss = .ok rows → (∀ w ∈ wdsF (gss.getD 0 []), w.size ≤ 140737488351232) ∧ (wdsF (gss.getD 0 [])).length ≤ 1000000 ∧ (evs rows).length ≤ 1000000 ∧ ∀ es ∈ evs rows, es.length ≤ 1000000 ∧ ∀ e ∈ es, e.2.length ≤ 1000000) :
    Tr Tryz.prog 38 #[.int .i64 fr, .slice av.a av.n av.cap] (SL w0 I L)
      (fun x : { x : SV × SV × Foot // MdL (x.2.2 ++ I) x.1 x.2.1 (prW (toldF fr gss)) (prA (toldF fr gss)) } => .tuple #[.agg #[.int .i64 (prF (toldF fr gss)), .slice x.1.1.a x.1.1.n x.1.1.cap, .slice x.1.2.1.a x.1.2.1.n x.1.2.1.cap], .int .i64 (prY (toldF fr gss)).1, .int .i64 (prY (toldF fr gss)).2])
      (fun x => SL w0 (x.1.2.2 ++ I) L) := by
  have h := told_trR (w0 := w0) (I := I) (L := L) (av := av) (vs := vs) (fr := fr) hvl hpos hrow hgl hwl0 hlen hw1 hfew
  unfold Tr at h ⊢
  intro w hw
  refine (h w hw).mono ?_
  rintro e w' ⟨x, he, ⟨h1, h2⟩, h3⟩
  exact ⟨⟨x, h2.sub ⟨fun z hz => List.mem_append_left _ hz⟩⟩, he, h3.sub fun z hz => by
    rcases List.mem_append.1 hz with hz | hz
    · exact hz
    · exact h1.out hz⟩
theorem Parse_trR {s : ByteArray} (hs : s.size ≤ 900000) :
    Tr Tryz.prog 13 #[.string s] (SL w0 I L)
      (fun x : { x : SV × SV × Foot // MdL (x.2.2 ++ I) x.1 x.2.1 (prW (parseF s)) (prA (parseF s)) } => .tuple #[.agg #[.int .i64 (prF (parseF s)), .slice x.1.1.a x.1.1.n x.1.1.cap, .slice x.1.2.1.a x.1.2.1.n x.1.2.1.cap], .int .i64 (prY (parseF s)).1, .int .i64 (prY (parseF s)).2])
      (fun x => SL w0 (x.1.2.2 ++ I) L) := by
  refine Tr.intro Tryz.func13 rfl Tryz.ntmps13 rfl ?_
  have hc : ∀ {L : List HP}, Tr Tryz.prog 32 #[.string s, .int .u8 10] (SL w0 I L) (fun r : SV => .slice r.a r.n r.cap) (fun r => SL w0 I (OwnS 9 r (splB s 10) :: L)) := fun {L} => Cut_trR (c := 10) (by omega)
  obtain ⟨Ls, hLs⟩ : ∃ Ls, splB s 10 = Ls := ⟨_, rfl⟩
  rw [hLs] at hc
  repeat' ((fail_if_success (guard_target =~ WPA _ _ _ (.region 2 _ _) _ _ _)); first | ((first | refine WLA.m rfl rfl ?_ ?_ | refine WLA.st rfl ?_ ?_ | refine WLA.x rfl rfl ?_ (fun x => ?_) | refine WLA.x0 rfl ?_ (fun x => ?_)); first | exact sdT | skip) | (refine Stp.go ?_) | (guard_target =~ WLA _ _ _ _ _ (⟨_, .call ⟨.value (.func 32), _, _⟩, _, _, _, _⟩ :: _) _ _; refine WLA.call rfl rfl (hc) ?_; rintro lv) | (refine WPA.ifT ?_) | (refine WPA.ifF ?_) | ((first | refine WPA.dec ?_); first | refine orL ?_ | refine orR ?_) | ((first | refine WPA.ifBt ?_ ?_ | refine WPA.ifBnf ?_ ?_); assumption) | ((first | refine WPA.ifBnt ?_ ?_ | refine WPA.ifBf ?_ ?_); assumption) | ((first | refine WPA.ifs ?_ ?_ | refine WPA.ifB ?_ ?_) <;> intro hc))
  revert x; intro P
  revert x; intro X2
  have ef : ∀ y : SV × Int × Int, TxH P y = Bk P 76 [.slice y.1.a y.1.n y.1.cap, .int .i64 y.2.1, .int .i64 y.2.2] := fun y => rfl
  have hf0 : TxH P (lv, 0, 0) = Bk P 76 [.slice lv.a lv.n lv.cap, .int .i64 0, .int .i64 0] := rfl
  refine WPA.ent (EntC.out (L' := OwnS 9 lv Ls :: Bk P 76 [.slice lv.a lv.n lv.cap, .int .i64 0, .int .i64 0] :: Bk X2 25 [.int .i64 0, .slice none 0 0, .slice none 0 0] :: L)) ?_
  rw [← hf0]
  refine WPA.freeze fun R0 hR0 => ?_
  have hlv0 : SlI (R0 ++ I) lv ByteArray inferInstance Ls := by have := SlI.ofOwn hR0; infer_instance
  clear hR0
  have hct := fun {L L' : List HP} [FindK L TxH P (lv, 0, 0) L'] => counts_trR (w0 := w0) (I := R0 ++ I) (L := L) (L' := L') (P := P) (lv := lv) (Ls := Ls) hs hLs.symm
  repeat' ((fail_if_success (guard_target =~ WPA _ _ _ (.region 3 _ _) _ _ _)); first | ((first | refine WLA.m rfl rfl ?_ ?_ | refine WLA.st rfl ?_ ?_ | refine WLA.x rfl rfl ?_ (fun x => ?_) | refine WLA.x0 rfl ?_ (fun x => ?_)); first | exact sdT | skip) | (refine Stp.go ?_) | (guard_target =~ WLA _ _ _ _ _ (⟨_, .call ⟨.value (.func 33), _, _⟩, _, _, _, _⟩ :: _) _ _; refine WLA.call rfl rfl (hct) ?_; rintro ⟨⟨⟨fr, cs⟩, cv, st0⟩, ⟨hh1, hh2⟩, hst0⟩) | (refine WPA.ifT ?_) | (refine WPA.ifF ?_) | ((first | refine WPA.dec ?_); first | refine orL ?_ | refine orR ?_) | ((first | refine WPA.ifBt ?_ ?_ | refine WPA.ifBnf ?_ ?_); assumption) | ((first | refine WPA.ifBnt ?_ ?_ | refine WPA.ifBf ?_ ?_); assumption) | ((first | refine WPA.ifs ?_ ?_ | refine WPA.ifB ?_ ?_) <;> intro hc))
  dsimp only at hh1 hh2 hst0 ⊢
  refine WPA.freeze fun R1 hR1 => ?_
  have hcv0 : SlI (R1 ++ (R0 ++ I)) cv Int inferInstance cs := by have := SlI.ofOwn hR1; infer_instance
  have hlv1 : SlI (R1 ++ (R0 ++ I)) lv ByteArray inferInstance Ls := hlv0.sub
  clear hR1
  have hpa := parse_all hh1 hh2
  have hHC : ∀ q, st0 = .ok q → (cs ≠ [] ∧ cs.length ≤ 8 ∧ ∀ c ∈ cs, 0 ≤ c) ∧ q.2 + q.1.size ≤ s.size := fun q hq => by
    obtain ⟨q1, q2⟩ := q
    obtain ⟨c1, c2, c3⟩ := headF_ok (hh1 _ hq)
    exact ⟨c1, by dsimp only; omega⟩
  obtain ⟨A0, hA0⟩ : ∃ A0, allTT cs.length cs 0 st0 = A0 := ⟨_, rfl⟩
  rw [hA0] at hpa
  have hEr : ∀ {y : Int × Int}, A0 = .error y → parseF s = .error y := fun {y} he => by rw [hpa, he]
  obtain ⟨J0, hJ0⟩ : ∃ J0, R1 ++ (R0 ++ I) = J0 := ⟨_, rfl⟩
  have hJI : SubI J0 I := by rw [← hJ0]; infer_instance
  rw [hJ0] at hcv0 hlv1 ⊢
  clear hJ0 hlv0 hct
  repeat' ((fail_if_success (guard_target =~ WPA _ _ _ (.region 5 _ _) _ _ _)); first | ((first | refine WLA.m rfl rfl ?_ ?_ | refine WLA.st rfl ?_ ?_ | refine WLA.x rfl rfl ?_ (fun x => ?_) | refine WLA.x0 rfl ?_ (fun x => ?_)); first | exact sdT | skip) | (refine Stp.go ?_) | (refine WPA.ifT ?_) | (refine WPA.ifF ?_) | ((first | refine WPA.dec ?_); first | refine orL ?_ | refine orR ?_) | ((first | refine WPA.ifBt ?_ ?_ | refine WPA.ifBnf ?_ ?_); assumption) | ((first | refine WPA.ifBnt ?_ ?_ | refine WPA.ifBf ?_ ?_); assumption) | ((first | refine WPA.ifs ?_ ?_ | refine WPA.ifB ?_ ?_) <;> intro hc))
  refine WPA.loopS (σ := PO) (fun y => [(2, .pointer (some ⟨X2, 0, none⟩)), (3, .int .i64 0), (4, .int .i64 0), (5, .pointer (some ⟨P, 0, none⟩)), (6, .int .i64 fr), (7, .slice cv.a cv.n cv.cap), (8, .slice y.v.a y.v.n y.v.cap), (9, .int .i64 y.k)])
    (fun y => (y.k ≤ cs.length ∧ y.vs.length = y.k ∧ y.dn.length = y.k ∧ SubI y.J J0) ∧ stOk Ls y.st ∧ (∀ q, y.st = .ok q → (cs ≠ [] ∧ cs.length ≤ 8 ∧ ∀ c ∈ cs, 0 ≤ c) ∧ (∃ q0, st0 = .ok q0) ∧ q.1.size ≤ 900000 ∧ ∀ j : Nat, j < y.dn.length → RowL y.J (at_ y.vs (j : Int)) (y.dn.getD j [])) ∧ (allTT cs.length (cs.drop y.k) y.k y.st).map (fun r => (y.dn ++ r.1, r.2)) = A0)
    (fun y => SL w0 y.J (OwnS 79 y.v y.vs :: TxH P (stV lv y.st) :: Bk X2 25 [.int .i64 0, .slice none 0 0, .slice none 0 0] :: L)) (fun y => cs.length - y.k) ⟨0, st0, SV.nil, [], [], J0⟩ ⟨rfl, rfl, rfl, rfl, rfl, rfl, rfl, rfl, trivial⟩
    ⟨⟨Nat.zero_le _, rfl, rfl, inferInstance⟩, hst0, fun q hq => ⟨(hHC q hq).1, ⟨q, hq⟩, by have h1 := (hHC q hq).2; have h2 : stOk Ls (.ok q) := (show st0 = .ok q from hq) ▸ hst0; have h3 := h2.1.1; omega, fun j hj => absurd hj (Nat.not_lt_zero j)⟩, by dsimp only; rw [List.drop_zero, map_nil]; exact hA0⟩ (fun w h => by
      have h2 := (Ent.ownNil (α := SV) (t := 79) Ent.refl).sl h
      show SL w0 J0 (OwnS 79 SV.nil ([] : List SV) :: TxH P (stV lv st0) :: Bk X2 25 [.int .i64 0, .slice none 0 0, .slice none 0 0] :: L) w
      exact h2.to) ?_
  rintro ⟨k, st, v, vs, dn, J⟩ ρ ⟨⟨hk, hvl, hdn, hJ⟩, hst, hok, hA⟩
  dsimp only at hk hvl hdn hJ hst hok hA ⊢
  have hcJ : SlI J cv Int inferInstance cs := hcv0.sub
  have hlJ : SlI J lv ByteArray inferInstance Ls := hlv1.sub
  have hJI2 : SubI J I := ⟨fun z hz => hJ.out (hJI.out hz)⟩
  cases st with
  | error y =>
    have hy : y.2 ≠ 0 := hst
    have hyd : ¬ y.2 = 0 := hst
    have hA1 : parseF s = .error y := hEr hA.symm
    have hwe := fun {L L' : List HP} [FindK L TxH P (stV lv (.error y)) L'] => want_trR (w0 := w0) (I := J) (L := L) (L' := L') (P := P) (lv := lv) (s := endB) hst
    have e1 : wantT endB (.error y) = .error y := by unfold wantT takeT; dsimp only; rw [if_neg (fun k => by cases k.1)]
    rw [e1] at hwe
    rw [hA1]
    have e2 : TxH P (stV lv (.error y)) = Bk P 76 [.slice lv.a lv.n lv.cap, .int .i64 y.1, .int .i64 y.2] := rfl
    rw [e2]
    by_cases hkl : (k : Int) < cs.length
    · skip
      repeat' ((fail_if_success (guard_target =~ WPA _ _ _ (.region 20 _ _) _ _ _)); first | ((first | refine WLA.m rfl rfl ?_ ?_ | refine WLA.st rfl ?_ ?_ | refine WLA.x rfl rfl ?_ (fun x => ?_) | refine WLA.x0 rfl ?_ (fun x => ?_)); first | exact sdT | skip) | (refine Stp.go ?_) | (refine WPA.ifT ?_) | (refine WPA.ifF ?_) | (refine WLA.no rfl rfl ?_) | ((first | refine WPA.dec ?_ | ((fail_if_success (guard_target =~ WLA _ _ _ _ _ _ (put1 _ _ (.bool true)) _)); (fail_if_success (guard_target =~ WLA _ _ _ _ _ _ (put1 _ _ (.bool false)) _)); refine WLA.dec rfl rfl ?_) | refine WLA.pk ?_); first | refine orL ?_ | refine orR ?_) | ((first | refine WPA.ifBt ?_ ?_ | refine WPA.ifBnf ?_ ?_); assumption) | ((first | refine WPA.ifBnt ?_ ?_ | refine WPA.ifBf ?_ ?_); assumption) | ((first | refine WPA.ifs ?_ ?_ | refine WPA.ifB ?_ ?_) <;> intro hc) | ((fail_if_success (guard_target =~ WLA _ _ _ _ _ _ (put1 _ _ (.bool true)) _)); (fail_if_success (guard_target =~ WLA _ _ _ _ _ _ (put1 _ _ (.bool false)) _)); (first | refine WLA.both rfl rfl ?_ ?_ | refine WLA.bothB rfl rfl ?_ ?_) <;> intro hg))
      rw [← e2]
      repeat' ((fail_if_success (guard_target =~ WPA _ _ _ (.region 21 _ _) _ _ _)); first | ((first | refine WLA.m rfl rfl ?_ ?_ | refine WLA.st rfl ?_ ?_ | refine WLA.x rfl rfl ?_ (fun x => ?_) | refine WLA.x0 rfl ?_ (fun x => ?_)); first | exact sdT | skip) | (refine Stp.go ?_) | (guard_target =~ WLA _ _ _ _ _ (⟨_, .call ⟨.value (.func 34), _, _⟩, _, _, _, _⟩ :: _) _ _; refine WLA.call rfl rfl (hwe) ?_; rintro ⟨⟩) | (refine WPA.ifT ?_) | (refine WPA.ifF ?_) | ((first | refine WPA.dec ?_); first | refine orL ?_ | refine orR ?_) | ((first | refine WPA.ifBt ?_ ?_ | refine WPA.ifBnf ?_ ?_); assumption) | ((first | refine WPA.ifBnt ?_ ?_ | refine WPA.ifBf ?_ ?_); assumption) | ((first | refine WPA.ifs ?_ ?_ | refine WPA.ifB ?_ ?_) <;> intro hc))
      rw [e2]
      repeat' ((fail_if_success (guard_target =~ WPA _ _ _ (.region 25 _ _) _ _ _)); first | ((first | refine WLA.m rfl rfl ?_ ?_ | refine WDQ.m rfl rfl ?_ ?_ | refine WLA.st rfl ?_ ?_ | refine WLA.x rfl rfl ?_ (fun x => ?_) | refine WLA.x0 rfl ?_ (fun x => ?_)); first | exact sdT | skip) | (refine Stp.go ?_) | (refine WPA.ifT ?_) | (refine WPA.ifF ?_) | (refine WLA.no rfl rfl ?_) | (refine WDQ.no rfl rfl ?_) | ((first | refine WPA.dec ?_ | ((fail_if_success (guard_target =~ WLA _ _ _ _ _ _ (put1 _ _ (.bool true)) _)); (fail_if_success (guard_target =~ WLA _ _ _ _ _ _ (put1 _ _ (.bool false)) _)); refine WLA.dec rfl rfl ?_) | refine WLA.pk ?_ | refine WDQ.dec rfl rfl ?_); first | refine orL ?_ | refine orR ?_) | ((first | refine WPA.ifBt ?_ ?_ | refine WPA.ifBnf ?_ ?_); assumption) | ((first | refine WPA.ifBnt ?_ ?_ | refine WPA.ifBf ?_ ?_); assumption) | ((first | refine WPA.ifs ?_ ?_ | refine WPA.ifB ?_ ?_) <;> intro hc) | ((fail_if_success (guard_target =~ WLA _ _ _ _ _ _ (put1 _ _ (.bool true)) _)); (fail_if_success (guard_target =~ WLA _ _ _ _ _ _ (put1 _ _ (.bool false)) _)); (first | refine WLA.both rfl rfl ?_ ?_ | refine WLA.bothB rfl rfl ?_ ?_) <;> intro hg) | (guard_target =~ WPA _ _ _ (.region 21 _ true) _ _ _; refine WPA.drawT 26 (.q 0 (.q 1 (.q 2 (.q 3 (.q 4 (.q 5 (.q 6 (.q 7 (.q 8 (.q 9 (.q 10 (.q 11 (.q 12 (.q 13 (.q 14 (.q 15 (.q 16 (.q 17 (.q 18 (.q 19 (.q 20 (.q 21 (.q 22 (.q 23 (.q 24 (.q 25 .fin)))))))))))))))))))))))))) mixed ?_ ?_; kernel_rfl) | (refine WDA.finish (tl := [⟨_, _, _, _, _, _⟩, ⟨_, _, _, _, _, _⟩, ⟨_, _, _, _, _, _⟩, ⟨_, _, _, _, _, _⟩, ⟨_, _, _, _, _, _⟩]) rfl ?_) | (refine WDQ.see rfl ?_) | ((first | refine WDQ.both rfl rfl ?_ ?_) <;> intro hg))
      refine WPA.freezeBk (b := P) ?_
      repeat' (first | ((first | refine WLA.m rfl rfl ?_ ?_ | refine WDQ.m rfl rfl ?_ ?_ | refine WDP.m rfl rfl ?_ ?_ | refine WLA.st rfl ?_ ?_ | refine WLA.x rfl rfl ?_ (fun x => ?_) | refine WLA.x0 rfl ?_ (fun x => ?_) | refine WDW.x rfl rfl ?_ (fun x => ?_) | refine WDW.st rfl ?_ ?_); first | exact sdT | skip) | (refine Stp.go ?_) | (refine WPA.ifT ?_) | (refine WPA.ifF ?_) | ((first | refine WPA.dec ?_); first | refine orL ?_ | refine orR ?_) | ((first | refine WPA.ifBt ?_ ?_ | refine WPA.ifBnf ?_ ?_); assumption) | ((first | refine WPA.ifBnt ?_ ?_ | refine WPA.ifBf ?_ ?_); assumption) | ((first | refine WPA.ifs ?_ ?_ | refine WPA.ifB ?_ ?_) <;> intro hc) | (guard_target =~ WPA _ _ _ (.region 25 _ true) _ _ _; refine WPA.drawT 11 (.p 0 (.p 1 (.p 2 (.p 3 (.p 4 (.p 5 (.p 6 (.p 7 (.p 8 (.w 9 (.p 10 .fin))))))))))) mixed ?_ ?_; kernel_rfl) | (refine WDA.finish (tl := [⟨_, _, _, _, _, _⟩]) rfl ?_) | (refine WDQ.see rfl ?_) | (refine WDP.see rfl ?_) | (refine WDW.see rfl ?_))
      all_goals exact QQ.endc rfl ⟨(SV.nil, SV.nil, []), MdL.nil⟩ rfl fun w h => (((SL.unI h).sub hJI2.out).to)
    · skip
      repeat' ((fail_if_success (guard_target =~ WPA _ _ _ (.region 20 _ _) _ _ _)); first | ((first | refine WLA.m rfl rfl ?_ ?_ | refine WLA.st rfl ?_ ?_ | refine WLA.x rfl rfl ?_ (fun x => ?_) | refine WLA.x0 rfl ?_ (fun x => ?_)); first | exact sdT | skip) | (refine Stp.go ?_) | (refine WPA.ifT ?_) | (refine WPA.ifF ?_) | (refine WLA.no rfl rfl ?_) | ((first | refine WPA.dec ?_ | ((fail_if_success (guard_target =~ WLA _ _ _ _ _ _ (put1 _ _ (.bool true)) _)); (fail_if_success (guard_target =~ WLA _ _ _ _ _ _ (put1 _ _ (.bool false)) _)); refine WLA.dec rfl rfl ?_) | refine WLA.pk ?_); first | refine orL ?_ | refine orR ?_) | ((first | refine WPA.ifBt ?_ ?_ | refine WPA.ifBnf ?_ ?_); assumption) | ((first | refine WPA.ifBnt ?_ ?_ | refine WPA.ifBf ?_ ?_); assumption) | ((first | refine WPA.ifs ?_ ?_ | refine WPA.ifB ?_ ?_) <;> intro hc) | ((fail_if_success (guard_target =~ WLA _ _ _ _ _ _ (put1 _ _ (.bool true)) _)); (fail_if_success (guard_target =~ WLA _ _ _ _ _ _ (put1 _ _ (.bool false)) _)); (first | refine WLA.both rfl rfl ?_ ?_ | refine WLA.bothB rfl rfl ?_ ?_) <;> intro hg))
      rw [← e2]
      repeat' ((fail_if_success (guard_target =~ WPA _ _ _ (.region 21 _ _) _ _ _)); first | ((first | refine WLA.m rfl rfl ?_ ?_ | refine WLA.st rfl ?_ ?_ | refine WLA.x rfl rfl ?_ (fun x => ?_) | refine WLA.x0 rfl ?_ (fun x => ?_)); first | exact sdT | skip) | (refine Stp.go ?_) | (guard_target =~ WLA _ _ _ _ _ (⟨_, .call ⟨.value (.func 34), _, _⟩, _, _, _, _⟩ :: _) _ _; refine WLA.call rfl rfl (hwe) ?_; rintro ⟨⟩) | (refine WPA.ifT ?_) | (refine WPA.ifF ?_) | ((first | refine WPA.dec ?_); first | refine orL ?_ | refine orR ?_) | ((first | refine WPA.ifBt ?_ ?_ | refine WPA.ifBnf ?_ ?_); assumption) | ((first | refine WPA.ifBnt ?_ ?_ | refine WPA.ifBf ?_ ?_); assumption) | ((first | refine WPA.ifs ?_ ?_ | refine WPA.ifB ?_ ?_) <;> intro hc))
      rw [e2]
      repeat' ((fail_if_success (guard_target =~ WPA _ _ _ (.region 25 _ _) _ _ _)); first | ((first | refine WLA.m rfl rfl ?_ ?_ | refine WDQ.m rfl rfl ?_ ?_ | refine WLA.st rfl ?_ ?_ | refine WLA.x rfl rfl ?_ (fun x => ?_) | refine WLA.x0 rfl ?_ (fun x => ?_)); first | exact sdT | skip) | (refine Stp.go ?_) | (refine WPA.ifT ?_) | (refine WPA.ifF ?_) | (refine WLA.no rfl rfl ?_) | (refine WDQ.no rfl rfl ?_) | ((first | refine WPA.dec ?_ | ((fail_if_success (guard_target =~ WLA _ _ _ _ _ _ (put1 _ _ (.bool true)) _)); (fail_if_success (guard_target =~ WLA _ _ _ _ _ _ (put1 _ _ (.bool false)) _)); refine WLA.dec rfl rfl ?_) | refine WLA.pk ?_ | refine WDQ.dec rfl rfl ?_); first | refine orL ?_ | refine orR ?_) | ((first | refine WPA.ifBt ?_ ?_ | refine WPA.ifBnf ?_ ?_); assumption) | ((first | refine WPA.ifBnt ?_ ?_ | refine WPA.ifBf ?_ ?_); assumption) | ((first | refine WPA.ifs ?_ ?_ | refine WPA.ifB ?_ ?_) <;> intro hc) | ((fail_if_success (guard_target =~ WLA _ _ _ _ _ _ (put1 _ _ (.bool true)) _)); (fail_if_success (guard_target =~ WLA _ _ _ _ _ _ (put1 _ _ (.bool false)) _)); (first | refine WLA.both rfl rfl ?_ ?_ | refine WLA.bothB rfl rfl ?_ ?_) <;> intro hg) | (guard_target =~ WPA _ _ _ (.region 21 _ true) _ _ _; refine WPA.drawT 26 (.q 0 (.q 1 (.q 2 (.q 3 (.q 4 (.q 5 (.q 6 (.q 7 (.q 8 (.q 9 (.q 10 (.q 11 (.q 12 (.q 13 (.q 14 (.q 15 (.q 16 (.q 17 (.q 18 (.q 19 (.q 20 (.q 21 (.q 22 (.q 23 (.q 24 (.q 25 .fin)))))))))))))))))))))))))) mixed ?_ ?_; kernel_rfl) | (refine WDA.finish (tl := [⟨_, _, _, _, _, _⟩, ⟨_, _, _, _, _, _⟩, ⟨_, _, _, _, _, _⟩, ⟨_, _, _, _, _, _⟩, ⟨_, _, _, _, _, _⟩]) rfl ?_) | (refine WDQ.see rfl ?_) | ((first | refine WDQ.both rfl rfl ?_ ?_) <;> intro hg))
      refine WPA.freezeBk (b := P) ?_
      repeat' (first | ((first | refine WLA.m rfl rfl ?_ ?_ | refine WDQ.m rfl rfl ?_ ?_ | refine WDP.m rfl rfl ?_ ?_ | refine WLA.st rfl ?_ ?_ | refine WLA.x rfl rfl ?_ (fun x => ?_) | refine WLA.x0 rfl ?_ (fun x => ?_) | refine WDW.x rfl rfl ?_ (fun x => ?_) | refine WDW.st rfl ?_ ?_); first | exact sdT | skip) | (refine Stp.go ?_) | (refine WPA.ifT ?_) | (refine WPA.ifF ?_) | ((first | refine WPA.dec ?_); first | refine orL ?_ | refine orR ?_) | ((first | refine WPA.ifBt ?_ ?_ | refine WPA.ifBnf ?_ ?_); assumption) | ((first | refine WPA.ifBnt ?_ ?_ | refine WPA.ifBf ?_ ?_); assumption) | ((first | refine WPA.ifs ?_ ?_ | refine WPA.ifB ?_ ?_) <;> intro hc) | (guard_target =~ WPA _ _ _ (.region 25 _ true) _ _ _; refine WPA.drawT 11 (.p 0 (.p 1 (.p 2 (.p 3 (.p 4 (.p 5 (.p 6 (.p 7 (.p 8 (.w 9 (.p 10 .fin))))))))))) mixed ?_ ?_; kernel_rfl) | (refine WDA.finish (tl := [⟨_, _, _, _, _, _⟩]) rfl ?_) | (refine WDQ.see rfl ?_) | (refine WDP.see rfl ?_) | (refine WDW.see rfl ?_))
      all_goals exact QQ.endc rfl ⟨(SV.nil, SV.nil, []), MdL.nil⟩ rfl fun w h => (((SL.unI h).sub hJI2.out).to)
  | ok q =>
    obtain ⟨t, m⟩ := q
    obtain ⟨⟨c1, c2, c3⟩, ⟨q0, hq0⟩, htz, hrow⟩ := hok _ rfl
    dsimp only at htz
    have hfz : (0 : Int) = 0 := rfl
    have e0 : TxH P (stV lv (.ok (t, m))) = Bk P 76 [.slice lv.a lv.n lv.cap, .int .i64 m, .int .i64 0] := rfl
    by_cases hlt : k < cs.length
    · have hkl : (k : Int) < cs.length := by omega
      have hir : (0 : Int) ≤ k ∧ (k : Int) < cs.length := by omega
      rw [List.drop_eq_getElem_cons hlt, ← at_nat cs k hlt] at hA
      have hcm : at_ cs (k : Int) ∈ cs := by rw [at_nat cs k hlt]; exact List.getElem_mem _
      have hcp := c3 _ hcm
      obtain ⟨c, hcc⟩ : ∃ c, at_ cs (k : Int) = c := ⟨_, rfl⟩
      rw [hcc] at hA hcp
      rw [allTT_cons] at hA
      obtain ⟨lt, hlt0⟩ : ∃ b, decide ((k : Int) = (cs.length : Int) - 1) = b := ⟨_, rfl⟩
      rw [hlt0] at hA
      have en : (k : Int) + 1 = ((k + 1 : Nat) : Int) := by omega
      have hit : ∀ {L : List HP}, Tr Tryz.prog 28 #[.int .i64 ((k + 1 : Nat) : Int)] (SL w0 J L) (fun _ : Unit => .string (intS ((k + 1 : Nat) : Int))) (fun _ => SL w0 J L) := fun {L} => Int_tr ⟨by omega, by omega⟩
      have hz0 : (intS ((k + 1 : Nat) : Int)).size = 1 := by unfold intS; rw [if_neg (by omega), Int.toNat_natCast, dec_lt (by omega)]; rfl
      have hz1 : (⟨#[92]⟩ : ByteArray).size + (intS ((k + 1 : Nat) : Int)).size ≤ 9223372036854775807 := by rw [hz0]; decide
      have hz2 : ((⟨#[92]⟩ : ByteArray) ++ intS ((k + 1 : Nat) : Int)).size + (⟨#[45, 103, 114, 97, 109, 115, 58]⟩ : ByteArray).size ≤ 9223372036854775807 := by rw [ByteArray.size_append, hz0]; decide
      have hwn := fun {L L' : List HP} [FindK L TxH P (stV lv (.ok (t, m))) L'] => want_trR (w0 := w0) (I := J) (L := L) (L' := L') (P := P) (lv := lv) (s := secB (k + 1)) hst
      have hst1 := wantT_ok (s := secB (k + 1)) hst
      have hsz1 : ∀ q, wantT (secB (k + 1)) (.ok (t, m)) = .ok q → q.1.size ≤ t.size := fun q hq => want_size hq
      generalize hW : wantT (secB (k + 1)) (.ok (t, m)) = st1 at hwn hst1 hsz1 hA
      rw [e0]
      repeat' ((fail_if_success (guard_target =~ WPA _ _ _ (.region 7 _ _) _ _ _)); first | ((first | refine WLA.m rfl rfl ?_ ?_ | refine WLA.st rfl ?_ ?_ | refine WLA.x rfl rfl ?_ (fun x => ?_) | refine WLA.x0 rfl ?_ (fun x => ?_)); first | exact sdT | skip) | (refine Stp.go ?_) | (refine WPA.ifT ?_) | (refine WPA.ifF ?_) | (refine WLA.no rfl rfl ?_) | ((first | refine WPA.dec ?_ | ((fail_if_success (guard_target =~ WLA _ _ _ _ _ _ (put1 _ _ (.bool true)) _)); (fail_if_success (guard_target =~ WLA _ _ _ _ _ _ (put1 _ _ (.bool false)) _)); refine WLA.dec rfl rfl ?_) | refine WLA.pk ?_); first | refine orL ?_ | refine orR ?_) | ((first | refine WPA.ifBt ?_ ?_ | refine WPA.ifBnf ?_ ?_); assumption) | ((first | refine WPA.ifBnt ?_ ?_ | refine WPA.ifBf ?_ ?_); assumption) | ((first | refine WPA.ifs ?_ ?_ | refine WPA.ifB ?_ ?_) <;> intro hc) | ((fail_if_success (guard_target =~ WLA _ _ _ _ _ _ (put1 _ _ (.bool true)) _)); (fail_if_success (guard_target =~ WLA _ _ _ _ _ _ (put1 _ _ (.bool false)) _)); (first | refine WLA.both rfl rfl ?_ ?_ | refine WLA.bothB rfl rfl ?_ ?_) <;> intro hg))
      rw [← e0]
      have hwn2 : ∀ {L L' : List HP} [FindK L TxH P (stV lv (.ok (t, m))) L'], Tr Tryz.prog 34 #[.pointer (some ⟨P, 0, none⟩), .string (((⟨#[92]⟩ : ByteArray) ++ intS ((k + 1 : Nat) : Int)) ++ ⟨#[45, 103, 114, 97, 109, 115, 58]⟩)] (SL w0 J L) (fun _ : Unit => .tuple #[]) (fun _ => SL w0 J (TxH P (stV lv st1) :: L')) := hwn
      clear hwn
      repeat' ((fail_if_success (guard_target =~ WPA _ _ _ (.region 10 _ _) _ _ _)); first | ((rw [en])) | ((first | refine WLA.m rfl rfl ?_ ?_ | refine WLA.st rfl ?_ ?_ | refine WLA.x rfl rfl ?_ (fun x => ?_) | refine WLA.x0 rfl ?_ (fun x => ?_)); first | exact sdT | skip) | (refine Stp.go ?_) | (guard_target =~ WLA _ _ _ _ _ (⟨_, .call ⟨.value (.func 28), _, _⟩, _, _, _, _⟩ :: _) _ _; refine WLA.call rfl rfl (hit) ?_; rintro ⟨⟩) | (guard_target =~ WLA _ _ _ _ _ (⟨_, .call ⟨.value (.func 34), _, _⟩, _, _, _, _⟩ :: _) _ _; refine WLA.call rfl rfl (hwn2) ?_; rintro ⟨⟩) | (refine WPA.ifT ?_) | (refine WPA.ifF ?_) | ((first | refine WPA.dec ?_); first | refine orL ?_ | refine orR ?_) | ((first | refine WPA.ifBt ?_ ?_ | refine WPA.ifBnf ?_ ?_); assumption) | ((first | refine WPA.ifBnt ?_ ?_ | refine WPA.ifBf ?_ ?_); assumption) | ((first | refine WPA.ifs ?_ ?_ | refine WPA.ifB ?_ ?_) <;> intro hc))
      obtain ⟨X, hX0⟩ : ∃ X, secTT ((k + 1 : Nat) : Int) lt c.toNat st1 = X := ⟨_, rfl⟩
      rw [hX0] at hA
      refine WPA.loopS (σ := PN) (fun y => [(2, .pointer (some ⟨X2, 0, none⟩)), (3, .int .i64 0), (4, .int .i64 0), (5, .pointer (some ⟨P, 0, none⟩)), (6, .int .i64 fr), (7, .slice cv.a cv.n cv.cap), (8, .slice v.a v.n v.cap), (9, .int .i64 k), (10, .slice y.q.a y.q.n y.q.cap), (11, .int .i64 y.i)])
        (fun y => (SubI y.J J ∧ stOk Ls y.st ∧ y.i = y.gs.length) ∧ (∀ p, y.st = .ok p → (LnsI y.J y.gs y.dg ∧ y.r + y.gs.length = c.toNat) ∧ y.gs.length + p.1.size ≤ 900000) ∧ (secTT ((k + 1 : Nat) : Int) lt y.r y.st).map (fun x => (y.dg ++ x.1, x.2)) = X)
        (fun y => SL w0 y.J (OwnS 83 y.q y.gs :: TxH P (stV lv y.st) :: OwnS 79 v vs :: Bk X2 25 [.int .i64 0, .slice none 0 0, .slice none 0 0] :: L)) (fun y => stM y.st) ⟨st1, 0, SV.nil, [], [], c.toNat, J⟩ ⟨rfl, rfl, rfl, rfl, rfl, rfl, rfl, rfl, rfl, rfl, trivial⟩
        ⟨⟨inferInstance, hst1, rfl⟩, fun p hp => ⟨⟨⟨rfl, fun j hj => absurd hj (Nat.not_lt_zero j)⟩, rfl⟩, by have := hsz1 p hp; dsimp only [List.length_nil]; omega⟩, by dsimp only; rw [map_nil]; exact hX0⟩ (fun w h => by
          have h2 := (Ent.ownNil (α := LE) (t := 83) Ent.refl).sl h
          show SL w0 J (OwnS 83 SV.nil ([] : List LE) :: TxH P (stV lv st1) :: OwnS 79 v vs :: Bk X2 25 [.int .i64 0, .slice none 0 0, .slice none 0 0] :: L) w
          exact h2.to) ?_
      clear hX0 hwn2 hst1 hsz1 hW
      rintro ⟨st2, i, q, gs, dg, r, K⟩ ρ ⟨⟨hK, hst2, hig⟩, hok2, hX⟩
      dsimp only at hK hst2 hig hok2 hX ⊢
      have hcK : SlI K cv Int inferInstance cs := hcJ.sub
      have hlK : SlI K lv ByteArray inferInstance Ls := hlJ.sub
      have hKJ0 : SubI K J0 := ⟨fun z hz => hK.out (hJ.out hz)⟩
      have hroomv : Room (vs.length + 1) 24 := ⟨by omega, by omega⟩
      have hwe := fun {L L' : List HP} [FindK L TxH P (stV lv (st2)) L'] => want_trR (w0 := w0) (I := K) (L := L) (L' := L') (P := P) (lv := lv) (s := ⟨#[]⟩) hst2
      cases st2 with
      | error y =>
        have hy : y.2 ≠ 0 := hst2
        have hyd : ¬ y.2 = 0 := hst2
        have hX1 : X = .error y := hX.symm
        rw [hX1] at hA
        have hA1 : Except.error y = A0 := hA
        rw [want_err] at hwe
        have e2 : TxH P (stV lv (.error y)) = Bk P 76 [.slice lv.a lv.n lv.cap, .int .i64 y.1, .int .i64 y.2] := rfl
        rw [e2]
        by_cases hgo : (i : Int) < c
        all_goals
          repeat' ((fail_if_success (guard_target =~ WPA _ _ _ (.region 18 _ _) _ _ _)); first | ((rw [hcc])) | ((first | refine WLA.m rfl rfl ?_ ?_ | refine WLA.st rfl ?_ ?_ | refine WLA.x rfl rfl ?_ (fun x => ?_) | refine WLA.x0 rfl ?_ (fun x => ?_)); first | exact sdT | skip) | (refine Stp.go ?_) | (refine WPA.ifT ?_) | (refine WPA.ifF ?_) | (refine WLA.no rfl rfl ?_) | ((first | refine WPA.dec ?_ | ((fail_if_success (guard_target =~ WLA _ _ _ _ _ _ (put1 _ _ (.bool true)) _)); (fail_if_success (guard_target =~ WLA _ _ _ _ _ _ (put1 _ _ (.bool false)) _)); refine WLA.dec rfl rfl ?_) | refine WLA.pk ?_); first | refine orL ?_ | refine orR ?_) | ((first | refine WPA.ifBt ?_ ?_ | refine WPA.ifBnf ?_ ?_); assumption) | ((first | refine WPA.ifBnt ?_ ?_ | refine WPA.ifBf ?_ ?_); assumption) | ((first | refine WPA.ifs ?_ ?_ | refine WPA.ifB ?_ ?_) <;> intro hc) | ((fail_if_success (guard_target =~ WLA _ _ _ _ _ _ (put1 _ _ (.bool true)) _)); (fail_if_success (guard_target =~ WLA _ _ _ _ _ _ (put1 _ _ (.bool false)) _)); (first | refine WLA.both rfl rfl ?_ ?_ | refine WLA.bothB rfl rfl ?_ ?_) <;> intro hg))
          rw [← e2]
          repeat' (first | ((first | refine WLA.m rfl rfl ?_ ?_ | refine WLA.st rfl ?_ ?_ | refine WLA.x rfl rfl ?_ (fun x => ?_) | refine WLA.x0 rfl ?_ (fun x => ?_)); first | exact sdT | skip) | (refine Stp.go ?_) | (guard_target =~ WLA _ _ _ _ _ (⟨_, .call ⟨.value (.func 34), _, _⟩, _, _, _, _⟩ :: _) _ _; refine WLA.call rfl rfl (hwe) ?_; rintro ⟨⟩) | (refine WPA.ifT ?_) | (refine WPA.ifF ?_) | ((first | refine WPA.dec ?_); first | refine orL ?_ | refine orR ?_) | ((first | refine WPA.ifBt ?_ ?_ | refine WPA.ifBnf ?_ ?_); assumption) | ((first | refine WPA.ifBnt ?_ ?_ | refine WPA.ifBf ?_ ?_); assumption) | ((first | refine WPA.ifs ?_ ?_ | refine WPA.ifB ?_ ?_) <;> intro hc))
          exact QQ.loopS ⟨k + 1, .error y, x, vs ++ [q], dn ++ [dg], K⟩ ⟨rfl, rfl, rfl, rfl, rfl, rfl, rfl, rfl, trivial⟩ ⟨⟨hlt, by dsimp only; rw [List.length_append, List.length_singleton, hvl], by dsimp only; rw [List.length_append, List.length_singleton, hdn], hKJ0⟩, hst2, fun _ h => (by cases h), hA1⟩ (by dsimp only; omega) (fun w h => h.to)
      | ok p =>
        obtain ⟨t2, m2⟩ := p
        obtain ⟨⟨hG, hr⟩, hgz⟩ := hok2 _ rfl
        dsimp only at hgz
        have hgl := hG.1
        have e2 : TxH P (stV lv (.ok (t2, m2))) = Bk P 76 [.slice lv.a lv.n lv.cap, .int .i64 m2, .int .i64 0] := rfl
        rw [e2]
        by_cases hgo : (i : Int) < c
        · obtain ⟨r, rfl⟩ : ∃ r', r = r' + 1 := ⟨r - 1, by omega⟩
          repeat' ((fail_if_success (guard_target =~ WPA _ _ _ (.region 12 _ _) _ _ _)); first | ((rw [hcc])) | ((first | refine WLA.m rfl rfl ?_ ?_ | refine WLA.st rfl ?_ ?_ | refine WLA.x rfl rfl ?_ (fun x => ?_) | refine WLA.x0 rfl ?_ (fun x => ?_)); first | exact sdT | skip) | (refine Stp.go ?_) | (refine WPA.ifT ?_) | (refine WPA.ifF ?_) | (refine WLA.no rfl rfl ?_) | ((first | refine WPA.dec ?_ | ((fail_if_success (guard_target =~ WLA _ _ _ _ _ _ (put1 _ _ (.bool true)) _)); (fail_if_success (guard_target =~ WLA _ _ _ _ _ _ (put1 _ _ (.bool false)) _)); refine WLA.dec rfl rfl ?_) | refine WLA.pk ?_); first | refine orL ?_ | refine orR ?_) | ((first | refine WPA.ifBt ?_ ?_ | refine WPA.ifBnf ?_ ?_); assumption) | ((first | refine WPA.ifBnt ?_ ?_ | refine WPA.ifBf ?_ ?_); assumption) | ((first | refine WPA.ifs ?_ ?_ | refine WPA.ifB ?_ ?_) <;> intro hc) | ((fail_if_success (guard_target =~ WLA _ _ _ _ _ _ (put1 _ _ (.bool true)) _)); (fail_if_success (guard_target =~ WLA _ _ _ _ _ _ (put1 _ _ (.bool false)) _)); (first | refine WLA.both rfl rfl ?_ ?_ | refine WLA.bothB rfl rfl ?_ ?_) <;> intro hg))
          rw [← e2]
          have htk := fun {L L' : List HP} [FindK L TxH P (stV lv (.ok (t2, m2))) L'] => take_trR (w0 := w0) (I := K) (L := L) (L' := L') (P := P) (lv := lv) hst2
          have hst3 := takeT_ok hst2
          have hsz3 := takeT_size hst2
          have et := take_eq t2 m2
          have hroom : Room (gs.length + 1) 72 := ⟨by omega, by omega⟩
          by_cases h0 : 0 ≤ atB t2 10
          · rw [if_pos h0] at et
            rw [et] at htk hst3 hsz3
            dsimp only at htk hst3 hsz3
            have haz := aft_size h0
            have hln := fun {L : List HP} => line_trR (w0 := w0) (I := K) (L := L) (l := befB t2 10) (o := ((k + 1 : Nat) : Int)) (last := lt) hsz3
            repeat' ((fail_if_success (guard_target =~ WPA _ _ _ (.region 14 _ _) _ _ _)); first | ((rw [en])) | ((rw [hlt0])) | ((first | refine WLA.m rfl rfl ?_ ?_ | refine WLA.st rfl ?_ ?_ | refine WLA.x rfl rfl ?_ (fun x => ?_) | refine WLA.x0 rfl ?_ (fun x => ?_)); first | exact sdT | skip) | (refine Stp.go ?_) | (guard_target =~ WLA _ _ _ _ _ (⟨_, .call ⟨.value (.func 35), _, _⟩, _, _, _, _⟩ :: _) _ _; refine WLA.call rfl rfl (htk) ?_; rintro ⟨⟩) | (guard_target =~ WLA _ _ _ _ _ (⟨_, .call ⟨.value (.func 36), _, _⟩, _, _, _, _⟩ :: _) _ _; refine WLA.call rfl rfl (hln) ?_; rintro ⟨⟨w, pp, bb, okl, R⟩, hl1, hl2⟩) | (refine WPA.ifT ?_) | (refine WPA.ifF ?_) | ((first | refine WPA.dec ?_); first | refine orL ?_ | refine orR ?_) | ((first | refine WPA.ifBt ?_ ?_ | refine WPA.ifBnf ?_ ?_); assumption) | ((first | refine WPA.ifBnt ?_ ?_ | refine WPA.ifBf ?_ ?_); assumption) | ((first | refine WPA.ifs ?_ ?_ | refine WPA.ifB ?_ ?_) <;> intro hc))
            dsimp only at hl1 hl2 ⊢
            revert x; intro X14
            have hRJ : SubI (R ++ K) J := ⟨fun z hz => List.mem_append_right _ (hK.out hz)⟩
            cases okl
            · have hne : ¬ EntOk ((k + 1 : Nat) : Int) lt (befB t2 10) := fun z => (by have := hl1.2 z; cases this)
              rw [secTT_bad h0 hne] at hX
              have hbd := fun {L L' : List HP} [FindK L TxH P (stV lv (.ok (aftB t2 10, m2 + 1))) L'] => bad_trR (w0 := w0) (I := R ++ K) (L := L) (L' := L') (P := P) (lv := lv) hst3
              repeat' ((fail_if_success (guard_target =~ WPA _ _ _ (.region 16 _ _) _ _ _)); first | ((first | refine WLA.m rfl rfl ?_ ?_ | refine WLA.st rfl ?_ ?_ | refine WLA.x rfl rfl ?_ (fun x => ?_) | refine WLA.x0 rfl ?_ (fun x => ?_)); first | exact sdT | skip) | (refine Stp.go ?_) | (guard_target =~ WLA _ _ _ _ _ (⟨_, .call ⟨.value (.func 37), _, _⟩, _, _, _, _⟩ :: _) _ _; refine WLA.call rfl rfl (hbd) ?_; rintro ⟨⟩) | (refine WPA.ifT ?_) | (refine WPA.ifF ?_) | (refine WLA.no rfl rfl ?_) | ((first | refine WPA.dec ?_ | ((fail_if_success (guard_target =~ WLA _ _ _ _ _ _ (put1 _ _ (.bool true)) _)); (fail_if_success (guard_target =~ WLA _ _ _ _ _ _ (put1 _ _ (.bool false)) _)); refine WLA.dec rfl rfl ?_) | refine WLA.pk ?_); first | refine orL ?_ | refine orR ?_) | ((first | refine WPA.ifBt ?_ ?_ | refine WPA.ifBnf ?_ ?_); assumption) | ((first | refine WPA.ifBnt ?_ ?_ | refine WPA.ifBf ?_ ?_); assumption) | ((first | refine WPA.ifs ?_ ?_ | refine WPA.ifB ?_ ?_) <;> intro hc) | ((fail_if_success (guard_target =~ WLA _ _ _ _ _ _ (put1 _ _ (.bool true)) _)); (fail_if_success (guard_target =~ WLA _ _ _ _ _ _ (put1 _ _ (.bool false)) _)); (first | refine WLA.both rfl rfl ?_ ?_ | refine WLA.bothB rfl rfl ?_ ?_) <;> intro hg))
              have e3 : TxH P (stV lv (badT (.ok (aftB t2 10, m2 + 1)))) = Bk P 76 [.slice lv.a lv.n lv.cap, .int .i64 (m2 + 1), .int .i64 3] := rfl
              have e4 : TxH P (stV lv (.error (m2 + 1, 3))) = Bk P 76 [.slice lv.a lv.n lv.cap, .int .i64 (m2 + 1), .int .i64 3] := rfl
              rw [e3]
              repeat' (first | ((first | refine WLA.m rfl rfl ?_ ?_ | refine WLA.st rfl ?_ ?_ | refine WLA.x rfl rfl ?_ (fun x => ?_) | refine WLA.x0 rfl ?_ (fun x => ?_)); first | exact sdT | skip) | (refine Stp.go ?_) | (refine WPA.ifT ?_) | (refine WPA.ifF ?_) | ((first | refine WPA.dec ?_); first | refine orL ?_ | refine orR ?_) | ((first | refine WPA.ifBt ?_ ?_ | refine WPA.ifBnf ?_ ?_); assumption) | ((first | refine WPA.ifBnt ?_ ?_ | refine WPA.ifBf ?_ ?_); assumption) | ((first | refine WPA.ifs ?_ ?_ | refine WPA.ifB ?_ ?_) <;> intro hc))
              rw [← e4]
              exact QQ.loopS ⟨.error (m2 + 1, 3), i + 1, x, gs ++ [(m2 + 1, w, SV.nil, pp, bb)], dg ++ [⟨0, [], 0, 0⟩], r, R ++ K⟩ ⟨rfl, rfl, rfl, rfl, rfl, rfl, rfl, rfl, rfl, rfl, trivial⟩ ⟨⟨hRJ, (show (3 : Int) ≠ 0 by decide), by dsimp only; rw [List.length_append, List.length_singleton, hig]⟩, fun _ h => (by cases h), hX⟩ (Nat.succ_pos _) (fun w h => h.to)
            · have hyes := hl1.1 rfl
              obtain ⟨hw1, hp1, hb1⟩ := hl2 rfl
              rw [secTT_ok h0 hyes, map_map] at hX
              have e3 : TxH P (stV lv (.ok (aftB t2 10, m2 + 1))) = Bk P 76 [.slice lv.a lv.n lv.cap, .int .i64 (m2 + 1), .int .i64 0] := rfl
              repeat' ((fail_if_success (guard_target =~ WPA _ _ _ (.region 16 _ _) _ _ _)); first | ((first | refine WLA.m rfl rfl ?_ ?_ | refine WLA.st rfl ?_ ?_ | refine WLA.x rfl rfl ?_ (fun x => ?_) | refine WLA.x0 rfl ?_ (fun x => ?_)); first | exact sdT | skip) | (refine Stp.go ?_) | (refine WPA.ifT ?_) | (refine WPA.ifF ?_) | (refine WLA.no rfl rfl ?_) | ((first | refine WPA.dec ?_ | ((fail_if_success (guard_target =~ WLA _ _ _ _ _ _ (put1 _ _ (.bool true)) _)); (fail_if_success (guard_target =~ WLA _ _ _ _ _ _ (put1 _ _ (.bool false)) _)); refine WLA.dec rfl rfl ?_) | refine WLA.pk ?_); first | refine orL ?_ | refine orR ?_) | ((first | refine WPA.ifBt ?_ ?_ | refine WPA.ifBnf ?_ ?_); assumption) | ((first | refine WPA.ifBnt ?_ ?_ | refine WPA.ifBf ?_ ?_); assumption) | ((first | refine WPA.ifs ?_ ?_ | refine WPA.ifB ?_ ?_) <;> intro hc) | ((fail_if_success (guard_target =~ WLA _ _ _ _ _ _ (put1 _ _ (.bool true)) _)); (fail_if_success (guard_target =~ WLA _ _ _ _ _ _ (put1 _ _ (.bool false)) _)); (first | refine WLA.both rfl rfl ?_ ?_ | refine WLA.bothB rfl rfl ?_ ?_) <;> intro hg))
              rw [e3]
              repeat' (first | ((first | refine WLA.m rfl rfl ?_ ?_ | refine WLA.st rfl ?_ ?_ | refine WLA.x rfl rfl ?_ (fun x => ?_) | refine WLA.x0 rfl ?_ (fun x => ?_)); first | exact sdT | skip) | (refine Stp.go ?_) | (refine WPA.ifT ?_) | (refine WPA.ifF ?_) | ((first | refine WPA.dec ?_); first | refine orL ?_ | refine orR ?_) | ((first | refine WPA.ifBt ?_ ?_ | refine WPA.ifBnf ?_ ?_); assumption) | ((first | refine WPA.ifBnt ?_ ?_ | refine WPA.ifBf ?_ ?_); assumption) | ((first | refine WPA.ifs ?_ ?_ | refine WPA.ifB ?_ ?_) <;> intro hc))
              rw [← e3]
              refine QQ.loopS ⟨.ok (aftB t2 10, m2 + 1), i + 1, x, gs ++ [(m2 + 1, w, SV.nil, pp, bb)], dg ++ [grF lt m2 (befB t2 10)], r, R ++ K⟩ ⟨rfl, rfl, rfl, rfl, rfl, rfl, rfl, rfl, rfl, rfl, trivial⟩ ⟨⟨hRJ, hst3, by dsimp only; rw [List.length_append, List.length_singleton, hig]⟩, fun p hp => ⟨⟨snocX (R := LnI (R ++ K)) (hG.sub inferInstance) ⟨⟨rfl, hp1, hb1⟩, hw1⟩, by dsimp only; rw [List.length_append, List.length_singleton]; omega⟩, ?_⟩, ?_⟩ (Nat.succ_lt_succ haz) (fun w h => h.to)
              · injection hp with hp
                subst hp
                dsimp only; rw [List.length_append, List.length_singleton]; omega
              · dsimp only
                rw [← hX]; simp only [List.append_assoc, List.singleton_append]
          · rw [if_neg h0] at et
            rw [et] at htk hst3 hsz3
            dsimp only at htk hst3 hsz3
            have hln := fun {L : List HP} => line_trR (w0 := w0) (I := K) (L := L) (l := ⟨#[]⟩) (o := ((k + 1 : Nat) : Int)) (last := lt) hsz3
            rw [secTT_none h0] at hX
            repeat' ((fail_if_success (guard_target =~ WPA _ _ _ (.region 14 _ _) _ _ _)); first | ((rw [en])) | ((rw [hlt0])) | ((first | refine WLA.m rfl rfl ?_ ?_ | refine WLA.st rfl ?_ ?_ | refine WLA.x rfl rfl ?_ (fun x => ?_) | refine WLA.x0 rfl ?_ (fun x => ?_)); first | exact sdT | skip) | (refine Stp.go ?_) | (guard_target =~ WLA _ _ _ _ _ (⟨_, .call ⟨.value (.func 35), _, _⟩, _, _, _, _⟩ :: _) _ _; refine WLA.call rfl rfl (htk) ?_; rintro ⟨⟩) | (guard_target =~ WLA _ _ _ _ _ (⟨_, .call ⟨.value (.func 36), _, _⟩, _, _, _, _⟩ :: _) _ _; refine WLA.call rfl rfl (hln) ?_; rintro ⟨⟨w, pp, bb, okl, R⟩, hl1, hl2⟩) | (refine WPA.ifT ?_) | (refine WPA.ifF ?_) | ((first | refine WPA.dec ?_); first | refine orL ?_ | refine orR ?_) | ((first | refine WPA.ifBt ?_ ?_ | refine WPA.ifBnf ?_ ?_); assumption) | ((first | refine WPA.ifBnt ?_ ?_ | refine WPA.ifBf ?_ ?_); assumption) | ((first | refine WPA.ifs ?_ ?_ | refine WPA.ifB ?_ ?_) <;> intro hc))
            dsimp only at hl1 hl2 ⊢
            revert x; intro X14
            have hRJ : SubI (R ++ K) J := ⟨fun z hz => List.mem_append_right _ (hK.out hz)⟩
            have e3 : TxH P (stV lv (.error (m2 + 1, 2))) = Bk P 76 [.slice lv.a lv.n lv.cap, .int .i64 (m2 + 1), .int .i64 2] := rfl
            repeat' ((fail_if_success (guard_target =~ WPA _ _ _ (.region 16 _ _) _ _ _)); first | ((first | refine WLA.m rfl rfl ?_ ?_ | refine WLA.st rfl ?_ ?_ | refine WLA.x rfl rfl ?_ (fun x => ?_) | refine WLA.x0 rfl ?_ (fun x => ?_)); first | exact sdT | skip) | (refine Stp.go ?_) | (refine WPA.ifT ?_) | (refine WPA.ifF ?_) | (refine WLA.no rfl rfl ?_) | ((first | refine WPA.dec ?_ | ((fail_if_success (guard_target =~ WLA _ _ _ _ _ _ (put1 _ _ (.bool true)) _)); (fail_if_success (guard_target =~ WLA _ _ _ _ _ _ (put1 _ _ (.bool false)) _)); refine WLA.dec rfl rfl ?_) | refine WLA.pk ?_); first | refine orL ?_ | refine orR ?_) | ((first | refine WPA.ifBt ?_ ?_ | refine WPA.ifBnf ?_ ?_); assumption) | ((first | refine WPA.ifBnt ?_ ?_ | refine WPA.ifBf ?_ ?_); assumption) | ((first | refine WPA.ifs ?_ ?_ | refine WPA.ifB ?_ ?_) <;> intro hc) | ((fail_if_success (guard_target =~ WLA _ _ _ _ _ _ (put1 _ _ (.bool true)) _)); (fail_if_success (guard_target =~ WLA _ _ _ _ _ _ (put1 _ _ (.bool false)) _)); (first | refine WLA.both rfl rfl ?_ ?_ | refine WLA.bothB rfl rfl ?_ ?_) <;> intro hg))
            rw [e3]
            repeat' (first | ((first | refine WLA.m rfl rfl ?_ ?_ | refine WLA.st rfl ?_ ?_ | refine WLA.x rfl rfl ?_ (fun x => ?_) | refine WLA.x0 rfl ?_ (fun x => ?_)); first | exact sdT | skip) | (refine Stp.go ?_) | (refine WPA.ifT ?_) | (refine WPA.ifF ?_) | ((first | refine WPA.dec ?_); first | refine orL ?_ | refine orR ?_) | ((first | refine WPA.ifBt ?_ ?_ | refine WPA.ifBnf ?_ ?_); assumption) | ((first | refine WPA.ifBnt ?_ ?_ | refine WPA.ifBf ?_ ?_); assumption) | ((first | refine WPA.ifs ?_ ?_ | refine WPA.ifB ?_ ?_) <;> intro hc))
            rw [← e3]
            exact QQ.loopS ⟨.error (m2 + 1, 2), i + 1, x, gs ++ [(m2 + 1, w, SV.nil, pp, bb)], dg ++ [⟨0, [], 0, 0⟩], r, R ++ K⟩ ⟨rfl, rfl, rfl, rfl, rfl, rfl, rfl, rfl, rfl, rfl, trivial⟩ ⟨⟨hRJ, (show (2 : Int) ≠ 0 by decide), by dsimp only; rw [List.length_append, List.length_singleton, hig]⟩, fun _ h => (by cases h), hX⟩ (Nat.succ_pos _) (fun w h => h.to)
        · have hr0 : r = 0 := by omega
          subst hr0
          have hX1 : X = .ok (dg, t2, m2) := by rw [← hX]; show Except.ok (dg ++ [], (t2, m2)) = _; rw [List.append_nil]
          rw [hX1] at hA
          dsimp only at hA
          rw [map_map] at hA
          have hst3 := wantT_ok (s := ⟨#[]⟩) hst2
          have hsz3 : ∀ q, wantT ⟨#[]⟩ (.ok (t2, m2)) = .ok q → q.1.size ≤ t2.size := fun q hq => want_size hq
          generalize wantT ⟨#[]⟩ (.ok (t2, m2)) = st3 at hwe hst3 hsz3 hA
          repeat' ((fail_if_success (guard_target =~ WPA _ _ _ (.region 18 _ _) _ _ _)); first | ((rw [hcc])) | ((first | refine WLA.m rfl rfl ?_ ?_ | refine WLA.st rfl ?_ ?_ | refine WLA.x rfl rfl ?_ (fun x => ?_) | refine WLA.x0 rfl ?_ (fun x => ?_)); first | exact sdT | skip) | (refine Stp.go ?_) | (refine WPA.ifT ?_) | (refine WPA.ifF ?_) | (refine WLA.no rfl rfl ?_) | ((first | refine WPA.dec ?_ | ((fail_if_success (guard_target =~ WLA _ _ _ _ _ _ (put1 _ _ (.bool true)) _)); (fail_if_success (guard_target =~ WLA _ _ _ _ _ _ (put1 _ _ (.bool false)) _)); refine WLA.dec rfl rfl ?_) | refine WLA.pk ?_); first | refine orL ?_ | refine orR ?_) | ((first | refine WPA.ifBt ?_ ?_ | refine WPA.ifBnf ?_ ?_); assumption) | ((first | refine WPA.ifBnt ?_ ?_ | refine WPA.ifBf ?_ ?_); assumption) | ((first | refine WPA.ifs ?_ ?_ | refine WPA.ifB ?_ ?_) <;> intro hc) | ((fail_if_success (guard_target =~ WLA _ _ _ _ _ _ (put1 _ _ (.bool true)) _)); (fail_if_success (guard_target =~ WLA _ _ _ _ _ _ (put1 _ _ (.bool false)) _)); (first | refine WLA.both rfl rfl ?_ ?_ | refine WLA.bothB rfl rfl ?_ ?_) <;> intro hg))
          rw [← e2]
          repeat' (first | ((first | refine WLA.m rfl rfl ?_ ?_ | refine WLA.st rfl ?_ ?_ | refine WLA.x rfl rfl ?_ (fun x => ?_) | refine WLA.x0 rfl ?_ (fun x => ?_)); first | exact sdT | skip) | (refine Stp.go ?_) | (guard_target =~ WLA _ _ _ _ _ (⟨_, .call ⟨.value (.func 34), _, _⟩, _, _, _, _⟩ :: _) _ _; refine WLA.call rfl rfl (hwe) ?_; rintro ⟨⟩) | (refine WPA.ifT ?_) | (refine WPA.ifF ?_) | ((first | refine WPA.dec ?_); first | refine orL ?_ | refine orR ?_) | ((first | refine WPA.ifBt ?_ ?_ | refine WPA.ifBnf ?_ ?_); assumption) | ((first | refine WPA.ifBnt ?_ ?_ | refine WPA.ifBf ?_ ?_); assumption) | ((first | refine WPA.ifs ?_ ?_ | refine WPA.ifB ?_ ?_) <;> intro hc))
          refine QQ.ent (EntC.out (L' := OwnS 83 q gs :: OwnS 79 x (vs ++ [q]) :: TxH P (stV lv st3) :: Bk X2 25 [.int .i64 0, .slice none 0 0, .slice none 0 0] :: L)) ?_
          refine QQ.freeze fun R hR => ?_
          have sq : SlI (R ++ K) q LE inferInstance gs := by have := SlI.ofOwn hR; infer_instance
          have hRJ : SubI (R ++ K) J := ⟨fun z hz => List.mem_append_right _ (hK.out hz)⟩
          refine QQ.loopS ⟨k + 1, st3, x, vs ++ [q], dn ++ [dg], R ++ K⟩ ⟨rfl, rfl, rfl, rfl, rfl, rfl, rfl, rfl, trivial⟩ ⟨⟨hlt, by dsimp only; rw [List.length_append, List.length_singleton, hvl], by dsimp only; rw [List.length_append, List.length_singleton, hdn], ⟨fun z hz => hRJ.out (hJ.out hz)⟩⟩, hst3, fun p hp => ⟨⟨c1, c2, c3⟩, ⟨q0, hq0⟩, by have := hsz3 p hp; omega, (snocX (R := RowL (R ++ K)) ⟨by omega, fun j hj => (hrow j hj).sub hRJ⟩ ⟨gs, sq, hG.sub inferInstance⟩).2⟩, ?_⟩ (by dsimp only; omega) (fun w h => h.to)
          dsimp only
          rw [← hA]; simp only [List.append_assoc, List.singleton_append]
    · have hkl : ¬ (k : Int) < cs.length := by omega
      rw [List.drop_of_length_le (by omega), allTT_nil] at hA
      have hwe := fun {L L' : List HP} [FindK L TxH P (stV lv (.ok (t, m))) L'] => want_trR (w0 := w0) (I := J) (L := L) (L' := L') (P := P) (lv := lv) (s := endB) hst
      have hst4 := wantT_ok (s := endB) hst
      rw [e0]
      repeat' ((fail_if_success (guard_target =~ WPA _ _ _ (.region 20 _ _) _ _ _)); first | ((first | refine WLA.m rfl rfl ?_ ?_ | refine WLA.st rfl ?_ ?_ | refine WLA.x rfl rfl ?_ (fun x => ?_) | refine WLA.x0 rfl ?_ (fun x => ?_)); first | exact sdT | skip) | (refine Stp.go ?_) | (refine WPA.ifT ?_) | (refine WPA.ifF ?_) | (refine WLA.no rfl rfl ?_) | ((first | refine WPA.dec ?_ | ((fail_if_success (guard_target =~ WLA _ _ _ _ _ _ (put1 _ _ (.bool true)) _)); (fail_if_success (guard_target =~ WLA _ _ _ _ _ _ (put1 _ _ (.bool false)) _)); refine WLA.dec rfl rfl ?_) | refine WLA.pk ?_); first | refine orL ?_ | refine orR ?_) | ((first | refine WPA.ifBt ?_ ?_ | refine WPA.ifBnf ?_ ?_); assumption) | ((first | refine WPA.ifBnt ?_ ?_ | refine WPA.ifBf ?_ ?_); assumption) | ((first | refine WPA.ifs ?_ ?_ | refine WPA.ifB ?_ ?_) <;> intro hc) | ((fail_if_success (guard_target =~ WLA _ _ _ _ _ _ (put1 _ _ (.bool true)) _)); (fail_if_success (guard_target =~ WLA _ _ _ _ _ _ (put1 _ _ (.bool false)) _)); (first | refine WLA.both rfl rfl ?_ ?_ | refine WLA.bothB rfl rfl ?_ ?_) <;> intro hg))
      rw [← e0]
      generalize wantT endB (.ok (t, m)) = st4 at hwe hst4 hA
      repeat' ((fail_if_success (guard_target =~ WPA _ _ _ (.region 21 _ _) _ _ _)); first | ((first | refine WLA.m rfl rfl ?_ ?_ | refine WLA.st rfl ?_ ?_ | refine WLA.x rfl rfl ?_ (fun x => ?_) | refine WLA.x0 rfl ?_ (fun x => ?_)); first | exact sdT | skip) | (refine Stp.go ?_) | (guard_target =~ WLA _ _ _ _ _ (⟨_, .call ⟨.value (.func 34), _, _⟩, _, _, _, _⟩ :: _) _ _; refine WLA.call rfl rfl (hwe) ?_; rintro ⟨⟩) | (refine WPA.ifT ?_) | (refine WPA.ifF ?_) | ((first | refine WPA.dec ?_); first | refine orL ?_ | refine orR ?_) | ((first | refine WPA.ifBt ?_ ?_ | refine WPA.ifBnf ?_ ?_); assumption) | ((first | refine WPA.ifBnt ?_ ?_ | refine WPA.ifBf ?_ ?_); assumption) | ((first | refine WPA.ifs ?_ ?_ | refine WPA.ifB ?_ ?_) <;> intro hc))
      cases st4 with
      | error y =>
        have hy : y.2 ≠ 0 := hst4
        have hyd : ¬ y.2 = 0 := hst4
        have hA1 : parseF s = .error y := hEr hA.symm
        rw [hA1]
        have e2 : TxH P (stV lv (.error y)) = Bk P 76 [.slice lv.a lv.n lv.cap, .int .i64 y.1, .int .i64 y.2] := rfl
        rw [e2]
        repeat' ((fail_if_success (guard_target =~ WPA _ _ _ (.region 25 _ _) _ _ _)); first | ((first | refine WLA.m rfl rfl ?_ ?_ | refine WDQ.m rfl rfl ?_ ?_ | refine WLA.st rfl ?_ ?_ | refine WLA.x rfl rfl ?_ (fun x => ?_) | refine WLA.x0 rfl ?_ (fun x => ?_)); first | exact sdT | skip) | (refine Stp.go ?_) | (refine WPA.ifT ?_) | (refine WPA.ifF ?_) | (refine WLA.no rfl rfl ?_) | (refine WDQ.no rfl rfl ?_) | ((first | refine WPA.dec ?_ | ((fail_if_success (guard_target =~ WLA _ _ _ _ _ _ (put1 _ _ (.bool true)) _)); (fail_if_success (guard_target =~ WLA _ _ _ _ _ _ (put1 _ _ (.bool false)) _)); refine WLA.dec rfl rfl ?_) | refine WLA.pk ?_ | refine WDQ.dec rfl rfl ?_); first | refine orL ?_ | refine orR ?_) | ((first | refine WPA.ifBt ?_ ?_ | refine WPA.ifBnf ?_ ?_); assumption) | ((first | refine WPA.ifBnt ?_ ?_ | refine WPA.ifBf ?_ ?_); assumption) | ((first | refine WPA.ifs ?_ ?_ | refine WPA.ifB ?_ ?_) <;> intro hc) | ((fail_if_success (guard_target =~ WLA _ _ _ _ _ _ (put1 _ _ (.bool true)) _)); (fail_if_success (guard_target =~ WLA _ _ _ _ _ _ (put1 _ _ (.bool false)) _)); (first | refine WLA.both rfl rfl ?_ ?_ | refine WLA.bothB rfl rfl ?_ ?_) <;> intro hg) | (guard_target =~ WPA _ _ _ (.region 21 _ true) _ _ _; refine WPA.drawT 26 (.q 0 (.q 1 (.q 2 (.q 3 (.q 4 (.q 5 (.q 6 (.q 7 (.q 8 (.q 9 (.q 10 (.q 11 (.q 12 (.q 13 (.q 14 (.q 15 (.q 16 (.q 17 (.q 18 (.q 19 (.q 20 (.q 21 (.q 22 (.q 23 (.q 24 (.q 25 .fin)))))))))))))))))))))))))) mixed ?_ ?_; kernel_rfl) | (refine WDA.finish (tl := [⟨_, _, _, _, _, _⟩, ⟨_, _, _, _, _, _⟩, ⟨_, _, _, _, _, _⟩, ⟨_, _, _, _, _, _⟩, ⟨_, _, _, _, _, _⟩]) rfl ?_) | (refine WDQ.see rfl ?_) | ((first | refine WDQ.both rfl rfl ?_ ?_) <;> intro hg))
        refine WPA.freezeBk (b := P) ?_
        repeat' (first | ((first | refine WLA.m rfl rfl ?_ ?_ | refine WDQ.m rfl rfl ?_ ?_ | refine WDP.m rfl rfl ?_ ?_ | refine WLA.st rfl ?_ ?_ | refine WLA.x rfl rfl ?_ (fun x => ?_) | refine WLA.x0 rfl ?_ (fun x => ?_) | refine WDW.x rfl rfl ?_ (fun x => ?_) | refine WDW.st rfl ?_ ?_); first | exact sdT | skip) | (refine Stp.go ?_) | (refine WPA.ifT ?_) | (refine WPA.ifF ?_) | ((first | refine WPA.dec ?_); first | refine orL ?_ | refine orR ?_) | ((first | refine WPA.ifBt ?_ ?_ | refine WPA.ifBnf ?_ ?_); assumption) | ((first | refine WPA.ifBnt ?_ ?_ | refine WPA.ifBf ?_ ?_); assumption) | ((first | refine WPA.ifs ?_ ?_ | refine WPA.ifB ?_ ?_) <;> intro hc) | (guard_target =~ WPA _ _ _ (.region 25 _ true) _ _ _; refine WPA.drawT 11 (.p 0 (.p 1 (.p 2 (.p 3 (.p 4 (.p 5 (.p 6 (.p 7 (.p 8 (.w 9 (.p 10 .fin))))))))))) mixed ?_ ?_; kernel_rfl) | (refine WDA.finish (tl := [⟨_, _, _, _, _, _⟩]) rfl ?_) | (refine WDQ.see rfl ?_) | (refine WDP.see rfl ?_) | (refine WDW.see rfl ?_))
        all_goals exact QQ.endc rfl ⟨(SV.nil, SV.nil, []), MdL.nil⟩ rfl fun w h => (((SL.unI h).sub hJI2.out).to)
      | ok q4 =>
        obtain ⟨t4, m4⟩ := q4
        obtain ⟨hi4, hne4, hat4⟩ := last_line hst4
        dsimp only at hA
        have hmb := hst4.1
        dsimp only at hmb
        have e2 : TxH P (stV lv (.ok (t4, m4))) = Bk P 76 [.slice lv.a lv.n lv.cap, .int .i64 m4, .int .i64 0] := rfl
        by_cases hz4 : t4 = ⟨#[]⟩
        · have hm4 : m4 = (Ls.length : Int) - 1 := Classical.byContradiction fun k => hne4 k hz4
          have hm4' : ¬ m4 ≠ (Ls.length : Int) - 1 := fun k => k hm4
          have hl4 : at_ Ls m4 = ⟨#[]⟩ := by rw [hat4 hm4, hz4]
          have hd4 : decide ((⟨#[]⟩ : ByteArray) ≠ ⟨#[]⟩) = false := by decide
          have hd5 : decide (m4 ≠ (Ls.length : Int) - 1) = false := decide_eq_false hm4'
          rw [if_neg (show ¬ t4 ≠ ⟨#[]⟩ from fun k => k hz4)] at hA
          have hA1 : A0 = .ok (dn, t4, m4 + 1) := by rw [← hA]; show Except.ok (dn ++ [], _) = _; rw [List.append_nil]
          rw [hA1] at hpa
          have hp2 : parseF s = toldF fr dn := hpa
          have ha1 : allF cs.length cs 0 q0.1 q0.2 = .ok (dn, t4, m4 + 1) := by rw [hq0] at hA0; rw [← hA1]; exact hA0
          obtain ⟨b1, b2⟩ := allF_ok _ _ _ _ _ _ _ _ ha1
          have hh0 := hh1 _ hq0
          have hz0 := (hHC _ hq0).2
          have hn0 := (headF_ok (h := (fr, cs)) (s' := q0.1) (n' := q0.2) hh0).2.1
          have hpos : 0 < dn.length := by rw [b1]; exact List.length_pos_iff.2 c1
          have hm : dn.getD 0 [] ∈ dn := by rw [List.getD_eq_getElem?_getD, List.getElem?_eq_getElem hpos]; exact List.getElem_mem _
          rw [hp2]
          rw [e2]
          repeat' ((fail_if_success (guard_target =~ WPA _ _ _ (.region 26 _ _) _ _ _)); first | ((rw [hl4])) | ((rw [hd4])) | ((rw [hd5])) | ((first | refine WLA.m rfl rfl ?_ ?_ | refine WDQ.m rfl rfl ?_ ?_ | refine WLA.st rfl ?_ ?_ | refine WLA.x rfl rfl ?_ (fun x => ?_) | refine WLA.x0 rfl ?_ (fun x => ?_)); first | exact sdT | skip) | (refine Stp.go ?_) | (refine WPA.ifT ?_) | (refine WPA.ifF ?_) | (refine WLA.no rfl rfl ?_) | (refine WDQ.no rfl rfl ?_) | ((first | refine WPA.dec ?_ | ((fail_if_success (guard_target =~ WLA _ _ _ _ _ _ (put1 _ _ (.bool true)) _)); (fail_if_success (guard_target =~ WLA _ _ _ _ _ _ (put1 _ _ (.bool false)) _)); refine WLA.dec rfl rfl ?_) | refine WLA.pk ?_ | refine WDQ.dec rfl rfl ?_); first | refine orL ?_ | refine orR ?_) | ((first | refine WPA.ifBt ?_ ?_ | refine WPA.ifBnf ?_ ?_); assumption) | ((first | refine WPA.ifBnt ?_ ?_ | refine WPA.ifBf ?_ ?_); assumption) | ((first | refine WPA.ifs ?_ ?_ | refine WPA.ifB ?_ ?_) <;> intro hc) | ((fail_if_success (guard_target =~ WLA _ _ _ _ _ _ (put1 _ _ (.bool true)) _)); (fail_if_success (guard_target =~ WLA _ _ _ _ _ _ (put1 _ _ (.bool false)) _)); (first | refine WLA.both rfl rfl ?_ ?_ | refine WLA.bothB rfl rfl ?_ ?_) <;> intro hg) | (guard_target =~ WPA _ _ _ (.region 21 _ true) _ _ _; refine WPA.drawT 26 (.q 0 (.q 1 (.q 2 (.q 3 (.q 4 (.q 5 (.q 6 (.q 7 (.q 8 (.q 9 (.q 10 (.q 11 (.q 12 (.q 13 (.q 14 (.q 15 (.q 16 (.q 17 (.q 18 (.q 19 (.q 20 (.q 21 (.q 22 (.q 23 (.q 24 (.q 25 .fin)))))))))))))))))))))))))) mixed ?_ ?_; kernel_rfl) | (refine WDA.finish (tl := [⟨_, _, _, _, _, _⟩, ⟨_, _, _, _, _, _⟩, ⟨_, _, _, _, _, _⟩, ⟨_, _, _, _, _, _⟩, ⟨_, _, _, _, _, _⟩]) rfl ?_) | (refine WDQ.see rfl ?_) | ((first | refine WDQ.both rfl rfl ?_ ?_) <;> intro hg))
          refine WPA.ent (EntC.out (L' := OwnS 79 v vs :: Bk X2 25 [.int .i64 0, .slice none 0 0, .slice none 0 0] :: L)) ?_
          refine WPA.freeze fun R hR => ?_
          have sv : SlI (R ++ J) v SV inferInstance vs := by have := SlI.ofOwn hR; infer_instance
          have hRJ : SubI (R ++ J) J := inferInstance
          clear hR
          have htold := fun {L : List HP} => told_trS2 (w0 := w0) (I := R ++ J) (L := L) (av := v) (vs := vs) (gss := dn) (fr := fr) (by omega) hpos (fun j hj => (hrow j hj).sub hRJ) (by omega) (fun r hr g hg => by have := ((b2 r hr).2 g hg).top; omega) (fun r hr => by have := (b2 r hr).1; omega) (fun g hg => ((b2 _ hm).2 g hg).low) (fun rows hro => told_few (h := (fr, cs)) (s1 := q0.1) (n1 := q0.2) (by omega) hh0 ha1 hro)
          repeat' (first | ((first | refine WLA.m rfl rfl ?_ ?_ | refine WLA.st rfl ?_ ?_ | refine WLA.x rfl rfl ?_ (fun x => ?_) | refine WLA.x0 rfl ?_ (fun x => ?_)); first | exact sdT | skip) | (refine Stp.go ?_) | (guard_target =~ WLA _ _ _ _ _ (⟨_, .call ⟨.value (.func 38), _, _⟩, _, _, _, _⟩ :: _) _ _; refine WLA.call rfl rfl (htold) ?_; rintro ⟨⟨wv, gv, R2⟩, hM⟩) | (refine WPA.ifT ?_) | (refine WPA.ifF ?_) | ((first | refine WPA.dec ?_); first | refine orL ?_ | refine orR ?_) | ((first | refine WPA.ifBt ?_ ?_ | refine WPA.ifBnf ?_ ?_); assumption) | ((first | refine WPA.ifBnt ?_ ?_ | refine WPA.ifBf ?_ ?_); assumption) | ((first | refine WPA.ifs ?_ ?_ | refine WPA.ifB ?_ ?_) <;> intro hc))
          dsimp only at hM ⊢
          exact QQ.endc rfl ⟨(wv, gv, R2 ++ (R ++ J)), hM.sub ⟨fun z hz => List.mem_append_left _ hz⟩⟩ rfl fun w h => (h.sub fun z hz => (List.mem_append.1 hz).elim id fun hz => List.mem_append_right _ (List.mem_append_right _ (hJI2.out hz))).to
        · rw [if_pos (show t4 ≠ ⟨#[]⟩ from hz4)] at hA
          have hA1 : parseF s = .error (m4 + 1, 3) := hEr hA.symm
          rw [hA1]
          rw [e2]
          have hLl : Ls.length ≤ 900001 := by rw [← hLs]; unfold splB; rw [splF_len]; have := cnt_le s 10; omega
          have ho5 : stOk (List.replicate (m4 + 1).toNat ⟨#[]⟩ ++ [⟨#[]⟩]) (.ok (⟨#[]⟩, m4 + 1)) := ⟨⟨by dsimp only; omega, by have e : (⟨#[]⟩ : ByteArray).size = 0 := rfl; dsimp only; omega⟩, by dsimp only; rw [List.drop_left' (by simp)]; exact (spl_no (by decide)).symm⟩
          have hbd := fun {L L' : List HP} [FindK L TxH P (stV lv (.ok (⟨#[]⟩, m4 + 1))) L'] => bad_trR (w0 := w0) (I := J) (L := L) (L' := L') (P := P) (lv := lv) ho5
          have e5 : TxH P (stV lv (.ok (⟨#[]⟩, m4 + 1))) = Bk P 76 [.slice lv.a lv.n lv.cap, .int .i64 (m4 + 1), .int .i64 0] := rfl
          have e6 : TxH P (stV lv (badT (.ok (⟨#[]⟩, m4 + 1)))) = Bk P 76 [.slice lv.a lv.n lv.cap, .int .i64 (m4 + 1), .int .i64 3] := rfl
          have he3 : (3 : Int) ≠ 0 := by decide
          by_cases hm4 : m4 = (Ls.length : Int) - 1
          · have hm4' : ¬ m4 ≠ (Ls.length : Int) - 1 := fun k => k hm4
            have hl4 : at_ Ls m4 = t4 := hat4 hm4
            have hd4 : decide (t4 ≠ ⟨#[]⟩) = true := decide_eq_true hz4
            have hd5 : decide (m4 ≠ (Ls.length : Int) - 1) = false := decide_eq_false hm4'
            repeat' ((fail_if_success (guard_target =~ WPA _ _ _ (.region 23 _ _) _ _ _)); first | ((rw [hl4])) | ((rw [hd4])) | ((rw [hd5])) | ((first | refine WLA.m rfl rfl ?_ ?_ | refine WDQ.m rfl rfl ?_ ?_ | refine WLA.st rfl ?_ ?_ | refine WLA.x rfl rfl ?_ (fun x => ?_) | refine WLA.x0 rfl ?_ (fun x => ?_)); first | exact sdT | skip) | (refine Stp.go ?_) | (refine WPA.ifT ?_) | (refine WPA.ifF ?_) | (refine WLA.no rfl rfl ?_) | (refine WDQ.no rfl rfl ?_) | ((first | refine WPA.dec ?_ | ((fail_if_success (guard_target =~ WLA _ _ _ _ _ _ (put1 _ _ (.bool true)) _)); (fail_if_success (guard_target =~ WLA _ _ _ _ _ _ (put1 _ _ (.bool false)) _)); refine WLA.dec rfl rfl ?_) | refine WLA.pk ?_ | refine WDQ.dec rfl rfl ?_); first | refine orL ?_ | refine orR ?_) | ((first | refine WPA.ifBt ?_ ?_ | refine WPA.ifBnf ?_ ?_); assumption) | ((first | refine WPA.ifBnt ?_ ?_ | refine WPA.ifBf ?_ ?_); assumption) | ((first | refine WPA.ifs ?_ ?_ | refine WPA.ifB ?_ ?_) <;> intro hc) | ((fail_if_success (guard_target =~ WLA _ _ _ _ _ _ (put1 _ _ (.bool true)) _)); (fail_if_success (guard_target =~ WLA _ _ _ _ _ _ (put1 _ _ (.bool false)) _)); (first | refine WLA.both rfl rfl ?_ ?_ | refine WLA.bothB rfl rfl ?_ ?_) <;> intro hg) | (guard_target =~ WPA _ _ _ (.region 21 _ true) _ _ _; refine WPA.drawT 26 (.q 0 (.q 1 (.q 2 (.q 3 (.q 4 (.q 5 (.q 6 (.q 7 (.q 8 (.q 9 (.q 10 (.q 11 (.q 12 (.q 13 (.q 14 (.q 15 (.q 16 (.q 17 (.q 18 (.q 19 (.q 20 (.q 21 (.q 22 (.q 23 (.q 24 (.q 25 .fin)))))))))))))))))))))))))) mixed ?_ ?_; kernel_rfl) | (refine WDA.finish (tl := [⟨_, _, _, _, _, _⟩, ⟨_, _, _, _, _, _⟩, ⟨_, _, _, _, _, _⟩, ⟨_, _, _, _, _, _⟩, ⟨_, _, _, _, _, _⟩]) rfl ?_) | (refine WDQ.see rfl ?_) | ((first | refine WDQ.both rfl rfl ?_ ?_) <;> intro hg))
            rw [← e5]
            repeat' ((fail_if_success (guard_target =~ WPA _ _ _ (.region 24 _ _) _ _ _)); first | ((first | refine WLA.m rfl rfl ?_ ?_ | refine WLA.st rfl ?_ ?_ | refine WLA.x rfl rfl ?_ (fun x => ?_) | refine WLA.x0 rfl ?_ (fun x => ?_)); first | exact sdT | skip) | (refine Stp.go ?_) | (guard_target =~ WLA _ _ _ _ _ (⟨_, .call ⟨.value (.func 37), _, _⟩, _, _, _, _⟩ :: _) _ _; refine WLA.call rfl rfl (hbd) ?_; rintro ⟨⟩) | (refine WPA.ifT ?_) | (refine WPA.ifF ?_) | ((first | refine WPA.dec ?_); first | refine orL ?_ | refine orR ?_) | ((first | refine WPA.ifBt ?_ ?_ | refine WPA.ifBnf ?_ ?_); assumption) | ((first | refine WPA.ifBnt ?_ ?_ | refine WPA.ifBf ?_ ?_); assumption) | ((first | refine WPA.ifs ?_ ?_ | refine WPA.ifB ?_ ?_) <;> intro hc))
            rw [e6]
            repeat' ((fail_if_success (guard_target =~ WPA _ _ _ (.region 25 _ _) _ _ _)); first | ((first | refine WLA.m rfl rfl ?_ ?_ | refine WLA.st rfl ?_ ?_ | refine WLA.x rfl rfl ?_ (fun x => ?_) | refine WLA.x0 rfl ?_ (fun x => ?_)); first | exact sdT | skip) | (refine Stp.go ?_) | (refine WPA.ifT ?_) | (refine WPA.ifF ?_) | ((first | refine WPA.dec ?_); first | refine orL ?_ | refine orR ?_) | ((first | refine WPA.ifBt ?_ ?_ | refine WPA.ifBnf ?_ ?_); assumption) | ((first | refine WPA.ifBnt ?_ ?_ | refine WPA.ifBf ?_ ?_); assumption) | ((first | refine WPA.ifs ?_ ?_ | refine WPA.ifB ?_ ?_) <;> intro hc))
            refine WPA.freezeBk (b := P) ?_
            repeat' (first | ((first | refine WLA.m rfl rfl ?_ ?_ | refine WDQ.m rfl rfl ?_ ?_ | refine WDP.m rfl rfl ?_ ?_ | refine WLA.st rfl ?_ ?_ | refine WLA.x rfl rfl ?_ (fun x => ?_) | refine WLA.x0 rfl ?_ (fun x => ?_) | refine WDW.x rfl rfl ?_ (fun x => ?_) | refine WDW.st rfl ?_ ?_); first | exact sdT | skip) | (refine Stp.go ?_) | (refine WPA.ifT ?_) | (refine WPA.ifF ?_) | ((first | refine WPA.dec ?_); first | refine orL ?_ | refine orR ?_) | ((first | refine WPA.ifBt ?_ ?_ | refine WPA.ifBnf ?_ ?_); assumption) | ((first | refine WPA.ifBnt ?_ ?_ | refine WPA.ifBf ?_ ?_); assumption) | ((first | refine WPA.ifs ?_ ?_ | refine WPA.ifB ?_ ?_) <;> intro hc) | (guard_target =~ WPA _ _ _ (.region 25 _ true) _ _ _; refine WPA.drawT 11 (.p 0 (.p 1 (.p 2 (.p 3 (.p 4 (.p 5 (.p 6 (.p 7 (.p 8 (.w 9 (.p 10 .fin))))))))))) mixed ?_ ?_; kernel_rfl) | (refine WDA.finish (tl := [⟨_, _, _, _, _, _⟩]) rfl ?_) | (refine WDQ.see rfl ?_) | (refine WDP.see rfl ?_) | (refine WDW.see rfl ?_))
            all_goals exact QQ.endc rfl ⟨(SV.nil, SV.nil, []), MdL.nil⟩ rfl fun w h => (((SL.unI h).sub hJI2.out).to)
          · have hd5 : decide (m4 ≠ (Ls.length : Int) - 1) = true := decide_eq_true hm4
            repeat' ((fail_if_success (guard_target =~ WPA _ _ _ (.region 23 _ _) _ _ _)); first | ((rw [hd5])) | ((first | refine WLA.m rfl rfl ?_ ?_ | refine WDQ.m rfl rfl ?_ ?_ | refine WLA.st rfl ?_ ?_ | refine WLA.x rfl rfl ?_ (fun x => ?_) | refine WLA.x0 rfl ?_ (fun x => ?_)); first | exact sdT | skip) | (refine Stp.go ?_) | (refine WPA.ifT ?_) | (refine WPA.ifF ?_) | (refine WLA.no rfl rfl ?_) | (refine WDQ.no rfl rfl ?_) | ((first | refine WPA.dec ?_ | ((fail_if_success (guard_target =~ WLA _ _ _ _ _ _ (put1 _ _ (.bool true)) _)); (fail_if_success (guard_target =~ WLA _ _ _ _ _ _ (put1 _ _ (.bool false)) _)); refine WLA.dec rfl rfl ?_) | refine WLA.pk ?_ | refine WDQ.dec rfl rfl ?_); first | refine orL ?_ | refine orR ?_) | ((first | refine WPA.ifBt ?_ ?_ | refine WPA.ifBnf ?_ ?_); assumption) | ((first | refine WPA.ifBnt ?_ ?_ | refine WPA.ifBf ?_ ?_); assumption) | ((first | refine WPA.ifs ?_ ?_ | refine WPA.ifB ?_ ?_) <;> intro hc) | ((fail_if_success (guard_target =~ WLA _ _ _ _ _ _ (put1 _ _ (.bool true)) _)); (fail_if_success (guard_target =~ WLA _ _ _ _ _ _ (put1 _ _ (.bool false)) _)); (first | refine WLA.both rfl rfl ?_ ?_ | refine WLA.bothB rfl rfl ?_ ?_) <;> intro hg) | (guard_target =~ WPA _ _ _ (.region 21 _ true) _ _ _; refine WPA.drawT 26 (.q 0 (.q 1 (.q 2 (.q 3 (.q 4 (.q 5 (.q 6 (.q 7 (.q 8 (.q 9 (.q 10 (.q 11 (.q 12 (.q 13 (.q 14 (.q 15 (.q 16 (.q 17 (.q 18 (.q 19 (.q 20 (.q 21 (.q 22 (.q 23 (.q 24 (.q 25 .fin)))))))))))))))))))))))))) mixed ?_ ?_; kernel_rfl) | (refine WDA.finish (tl := [⟨_, _, _, _, _, _⟩, ⟨_, _, _, _, _, _⟩, ⟨_, _, _, _, _, _⟩, ⟨_, _, _, _, _, _⟩, ⟨_, _, _, _, _, _⟩]) rfl ?_) | (refine WDQ.see rfl ?_) | ((first | refine WDQ.both rfl rfl ?_ ?_) <;> intro hg))
            rw [← e5]
            repeat' ((fail_if_success (guard_target =~ WPA _ _ _ (.region 24 _ _) _ _ _)); first | ((first | refine WLA.m rfl rfl ?_ ?_ | refine WLA.st rfl ?_ ?_ | refine WLA.x rfl rfl ?_ (fun x => ?_) | refine WLA.x0 rfl ?_ (fun x => ?_)); first | exact sdT | skip) | (refine Stp.go ?_) | (guard_target =~ WLA _ _ _ _ _ (⟨_, .call ⟨.value (.func 37), _, _⟩, _, _, _, _⟩ :: _) _ _; refine WLA.call rfl rfl (hbd) ?_; rintro ⟨⟩) | (refine WPA.ifT ?_) | (refine WPA.ifF ?_) | ((first | refine WPA.dec ?_); first | refine orL ?_ | refine orR ?_) | ((first | refine WPA.ifBt ?_ ?_ | refine WPA.ifBnf ?_ ?_); assumption) | ((first | refine WPA.ifBnt ?_ ?_ | refine WPA.ifBf ?_ ?_); assumption) | ((first | refine WPA.ifs ?_ ?_ | refine WPA.ifB ?_ ?_) <;> intro hc))
            rw [e6]
            repeat' ((fail_if_success (guard_target =~ WPA _ _ _ (.region 25 _ _) _ _ _)); first | ((first | refine WLA.m rfl rfl ?_ ?_ | refine WLA.st rfl ?_ ?_ | refine WLA.x rfl rfl ?_ (fun x => ?_) | refine WLA.x0 rfl ?_ (fun x => ?_)); first | exact sdT | skip) | (refine Stp.go ?_) | (refine WPA.ifT ?_) | (refine WPA.ifF ?_) | ((first | refine WPA.dec ?_); first | refine orL ?_ | refine orR ?_) | ((first | refine WPA.ifBt ?_ ?_ | refine WPA.ifBnf ?_ ?_); assumption) | ((first | refine WPA.ifBnt ?_ ?_ | refine WPA.ifBf ?_ ?_); assumption) | ((first | refine WPA.ifs ?_ ?_ | refine WPA.ifB ?_ ?_) <;> intro hc))
            refine WPA.freezeBk (b := P) ?_
            repeat' (first | ((first | refine WLA.m rfl rfl ?_ ?_ | refine WDQ.m rfl rfl ?_ ?_ | refine WDP.m rfl rfl ?_ ?_ | refine WLA.st rfl ?_ ?_ | refine WLA.x rfl rfl ?_ (fun x => ?_) | refine WLA.x0 rfl ?_ (fun x => ?_) | refine WDW.x rfl rfl ?_ (fun x => ?_) | refine WDW.st rfl ?_ ?_); first | exact sdT | skip) | (refine Stp.go ?_) | (refine WPA.ifT ?_) | (refine WPA.ifF ?_) | ((first | refine WPA.dec ?_); first | refine orL ?_ | refine orR ?_) | ((first | refine WPA.ifBt ?_ ?_ | refine WPA.ifBnf ?_ ?_); assumption) | ((first | refine WPA.ifBnt ?_ ?_ | refine WPA.ifBf ?_ ?_); assumption) | ((first | refine WPA.ifs ?_ ?_ | refine WPA.ifB ?_ ?_) <;> intro hc) | (guard_target =~ WPA _ _ _ (.region 25 _ true) _ _ _; refine WPA.drawT 11 (.p 0 (.p 1 (.p 2 (.p 3 (.p 4 (.p 5 (.p 6 (.p 7 (.p 8 (.w 9 (.p 10 .fin))))))))))) mixed ?_ ?_; kernel_rfl) | (refine WDA.finish (tl := [⟨_, _, _, _, _, _⟩]) rfl ?_) | (refine WDQ.see rfl ?_) | (refine WDP.see rfl ?_) | (refine WDW.see rfl ?_))
            all_goals exact QQ.endc rfl ⟨(SV.nil, SV.nil, []), MdL.nil⟩ rfl fun w h => (((SL.unI h).sub hJI2.out).to)
end
end Go.Proofs.YthkhneimfjaohaaGreatDoor
