/- Texts that TallyStats_law leans on, part 13. Conditions: none. -/
import Derived.RangeFuncIn
import Derived.Test.YtamnobjdgjbmbaaGreatQs12
namespace Go.Proofs.YtamnobjdgjbmbaaGreat
open Go Go.Fw Go.RowKit
set_option linter.unusedVariables false
set_option linter.unusedSimpArgs false
set_option maxRecDepth 100000
set_option maxHeartbeats 16000000
set_option synthInstance.maxHeartbeats 200000
set_option synthInstance.maxSize 100000
attribute [local irreducible] WPA WLA WDA WDQ WDE QQ seqQ blockQ loopQ fnQ OpP OpT Tr TrP SL SLd OwnS LitS Bk BkE Ob
attribute [local irreducible] vS keyS parL RowH
theorem rdN_no {o : Nat} {u : ByteArray} {i : Nat} (h : rdN o u i = none) : ∀ n, i ≤ n → rdN o u n = none
  | 0, h2 => by rw [Nat.le_zero.1 h2] at h; exact h
  | n + 1, h2 => by
    by_cases e : i = n + 1
    · rw [← e]; exact h
    · rw [rdN, rdN_no h n (by omega)]; rfl
theorem rdN_pre {o : Nat} {u r : ByteArray} {ms : List Ct} {i : Nat} (h : rdN o u i = some (ms, r)) (hl : ms.length = i) : ∀ n, i ≤ n → ∀ q, rdN o u n = some q → ∃ l, q.1 = ms ++ l
  | 0, h2, q, hq => by
    have e := Nat.le_zero.1 h2
    subst e
    rw [h] at hq
    rw [← Option.some.inj hq]; exact ⟨[], by simp⟩
  | n + 1, h2, q, hq => by
    by_cases e : i = n + 1
    · subst e
      rw [h] at hq
      rw [← Option.some.inj hq]; exact ⟨[], by simp⟩
    · rw [rdN] at hq
      obtain ⟨q1, h3, h4⟩ := Option.bind_eq_some_iff.1 hq
      obtain ⟨x, h5, h6⟩ := Option.map_eq_some_iff.1 h4
      obtain ⟨l, hl2⟩ := rdN_pre h hl n (by omega) q1 h3
      exact ⟨l ++ [x.1], by rw [← h6, hl2, List.append_assoc]⟩
def readS (o len : Int) (u : ByteArray) : Option (List Ct) := (rdN o.toNat u len.toNat).bind fun q => if q.2.size = 0 ∧ wrong o q.1 = 0 then some q.1 else none
theorem wrE_pre {o : Int} {ms l : List Ct} {i : Nat} (h : i < ms.length) : wrE o (ms ++ l) i = wrE o ms i := by
  unfold wrE prvG
  have e : ∀ j, j < ms.length → (ms ++ l).getD j ([], 0) = ms.getD j ([], 0) := fun j hj => by rw [List.getD_eq_getElem?_getD, List.getD_eq_getElem?_getD, List.getElem?_append_left hj]
  rw [e i h, e (i - 1) (by omega)]
theorem fst_pre {o : Int} {ms l : List Ct} : fstN (wrE o (ms ++ l)) ms.length = fstN (wrE o ms) ms.length := fstN_ext fun _ hi => wrE_pre hi
theorem readS_bad {o len : Int} {u r : ByteArray} {ms : List Ct} {i : Nat} (ho : 1 ≤ o ∧ o ≤ 8) (h : rdN o.toNat u i = some (ms, r)) (hl : ms.length = i) (hi : i ≤ len.toNat) (hb : fstN (wrE o ms) ms.length ≠ 0) : readS o len u = none := by
  unfold readS
  cases hq : rdN o.toNat u len.toNat with
  | none => rfl
  | some q =>
    obtain ⟨l, e⟩ := rdN_pre h hl _ hi q hq
    have hw : wrong o q.1 ≠ 0 := by
      unfold wrong
      rw [if_neg (by omega), e]
      intro h0
      apply hb
      rw [← fst_pre (l := l)]
      exact Classical.byContradiction fun h1 => by
        have hz := fstN_zero h0
        have : ∀ i, i < ms.length → wrE o (ms ++ l) i = 0 := fun i hi => hz i (by rw [List.length_append]; omega)
        have h2 : ∀ n, n ≤ ms.length → fstN (wrE o (ms ++ l)) n = 0 := by
          intro n
          induction n with
          | zero => intro _; rfl
          | succ n ih => intro hn; rw [fstN_succ (ih (by omega)), this n (by omega)]
        exact h1 (h2 _ (Nat.le_refl _))
    show (if q.2.size = 0 ∧ wrong o q.1 = 0 then some q.1 else none) = none
    rw [if_neg (fun h => hw h.2)]
theorem prv_snoc {ms : List Ct} {x : Ct} : prvG (ms ++ [x]) ms.length = if ms.length = 0 then none else some (ms.getD (ms.length - 1) ([], 0)).1 := by
  unfold prvG
  by_cases h : ms.length = 0
  · rw [if_pos h, if_pos h]
  · rw [if_neg h, if_neg h, List.getD_eq_getElem?_getD, List.getElem?_append_left (by omega), ← List.getD_eq_getElem?_getD]
theorem wrE_snoc {o : Int} {ms : List Ct} {x : Ct} {pl : Option (List Int)} (h : pl = prvG (ms ++ [x]) ms.length) : wrE o (ms ++ [x]) ms.length = chk1 o pl x.1 x.2 := by
  unfold wrE
  rw [← h, List.getD_eq_getElem?_getD, List.getElem?_append_right (Nat.le_refl _), Nat.sub_self]; rfl
theorem WPA.aptrR {ro : Option Nat} {P : Program} {n : Nat} {Q : Hnd} {ρ : Env} {w0 : World} {I : Foot} {L : List HP} {c : Code} {s : SV} {l : List Int} [h : RdS I L s Int inferInstance l] (k : (1 ≤ l.length → s.a ≠ none) → WPA ro P n c Q ρ (SL w0 I L)) : WPA ro P n c Q ρ (SL w0 I L) :=
  WPA.ofEx (τ := { _u : Unit // 1 ≤ l.length → s.a ≠ none }) (B := fun _ => SL w0 I L) (fun w hA => ⟨⟨(), fun hl => by
    have h1 := h.out w0 w hA
    rcases h1.plain with h2 | ⟨b, o, h2⟩
    · have := h1.len; omega
    · rw [h2]; exact fun h => by cases h⟩, hA⟩) fun x => k x.2
structure QS where
  ms : List Ct
  qs : List Pe
  p : Nat
  ls : SV
  l : List Int
  x : SV
end Go.Proofs.YtamnobjdgjbmbaaGreat
namespace Go.Proofs.YtamnobjdgjbmbaaGreat
open Go Go.Fw Go.RowKit
set_option linter.unusedVariables false
set_option linter.unusedSimpArgs false
set_option maxRecDepth 100000
set_option maxHeartbeats 16000000
set_option synthInstance.maxHeartbeats 200000
set_option synthInstance.maxSize 100000
attribute [local irreducible] WPA WLA WDA WDQ WDE QQ seqQ blockQ loopQ fnQ OpP OpT Tr TrP SL SLd OwnS LitS Bk BkE Ob
attribute [local irreducible] vS keyS parL RowH
def CtsH (x : SV) (ms : List Ct) : HP := exH fun qs : List Pe => pureH (qs.map Prod.snd = ms.map Prod.snd) (star (OwnS 84 x qs) (RowH 3 (qs.map Prod.fst) (ms.map Prod.fst)))
theorem CtsH.fold {x : SV} {ms : List Ct} {qs : List Pe} {L : List HP} (h : qs.map Prod.snd = ms.map Prod.snd) : Ent (OwnS 84 x qs :: RowH 3 (qs.map Prod.fst) (ms.map Prod.fst) :: L) (CtsH x ms :: L) := Ent.ex qs (Ent.pure h (Ent.star Ent.refl))
theorem CtsH.nil {L : List HP} : Ent L (CtsH SV.nil [] :: L) := (Ent.ownNil (α := Pe) (t := 84) (RowH.nil (α := Int) (e := 3))).trans (CtsH.fold (qs := []) (ms := []) rfl)
def rdE (o : Option (List Ct)) : Int := if o.isSome then 0 else 3
section
variable {S : Nat} {m : BS} {L L' : List HP} {w0 : World} {I : Foot}
theorem runRead_tr {o n : Int} {b : SV} {ids : List Int} {T : ByteArray} {res : Option (List Ct)} [h : FindK L StoreR S m L'] (ho : (1 ≤ o ∧ o ≤ 8) ∧ 0 ≤ n) (hs : SlI I b Int inferInstance ids) (hl : m.tk.length = m.ts.length) (hb : TxB m) (hn : ids.length ≤ 1000000) (ht : txtN m ids ids.length = some T) (hr : readS o n T = res) :
    Tr Tryz.prog 18 #[.pointer (some ⟨S, 0, none⟩), .agg #[.int .i64 o, .int .i64 n, .slice b.a b.n b.cap]] (SL w0 I L) (fun x : SV => .tuple #[.slice x.a x.n x.cap, .int .i64 (rdE res)]) (fun x => SL w0 I (CtsH x (res.getD []) :: StoreR S m :: L')) := by
  refine Tr.at h.out ?_
  refine Tr.intro Tryz.func18 rfl Tryz.ntmps18 rfl ?_
  have hd : decide (1 ≤ o ∧ o ≤ 8) = true := decide_eq_true ho.1
  have hn0 : ¬ n < 0 := by omega
  have hbt : (!true) = false := rfl
  have hTs := txtN_size hb hl ht
  have hTb : T.size ≤ 65536000000 := by omega
  have hby : ∀ {L L' : List HP} [FindK L StoreR S m L'], Tr Tryz.prog 49 #[.pointer (some ⟨S, 0, none⟩), .slice b.a b.n b.cap] (SL w0 I L) (fun _ : Unit => .tuple #[.string T, .int .i64 0]) (fun _ => SL w0 I (StoreR S m :: L')) := by
    intro L L' _
    have := bytes_tr (S := S) (m := m) (L := L) (L' := L') (w0 := w0) hs hl hb hn
    rw [ht] at this
    exact this
  have hop : ∀ {L : List HP}, Tr Tryz.prog 50 #[.string T] (SL w0 I L) (fun R : Nat => .pointer (some ⟨R, 0, none⟩)) (fun R => SL w0 I (Bk R 158 (RdV T ((0 : Nat) : Int) 0) :: L)) := Open_tr
  have hfull := ext_full' T
  repeat' (first | ((rw [hd])) | ((rw [hbt])) | ((first | refine WLA.m rfl rfl ?_ ?_ | refine WLA.st rfl ?_ ?_ | refine WLA.x rfl rfl ?_ (fun x => ?_) | refine WLA.x0 rfl ?_ (fun x => ?_)); first | exact trivial | exact rfl | assumption | omega | (refine ⟨?_, ?_⟩ <;> omega) | (simp only [Room, lenS]; omega) | decide | skip) | (refine Stp.go ?_) | (guard_target =~ WLA _ _ _ _ _ (⟨_, .call ⟨.value (.func 48), _, _⟩, _, _, _, _⟩ :: _) _ _; refine WLA.cq rfl rfl (order_tr) ?_) | (guard_target =~ WLA _ _ _ _ _ (⟨_, .call ⟨.value (.func 49), _, _⟩, _, _, _, _⟩ :: _) _ _; refine WLA.call rfl rfl (hby) ?_; rintro ⟨⟩) | (guard_target =~ WLA _ _ _ _ _ (⟨_, .call ⟨.value (.func 50), _, _⟩, _, _, _, _⟩ :: _) _ _; refine WLA.call rfl rfl (hop) ?_; rintro R) | (guard_target =~ WLA _ _ _ _ _ (⟨_, .call ⟨.value (.func 51), _, _⟩, _, _, _, _⟩ :: _) _ _; refine WLA.call rfl rfl (steps_tr) ?_; rintro ⟨B, O, Z⟩) | (refine WPA.ifT ?_) | (refine WPA.ifF ?_) | (refine WLA.no rfl rfl ?_) | ((first | refine WPA.dec ?_ | ((fail_if_success (guard_target =~ WLA _ _ _ _ _ _ (put1 _ _ (.bool true)) _)); (fail_if_success (guard_target =~ WLA _ _ _ _ _ _ (put1 _ _ (.bool false)) _)); refine WLA.dec rfl rfl ?_) | refine WLA.pk ?_); first | refine .inl ⟨by first | assumption | omega | with_reducible rfl | (refine fun h => h ?_; first | assumption | with_reducible rfl) | (simp only [lenS] <;> omega) | decide, ?_⟩ | refine .inr ⟨by first | assumption | omega | with_reducible rfl | (refine fun h => h ?_; first | assumption | with_reducible rfl) | (simp only [lenS] <;> omega) | decide, ?_⟩) | ((first | refine WPA.ifBt ?_ ?_ | refine WPA.ifBnf ?_ ?_); assumption) | ((first | refine WPA.ifBnt ?_ ?_ | refine WPA.ifBf ?_ ?_); assumption) | ((first | refine WPA.ifs ?_ ?_ | refine WPA.ifB ?_ ?_) <;> intro hc) | ((fail_if_success (guard_target =~ WLA _ _ _ _ _ _ (put1 _ _ (.bool true)) _)); (fail_if_success (guard_target =~ WLA _ _ _ _ _ _ (put1 _ _ (.bool false)) _)); (first | refine WLA.both rfl rfl ?_ ?_ | refine WLA.bothB rfl rfl ?_ ?_) <;> intro hg))
  revert x; intro X
  dsimp only
  obtain ⟨ou, rfl⟩ : ∃ ou : Nat, o = (ou : Int) := ⟨o.toNat, by omega⟩
  obtain ⟨nu, rfl⟩ : ∃ nu : Nat, n = (nu : Int) := ⟨n.toNat, by omega⟩
  refine WPA.ent (L' := OwnS 84 SV.nil ([] : List Pe) :: RowH 3 [] ([] : List (List Int)) :: OwnS 3 SV.nil ([] : List Int) :: Bk Z 42 [.slice none 0 0] :: Bk O 3 [.int .i64 ou] :: Bk B 108 [.pointer (some ⟨R, 0, none⟩)] :: Bk R 158 (RdV T ((0 : Nat) : Int) 0) :: Bk X 44 [.int .i64 ou, .int .i64 nu, .slice b.a b.n b.cap] :: StoreR S m :: L') ?_ ?_
  · exact Ent.ownNil ((Ent.ownNil (α := Int) (t := 3) EntC.out).trans (RowH.nil (α := Int) (e := 3)))
  refine WPA.loopS (σ := QS) (fun y => [(0, .pointer (some ⟨S, 0, none⟩)), (3, .pointer (some ⟨X, 0, none⟩)), (8, .pointer (some ⟨R, 0, none⟩)), (9, .func (.func 77) #[] #[.pointer (some ⟨B, 0, none⟩), .pointer (some ⟨O, 0, none⟩), .pointer (some ⟨Z, 0, none⟩)]), (10, .slice y.x.a y.x.n y.x.cap)])
    (fun y => (y.qs.map Prod.snd = y.ms.map Prod.snd ∧ y.p ≤ T.size ∧ y.ms.length ≤ y.p ∧ y.ms.length ≤ nu) ∧ rdN ou T y.ms.length = some (y.ms, T.extract y.p T.size) ∧ fstN (wrE ou y.ms) y.ms.length = 0 ∧ (y.ms.length = 0 → y.ls = SV.nil) ∧ (0 < y.ms.length → y.l = (y.ms.getD (y.ms.length - 1) ([], 0)).1))
    (fun y => SL w0 I (Bk R 158 (RdV T (y.p : Nat) 0) :: Bk Z 42 [.slice y.ls.a y.ls.n y.ls.cap] :: Bk O 3 [.int .i64 ou] :: Bk B 108 [.pointer (some ⟨R, 0, none⟩)] :: OwnS 3 y.ls y.l :: OwnS 84 y.x y.qs :: RowH 3 (y.qs.map Prod.fst) (y.ms.map Prod.fst) :: Bk X 44 [.int .i64 ou, .int .i64 nu, .slice b.a b.n b.cap] :: StoreR S m :: L')) (fun y => nu - y.ms.length) ⟨[], [], 0, SV.nil, [], SV.nil⟩ ⟨rfl, rfl, rfl, rfl, rfl, trivial⟩ ⟨⟨rfl, Nat.zero_le _, Nat.le_refl _, Nat.zero_le _⟩, by show some (([] : List Ct), T) = some ([], T.extract 0 T.size); rw [hfull], rfl, fun _ => rfl, fun h => absurd h (Nat.lt_irrefl 0)⟩ (fun w h => (h.to : SL w0 I (Bk R 158 (RdV T ((0 : Nat) : Int) 0) :: Bk Z 42 [.slice none 0 0] :: Bk O 3 [.int .i64 ou] :: Bk B 108 [.pointer (some ⟨R, 0, none⟩)] :: OwnS 3 SV.nil ([] : List Int) :: OwnS 84 SV.nil ([] : List Pe) :: RowH 3 [] ([] : List (List Int)) :: Bk X 44 [.int .i64 ou, .int .i64 nu, .slice b.a b.n b.cap] :: StoreR S m :: L') w)) ?_
  rintro ⟨ms, qs, p, ls, l, x⟩ ρ ⟨⟨hq, hp, hip, hin⟩, hrd, hz, hl0, hl1⟩
  dsimp only at hq hp hip hin hrd hz hl0 hl1 ⊢
  have hql : qs.length = ms.length := by have := congrArg List.length hq; simpa using this
  by_cases hlt : ms.length < nu
  · have hlt' : (qs.length : Int) < nu := by omega
    refine WPA.aptrR (s := ls) (l := l) fun hap => ?_
    have hprv : ∀ y : Ct, prvG (ms ++ [y]) ms.length = if ms.length = 0 then none else some l := fun y => by
      rw [prv_snoc]
      by_cases h0 : ms.length = 0
      · rw [if_pos h0, if_pos h0]
      · rw [if_neg h0, if_neg h0, hl1 (by omega)]
    have hgood := wr_take hz
    rw [List.take_length] at hgood
    have hll : 0 < ms.length → (l.length : Int) = ou := fun h0 => by
      rw [hl1 h0]
      refine (hgood _ ?_).1
      rw [List.getD_eq_getElem?_getD, List.getElem?_eq_getElem (by omega)]; exact List.getElem_mem _
    have hpl : (ls.a = none ∧ (if ms.length = 0 then none else some l) = none) ∨ (ls.a ≠ none ∧ (if ms.length = 0 then none else some l) = some l ∧ l.length ≤ 1000000) := by
      by_cases h0 : ms.length = 0
      · exact .inl ⟨by rw [hl0 h0]; rfl, if_pos h0⟩
      · have := hll (by omega)
        exact .inr ⟨hap (by omega), if_neg h0, by omega⟩
    have hnx : rdN ou T (ms.length + 1) = (rdOne ou (T.extract p T.size)).map fun r => (ms ++ [r.1], r.2) := by rw [rdN, hrd]; rfl
    cases hone : rdOne ou (T.extract p T.size) with
    | none =>
      rw [hone] at hnx
      have hres : res = none := by
        rw [← hr]; unfold readS
        rw [Int.toNat_natCast, Int.toNat_natCast, rdN_no hnx nu hlt]; rfl
      subst hres
      repeat' (first | ((first | refine WLA.m rfl rfl ?_ ?_ | refine WLA.st rfl ?_ ?_ | refine WLA.x rfl rfl ?_ (fun x => ?_) | refine WLA.x0 rfl ?_ (fun x => ?_)); first | exact trivial | exact rfl | assumption | omega | (refine ⟨?_, ?_⟩ <;> omega) | (simp only [Room, lenS]; omega) | decide | skip) | (refine Stp.go ?_) | (guard_target =~ WLA _ _ _ _ _ (⟨_, .call ⟨.value (.tmp _), _, _⟩, _, _, _, _⟩ :: _) _ _; refine WLA.callV rfl rfl (stepC_none hp (by omega) (by omega) hone) ?_; rintro ⟨⟩) | (refine WPA.ifT ?_) | (refine WPA.ifF ?_) | ((first | refine WPA.dec ?_); first | refine .inl ⟨by first | assumption | omega | with_reducible rfl | (refine fun h => h ?_; first | assumption | with_reducible rfl) | (simp only [lenS] <;> omega) | decide, ?_⟩ | refine .inr ⟨by first | assumption | omega | with_reducible rfl | (refine fun h => h ?_; first | assumption | with_reducible rfl) | (simp only [lenS] <;> omega) | decide, ?_⟩) | ((first | refine WPA.ifBt ?_ ?_ | refine WPA.ifBnf ?_ ?_); assumption) | ((first | refine WPA.ifBnt ?_ ?_ | refine WPA.ifBf ?_ ?_); assumption) | ((first | refine WPA.ifs ?_ ?_ | refine WPA.ifB ?_ ?_) <;> intro hc))
      exact QQ.end_ rfl SV.nil rfl fun w h => CtsH.nil.sl (h.to : SL w0 I (StoreR S m :: L') w)
    | some xu =>
      obtain ⟨y, u'⟩ := xu
      rw [hone] at hnx
      have hnx2 : rdN ou T (ms.length + 1) = some (ms ++ [y], u') := hnx
      have hsn := wrE_snoc (o := ou) (ms := ms) (x := y) (hprv y).symm
      by_cases hc : chk1 ou (if ms.length = 0 then none else some l) y.1 y.2 = 0
      · have hcz := chk1_zero hc
        have hroom : Room (qs.length + 1) 32 := ⟨by omega, by omega⟩
        repeat' (first | ((first | refine WLA.m rfl rfl ?_ ?_ | refine WDQ.m rfl rfl ?_ ?_ | refine WLA.st rfl ?_ ?_ | refine WLA.x rfl rfl ?_ (fun x => ?_) | refine WLA.x0 rfl ?_ (fun x => ?_)); first | exact trivial | exact rfl | assumption | omega | (refine ⟨?_, ?_⟩ <;> omega) | (simp only [Room, lenS]; omega) | decide | skip) | (refine Stp.go ?_) | (guard_target =~ WLA _ _ _ _ _ (⟨_, .call ⟨.value (.tmp _), _, _⟩, _, _, _, _⟩ :: _) _ _; refine WLA.callV rfl rfl (stepC_tr hp (by omega) (by omega) hone hpl hc) ?_; rintro ⟨g, ⟨p', hp', hu'⟩⟩; dsimp only) | (guard_target =~ WLA _ _ _ _ _ (⟨_, .call ⟨.value (.func 46), _, _⟩, _, _, _, _⟩ :: _) _ _; refine WLA.call rfl rfl (Clone_tr (xs := y.1) (by omega)) ?_; rintro c) | (refine WPA.ifT ?_) | (refine WPA.ifF ?_) | ((first | refine WPA.dec ?_); first | refine .inl ⟨by first | assumption | omega | with_reducible rfl | (refine fun h => h ?_; first | assumption | with_reducible rfl) | (simp only [lenS] <;> omega) | decide, ?_⟩ | refine .inr ⟨by first | assumption | omega | with_reducible rfl | (refine fun h => h ?_; first | assumption | with_reducible rfl) | (simp only [lenS] <;> omega) | decide, ?_⟩) | ((first | refine WPA.ifBt ?_ ?_ | refine WPA.ifBnf ?_ ?_); assumption) | ((first | refine WPA.ifBnt ?_ ?_ | refine WPA.ifBf ?_ ?_); assumption) | ((first | refine WPA.ifs ?_ ?_ | refine WPA.ifB ?_ ?_) <;> intro hc) | (guard_target =~ WPA _ _ _ (.region 15 _ true) _ _ _; refine WPA.drawT 8 (.q 0 (.q 1 (.q 2 (.q 4 (.q 5 (.e 3 (.q 6 (.e 7 .fin)))))))) mixed ?_ ?_; kernel_rfl) | (refine WDA.finish (tl := [⟨_, _, _, _, _, _⟩, ⟨_, _, _, _, _, _⟩]) rfl ?_) | (refine WDQ.see rfl ?_) | (refine WDE.see rfl ?_) | (refine WDE.alloc rfl rfl (fun w h => h) (fun x => ?_)) | (refine WDE.stE rfl ?_) | (refine WDE.x rfl rfl ?_ ?_ (fun x => ?_); rotate_left 1; (intro x w h; first | exact h | exact Ent.drop1.sl h | exact SL.unI h | exact SL.to h); rotate_left 1; first | exact trivial | exact rfl | assumption | omega | (refine ⟨?_, ?_⟩ <;> omega) | (simp only [Room, lenS]; omega) | decide | skip) | (guard_target =~ WDW _ _ _ _ _ _ _ ⟨_, .call ⟨.value (.tmp _), _, _⟩, _, _, _, _⟩ _ _ _; refine WDW.callV rfl rfl (stepC_tr hp (by omega) (by omega) hone hpl hc) ?_; rintro ⟨g, ⟨p', hp', hu'⟩⟩; dsimp only) | (guard_target =~ WDE _ _ _ _ _ _ _ ⟨_, .call ⟨.value (.func 46), _, _⟩, _, _, _, _⟩ _ _ _; refine WDE.call rfl rfl (Clone_tr (xs := y.1) (by omega)) ?_ ?_; (intro x w h; first | exact h | exact Ent.drop1.sl h | exact SL.unI h | exact SL.to h); rintro c) | (guard_target =~ WDW _ _ _ _ _ _ _ ⟨_, .call ⟨.value (.func 46), _, _⟩, _, _, _, _⟩ _ _ _; refine WDW.call rfl rfl (Clone_tr (xs := y.1) (by omega)) ?_; rintro c))
        obtain ⟨v, k, k1, -, -, k2, k3, k4⟩ := rdOne_some hp hone
        have hpp : p' = p + ou * 3 + k := by
          rw [hu'] at k2
          have := congrArg ByteArray.size k2
          rw [ext_size' T p' hp', ext_size' T _ k3] at this
          omega
        have hlen : (ms ++ [y]).length = ms.length + 1 := by simp
        refine QQ.loopS ⟨ms ++ [y], qs ++ [(c, y.2)], p', g, y.1, x⟩ ⟨rfl, rfl, rfl, rfl, rfl, trivial⟩ ⟨⟨by simp [hq], hp', by dsimp only; omega, by dsimp only; omega⟩, by dsimp only; rw [hlen, hnx2, hu'], ?_, fun h => absurd h (by dsimp only; omega), fun _ => ?_⟩ (by dsimp only; omega) (fun w h => ?_)
        · dsimp only
          rw [hlen, fstN_succ (by rw [fst_pre]; exact hz), hsn]
          exact hc
        · dsimp only
          rw [hlen, Nat.add_sub_cancel, List.getD_eq_getElem?_getD, List.getElem?_append_right (Nat.le_refl _), Nat.sub_self]; rfl
        · dsimp only
          have h2 : SL w0 I (OwnS 3 c y.1 :: RowH 3 (qs.map Prod.fst) (ms.map Prod.fst) :: Bk R 158 (RdV T (p' : Nat) 0) :: Bk Z 42 [.slice g.a g.n g.cap] :: Bk O 3 [.int .i64 ou] :: Bk B 108 [.pointer (some ⟨R, 0, none⟩)] :: OwnS 3 g y.1 :: OwnS 84 x (qs ++ [(c, y.2)]) :: Bk X 44 [.int .i64 ou, .int .i64 nu, .slice b.a b.n b.cap] :: StoreR S m :: L') w := h.to
          have h3 := (RowH.snoc (by rw [List.length_map, List.length_map]; exact hql)).sl h2
          rw [List.map_append, List.map_append, show List.map Prod.fst [(c, y.2)] = [c] from rfl, show List.map Prod.fst [y] = [y.1] from rfl]
          exact h3.to
      · have hres : res = none := by
          rw [← hr]
          refine readS_bad (i := ms.length + 1) (by omega) hnx2 (by simp) (by omega) ?_
          rw [List.length_append]
          show fstN _ (ms.length + 1) ≠ 0
          rw [fstN_succ (by rw [fst_pre]; exact hz), hsn]
          exact hc
        subst hres
        repeat' (first | ((first | refine WLA.m rfl rfl ?_ ?_ | refine WLA.st rfl ?_ ?_ | refine WLA.x rfl rfl ?_ (fun x => ?_) | refine WLA.x0 rfl ?_ (fun x => ?_)); first | exact trivial | exact rfl | assumption | omega | (refine ⟨?_, ?_⟩ <;> omega) | (simp only [Room, lenS]; omega) | decide | skip) | (refine Stp.go ?_) | (guard_target =~ WLA _ _ _ _ _ (⟨_, .call ⟨.value (.tmp _), _, _⟩, _, _, _, _⟩ :: _) _ _; refine WLA.callV rfl rfl (stepC_bad hp (by omega) (by omega) hone hpl hc) ?_; rintro ⟨⟩) | (refine WPA.ifT ?_) | (refine WPA.ifF ?_) | ((first | refine WPA.dec ?_); first | refine .inl ⟨by first | assumption | omega | with_reducible rfl | (refine fun h => h ?_; first | assumption | with_reducible rfl) | (simp only [lenS] <;> omega) | decide, ?_⟩ | refine .inr ⟨by first | assumption | omega | with_reducible rfl | (refine fun h => h ?_; first | assumption | with_reducible rfl) | (simp only [lenS] <;> omega) | decide, ?_⟩) | ((first | refine WPA.ifBt ?_ ?_ | refine WPA.ifBnf ?_ ?_); assumption) | ((first | refine WPA.ifBnt ?_ ?_ | refine WPA.ifBf ?_ ?_); assumption) | ((first | refine WPA.ifs ?_ ?_ | refine WPA.ifB ?_ ?_) <;> intro hc))
        exact QQ.end_ rfl SV.nil rfl fun w h => CtsH.nil.sl (h.to : SL w0 I (StoreR S m :: L') w)
  · have hlt' : ¬ (qs.length : Int) < nu := by omega
    have hie : ms.length = nu := by omega
    have hw : wrong ou ms = 0 := by unfold wrong; rw [if_neg (by omega)]; exact hz
    have hrs : readS (ou : Int) (nu : Int) T = if (T.extract p T.size).size = 0 ∧ wrong ou ms = 0 then some ms else none := by
      unfold readS
      rw [Int.toNat_natCast, Int.toNat_natCast, ← hie, hrd]; rfl
    rw [hr, ext_size' T p hp] at hrs
    by_cases hps : p < T.size
    · rw [if_neg (by omega)] at hrs
      subst hrs
      have he := fun {L L' : List HP} [FindBk L R 158 (RdV T p 0) L'] => End_tr (R := R) (p := p) (t := T) (L := L) (L' := L') (w0 := w0) (I := I) (e := 0) hp (by omega)
      rw [if_pos ⟨rfl, hps⟩] at he
      repeat' (first | ((first | refine WLA.m rfl rfl ?_ ?_ | refine WLA.st rfl ?_ ?_ | refine WLA.x rfl rfl ?_ (fun x => ?_) | refine WLA.x0 rfl ?_ (fun x => ?_)); first | exact trivial | exact rfl | assumption | omega | (refine ⟨?_, ?_⟩ <;> omega) | (simp only [Room, lenS]; omega) | decide | skip) | (refine Stp.go ?_) | (guard_target =~ WLA _ _ _ _ _ (⟨_, .call ⟨.value (.func 52), _, _⟩, _, _, _, _⟩ :: _) _ _; refine WLA.call rfl rfl (he) ?_; rintro ⟨⟩) | (refine WPA.ifT ?_) | (refine WPA.ifF ?_) | ((first | refine WPA.dec ?_); first | refine .inl ⟨by first | assumption | omega | with_reducible rfl | (refine fun h => h ?_; first | assumption | with_reducible rfl) | (simp only [lenS] <;> omega) | decide, ?_⟩ | refine .inr ⟨by first | assumption | omega | with_reducible rfl | (refine fun h => h ?_; first | assumption | with_reducible rfl) | (simp only [lenS] <;> omega) | decide, ?_⟩) | ((first | refine WPA.ifBt ?_ ?_ | refine WPA.ifBnf ?_ ?_); assumption) | ((first | refine WPA.ifBnt ?_ ?_ | refine WPA.ifBf ?_ ?_); assumption) | ((first | refine WPA.ifs ?_ ?_ | refine WPA.ifB ?_ ?_) <;> intro hc))
      exact QQ.end_ rfl SV.nil rfl fun w h => CtsH.nil.sl (h.to : SL w0 I (StoreR S m :: L') w)
    · rw [if_pos ⟨by omega, hw⟩] at hrs
      subst hrs
      have he := fun {L L' : List HP} [FindBk L R 158 (RdV T p 0) L'] => End_tr (R := R) (p := p) (t := T) (L := L) (L' := L') (w0 := w0) (I := I) (e := 0) hp (by omega)
      rw [if_neg (fun h => hps h.2)] at he
      repeat' (first | ((first | refine WLA.m rfl rfl ?_ ?_ | refine WLA.st rfl ?_ ?_ | refine WLA.x rfl rfl ?_ (fun x => ?_) | refine WLA.x0 rfl ?_ (fun x => ?_)); first | exact trivial | exact rfl | assumption | omega | (refine ⟨?_, ?_⟩ <;> omega) | (simp only [Room, lenS]; omega) | decide | skip) | (refine Stp.go ?_) | (guard_target =~ WLA _ _ _ _ _ (⟨_, .call ⟨.value (.func 52), _, _⟩, _, _, _, _⟩ :: _) _ _; refine WLA.call rfl rfl (he) ?_; rintro ⟨⟩) | (refine WPA.ifT ?_) | (refine WPA.ifF ?_) | ((first | refine WPA.dec ?_); first | refine .inl ⟨by first | assumption | omega | with_reducible rfl | (refine fun h => h ?_; first | assumption | with_reducible rfl) | (simp only [lenS] <;> omega) | decide, ?_⟩ | refine .inr ⟨by first | assumption | omega | with_reducible rfl | (refine fun h => h ?_; first | assumption | with_reducible rfl) | (simp only [lenS] <;> omega) | decide, ?_⟩) | ((first | refine WPA.ifBt ?_ ?_ | refine WPA.ifBnf ?_ ?_); assumption) | ((first | refine WPA.ifBnt ?_ ?_ | refine WPA.ifBf ?_ ?_); assumption) | ((first | refine WPA.ifs ?_ ?_ | refine WPA.ifB ?_ ?_) <;> intro hc))
      exact QQ.end_ rfl x rfl fun w h => (CtsH.fold hq).sl (h.to : SL w0 I (OwnS 84 x qs :: RowH 3 (qs.map Prod.fst) (ms.map Prod.fst) :: StoreR S m :: L') w)
end
end Go.Proofs.YtamnobjdgjbmbaaGreat
namespace Go.Proofs.YtamnobjdgjbmbaaGreat
open Go Go.Fw Go.RowKit
set_option linter.unusedVariables false
set_option linter.unusedSimpArgs false
set_option maxRecDepth 100000
set_option maxHeartbeats 16000000
set_option synthInstance.maxHeartbeats 200000
set_option synthInstance.maxSize 100000
attribute [local irreducible] WPA WLA WDA WDQ WDE QQ seqQ blockQ loopQ fnQ OpP OpT Tr TrP SL SLd OwnS LitS Bk BkE Ob
theorem vint_ne (n : Nat) : 1 ≤ (vint n).length := by
  by_cases h : n < 128
  · rw [vint_lt h]; exact Nat.le_refl 1
  · rw [vint_ge h]; exact Nat.le_add_left 1 _
theorem bN_get {s : ByteArray} {pre post : List UInt8} {b : UInt8} (h : s.data.toList = pre ++ b :: post) : bN s pre.length = b.toNat := by
  have hl : pre.length < s.data.toList.length := by rw [h, List.length_append, List.length_cons]; omega
  have h1 := bt_get hl
  unfold bN
  rw [h1]
  have : s.data.toList[pre.length] = b := by
    have h2 : s.data.toList[pre.length]? = some b := by rw [h, List.getElem?_append_right (Nat.le_refl _), Nat.sub_self]; rfl
    rw [List.getElem?_eq_getElem hl] at h2
    exact Option.some.inj h2
  rw [this]; rfl
theorem size_list' (s : ByteArray) : s.size = s.data.toList.length := by show s.data.size = _; rw [Array.length_toList]
theorem u8_nat {m : Nat} (h : m < 256) : (UInt8.ofNat m).toNat = m := by rw [UInt8.toNat_ofNat', Nat.mod_eq_of_lt h]
theorem vint_led {s : ByteArray} : ∀ (n : Nat) (pre post : List UInt8), s.data.toList = pre ++ (vint n ++ post) → ∀ f, (vint n).length ≤ f + 1 → ledN s f pre.length = pre.length + (vint n).length - 1 := by
  intro n
  induction n using Nat.strongRecOn with
  | _ n ih =>
    intro pre post h f hf
    by_cases hn : n < 128
    · rw [vint_lt hn] at h ⊢
      have hb := bN_get (pre := pre) (b := UInt8.ofNat n) (post := post) h
      rw [u8_nat (by omega)] at hb
      cases f with
      | zero => simp [ledN]
      | succ f => rw [ledN, if_neg (by omega)]; simp
    · rw [vint_ge hn] at h hf ⊢
      have hb := bN_get (pre := pre) (b := UInt8.ofNat (n % 128 + 128)) (post := vint (n / 128) ++ post) (by rw [h]; rfl)
      rw [u8_nat (by omega)] at hb
      have hv := vint_ne (n / 128)
      simp only [List.length_cons] at hf ⊢
      have hlen : pre.length < s.size := by rw [size_list', h, List.length_append]; simp
      cases f with
      | zero => omega
      | succ f =>
        rw [ledN, if_pos ⟨hlen, by omega⟩]
        have := ih (n / 128) (by omega) (pre ++ [UInt8.ofNat (n % 128 + 128)]) post (by rw [h]; simp) f (by omega)
        rw [List.length_append] at this
        simp only [List.length_cons, List.length_nil] at this
        rw [Nat.zero_add] at this
        rw [this]; omega
theorem vint_val {s : ByteArray} : ∀ (n : Nat) (pre post : List UInt8), s.data.toList = pre ++ (vint n ++ post) → valR s pre.length (vint n).length = n := by
  intro n
  induction n using Nat.strongRecOn with
  | _ n ih =>
    intro pre post h
    by_cases hn : n < 128
    · rw [vint_lt hn] at h ⊢
      have hb := bN_get (pre := pre) (b := UInt8.ofNat n) (post := post) h
      rw [u8_nat (by omega)] at hb
      show bN s pre.length % 128 + 128 * 0 = n
      rw [hb]; omega
    · rw [vint_ge hn] at h ⊢
      have hb := bN_get (pre := pre) (b := UInt8.ofNat (n % 128 + 128)) (post := vint (n / 128) ++ post) (by rw [h]; rfl)
      rw [u8_nat (by omega)] at hb
      have := ih (n / 128) (by omega) (pre ++ [UInt8.ofNat (n % 128 + 128)]) post (by rw [h]; simp)
      rw [List.length_append] at this
      show bN s pre.length % 128 + 128 * valR s (pre.length + 1) (vint (n / 128)).length = n
      rw [hb]
      have e : valR s (pre.length + 1) (vint (n / 128)).length = n / 128 := this
      rw [e]; omega
theorem vint_last {s : ByteArray} : ∀ (n : Nat) (pre post : List UInt8), s.data.toList = pre ++ (vint n ++ post) → bN s (pre.length + (vint n).length - 1) = 0 → n = 0 := by
  intro n
  induction n using Nat.strongRecOn with
  | _ n ih =>
    intro pre post h h0
    by_cases hn : n < 128
    · rw [vint_lt hn] at h h0
      have hb := bN_get (pre := pre) (b := UInt8.ofNat n) (post := post) h
      rw [u8_nat (by omega)] at hb
      have : pre.length + [UInt8.ofNat n].length - 1 = pre.length := by simp
      rw [this, hb] at h0
      exact h0
    · rw [vint_ge hn] at h h0
      have hv := vint_ne (n / 128)
      have := ih (n / 128) (by omega) (pre ++ [UInt8.ofNat (n % 128 + 128)]) post (by rw [h]; simp) (by
        rw [List.length_append]
        simp only [List.length_cons, List.length_nil] at h0 ⊢
        rw [show pre.length + (0 + 1) + (vint (n / 128)).length - 1 = pre.length + ((vint (n / 128)).length + 1) - 1 by omega]; exact h0)
      omega
theorem numR_vS {n : Nat} (hn : n ≤ 1099511627776) (r : ByteArray) : numR (vS n ++ r) = (n, (vS n).size, 0) := by
  have hd : (vS n ++ r).data.toList = [] ++ (vint n ++ r.data.toList) := by
    rw [ByteArray.data_append, Array.toList_append]
    unfold vS; simp
  have hl := vint_len 5 n (by omega)
  have h1 := vint_led n [] r.data.toList hd 10 (by omega)
  have h2 := vint_val n [] r.data.toList hd
  have h3 := vint_last n [] r.data.toList hd
  have h4 := vint_ne n
  have hsz : (vS n).size = (vint n).length := by unfold vS; show (vint n).toArray.size = _; simp
  have hs2 : (vS n ++ r).size = (vint n).length + r.size := by rw [ByteArray.size_append, hsz]
  simp only [List.length_nil, Nat.zero_add] at h1 h2 h3
  have e : lead (vS n ++ r) = (vint n).length - 1 := h1
  rw [num_ok (by omega) (by omega) (by
    rw [e]
    rintro (⟨ha, -⟩ | ⟨ha, hb⟩)
    · omega
    · have h0 := h3 hb
      subst h0
      rw [vint_lt (by omega)] at ha
      simp at ha), e, show (vint n).length - 1 + 1 = (vint n).length by omega, h2, hsz]
theorem uptR_vS {n : Nat} (hn : n ≤ 1099511627776) (r : ByteArray) : uptR (vS n ++ r) = some (n, (vS n).size) := by
  unfold uptR
  rw [numR_vS hn, if_pos ⟨rfl, hn⟩]
theorem app_left (a b : ByteArray) : (a ++ b).extract 0 a.size = a := by
  apply ByteArray.ext
  rw [ByteArray.data_extract, ByteArray.data_append]
  have : a.size = a.data.size := rfl
  rw [this]
  simp
theorem app_right (a b : ByteArray) : (a ++ b).extract a.size (a ++ b).size = b := by
  apply ByteArray.ext
  rw [ByteArray.data_extract, ByteArray.size_append, ByteArray.data_append]
  have h1 : a.size = a.data.toList.length := size_list' a
  have h2 : b.size = b.data.toList.length := size_list' b
  apply Array.toList_inj.1
  rw [Array.toList_extract, Array.toList_append, List.extract_eq_take_drop, h1, h2, List.drop_left, Nat.add_sub_cancel_left, List.take_length]
theorem byS_from (t : ByteArray) : ∀ ms : List Ct, ms.foldl (fun t m => t ++ keyS m.1 ++ vS m.2.toNat) t = t ++ byS ms
  | [] => (app_bnil t).symm
  | m :: l => by
    unfold byS
    rw [List.foldl_cons, List.foldl_cons, byS_from _ l, byS_from _ l, bnil_app, ByteArray.append_assoc, ByteArray.append_assoc, ByteArray.append_assoc]
theorem byS_cons (m : Ct) (l : List Ct) : byS (m :: l) = keyS m.1 ++ (vS m.2.toNat ++ byS l) := by
  show ((⟨#[]⟩ : ByteArray) ++ keyS m.1 ++ vS m.2.toNat |> fun t => l.foldl (fun t m => t ++ keyS m.1 ++ vS m.2.toNat) t) = _
  dsimp only
  rw [byS_from, bnil_app, ByteArray.append_assoc]
theorem rdOne_key {o : Nat} {g : List Int} {n : Int} {r : ByteArray} (hg : g.length = o) (hk : okKey g) (hn : 0 ≤ n ∧ n ≤ 1099511627776) : rdOne o (keyS g ++ (vS n.toNat ++ r)) = some ((g, n), r) := by
  have hs := keyS_size g
  have e3 : 3 * o = (keyS g).size := by omega
  unfold rdOne
  rw [e3, if_neg (by rw [ByteArray.size_append]; omega), app_left, app_right, uptR_vS (by omega), Option.map_some]
  show some ((parL (keyS g), ((n.toNat : Nat) : Int)), (vS n.toNat ++ r).extract (vS n.toNat).size (vS n.toNat ++ r).size) = _
  rw [app_right, parL_key hk, Int.toNat_of_nonneg hn.1]
theorem rdN_from {o : Nat} {u r : ByteArray} {l : List Ct} {i : Nat} (h : rdN o u i = some (l, r)) : ∀ (ms : List Ct), (∀ m ∈ ms, m.1.length = o ∧ okKey m.1 ∧ 0 ≤ m.2 ∧ m.2 ≤ 1099511627776) → r = byS ms → rdN o u (i + ms.length) = some (l ++ ms, ⟨#[]⟩)
  | [], _, hr => by subst hr; rw [List.append_nil]; exact h
  | m :: ms, hm, hr => by
    have h1 := hm m (List.mem_cons_self ..)
    rw [byS_cons] at hr
    have h2 : rdN o u (i + 1) = some (l ++ [m], byS ms) := by
      rw [rdN, h]
      show (rdOne o r).map _ = _
      rw [hr, rdOne_key h1.1 h1.2.1 h1.2.2]; rfl
    have := rdN_from h2 ms (fun m' h' => hm m' (List.mem_cons_of_mem _ h')) rfl
    rw [List.length_cons, show i + (ms.length + 1) = i + 1 + ms.length by omega, this, List.append_assoc]; rfl
theorem readS_back {o : Int} {ms : List Ct} (h : wrong o ms = 0) : readS o ms.length (byS ms) = some ms := by
  have hg := wrong_good h
  have ho := (wrong_zero h).1
  have := rdN_from (o := o.toNat) (u := byS ms) (l := []) (i := 0) rfl ms (fun m hm => by have := hg m hm; exact ⟨by omega, this.2.1, by omega, this.2.2.2⟩) rfl
  rw [Nat.zero_add, List.nil_append] at this
  unfold readS
  rw [Int.toNat_natCast, this]
  show (if (⟨#[]⟩ : ByteArray).size = 0 ∧ wrong o ms = 0 then some ms else none) = some ms
  rw [if_pos ⟨rfl, h⟩]
end Go.Proofs.YtamnobjdgjbmbaaGreat
namespace Go.Proofs.YtamnobjdgjbmbaaGreat
open Go Go.Fw Go.RowKit
set_option linter.unusedVariables false
set_option linter.unusedSimpArgs false
set_option maxRecDepth 100000
set_option maxHeartbeats 16000000
set_option synthInstance.maxHeartbeats 200000
set_option synthInstance.maxSize 100000
attribute [local irreducible] WPA WLA WDA WDQ WDE QQ seqQ blockQ loopQ fnQ OpP OpT Tr TrP SL SLd OwnS LitS Bk BkE Ob
def catB (m : BS) (l : List Int) : ByteArray := l.foldr (fun i t => at_ m.ts i ++ t) ⟨#[]⟩
structure Filled (m m' : BS) (new : List Int) (u : ByteArray) : Prop where
  ok : m'.Ok
  sz : m'.size = m.size ∧ m'.most = m.most
  used : m'.used = m.used + new.length
  peak : m.used ≤ m.peak → m'.peak = max m.peak m'.used
  txb : TxB m → TxB m'
  keep : ∀ i : Int, Has m.tk i → Has m'.tk i ∧ at_ m'.ts i = at_ m.ts i
  has : ∀ i ∈ new, Has m'.tk i ∧ ¬ Has m.tk i
  nodup : new.Nodup
  cat : catB m' new = u
  num : (new.length : Int) * m.size < u.size + m.size ∧ (u.size : Int) ≤ new.length * m.size
theorem not_has_free (tk : List Bool) : ¬ Has tk (firstFree tk : Nat) := fun h => by
  have h1 := has_nat.1 h
  have h2 := padB_at tk
  unfold padB at h2
  split at h2
  · rw [h2] at h1; cases h1
  · rename_i h3; rw [List.getElem?_eq_none (by omega)] at h1; cases h1
theorem has_int {tk : List Bool} {i : Int} (h : Has tk i) : ∃ j : Nat, i = j ∧ tk[j]? = some true := by
  have h0 := h.1.1
  refine ⟨i.toNat, by omega, ?_⟩
  exact has_nat.1 (by rw [Int.toNat_of_nonneg h0]; exact h)
theorem keep_one {m : BS} {u : ByteArray} (ok : m.Ok) {i : Int} (h : Has m.tk i) : Has (m.alloc.write (firstFree m.tk : Nat) u).tk i ∧ at_ (m.alloc.write (firstFree m.tk : Nat) u).ts i = at_ m.ts i := by
  obtain ⟨j, rfl, hj⟩ := has_int h
  have hne : j ≠ firstFree m.tk := fun e => not_has_free m.tk (by rw [← e]; exact h)
  have hlt : j < m.tk.length := (List.getElem?_eq_some_iff.1 hj).1
  have hl := ok.lens
  constructor
  · refine has_nat.2 ?_
    show ((padB m.tk).set (firstFree m.tk) true)[j]? = some true
    rw [List.getElem?_set_ne (Ne.symm hne), padB_ne _ _ hne]; exact hj
  · show at_ ((padT m.tk m.ts).set ((firstFree m.tk : Nat) : Int).toNat u) (j : Int) = _
    unfold at_
    rw [List.getD_eq_getElem?_getD, List.getD_eq_getElem?_getD, Int.toNat_natCast, Int.toNat_natCast, List.getElem?_set_ne (Ne.symm hne), padT_at _ _ _ (by omega)]
theorem at_one {m : BS} {u : ByteArray} (ok : m.Ok) : at_ (m.alloc.write (firstFree m.tk : Nat) u).ts (firstFree m.tk : Nat) = u := by
  show at_ ((padT m.tk m.ts).set ((firstFree m.tk : Nat) : Int).toNat u) ((firstFree m.tk : Nat) : Int) = u
  have h1 := firstFree_padB m.tk
  have h2 := padB_len m.tk m.ts ok.lens
  unfold at_
  rw [List.getD_eq_getElem?_getD, Int.toNat_natCast, List.getElem?_set_self (by omega)]; rfl
theorem ext_app (t : ByteArray) (a b : Nat) (h : a ≤ b) (hb : b ≤ t.size) : t.extract a b ++ t.extract b t.size = t.extract a t.size := by
  apply ByteArray.ext
  rw [ByteArray.data_append, ByteArray.data_extract, ByteArray.data_extract, ByteArray.data_extract, Array.extract_append_extract]
  congr 1 <;> omega
theorem fillN_law (t : ByteArray) : ∀ (d : Nat) (m : BS) (ids : List Int) (k : Nat), t.size - k = d → k ≤ t.size → m.Ok → ((t.size - k : Nat) : Int) ≤ m.size * (m.most - m.used) →
    ∃ new, (fillN t m ids k).2 = ids ++ new ∧ Filled m (fillN t m ids k).1 new (t.extract k t.size) := by
  intro d
  induction d using Nat.strongRecOn with
  | _ d ih =>
    intro m ids k hd hk ok hR
    have hes := ext_size' t k hk
    by_cases hlt : k < t.size
    · have hz1 := ok.size
      obtain ⟨c1, c2, c3, c4⟩ := fillC_eq hlt hz1
      have hum1 := ok.um
      have hu : m.used < m.most := by
        rcases Int.lt_or_eq_of_le hum1 with h | h
        · exact h
        · rw [h, Int.sub_self, Int.mul_zero] at hR; omega
      rw [fillN_step hlt]
      have hok2 := (ok.alloc hu).write (has_alloc m) (t := t.extract k (k + fillC t m k))
      have hsp : (t.extract k (k + fillC t m k)).size = fillC t m k := by rw [ByteArray.size_extract]; omega
      have hR2 : ((t.size - (k + fillC t m k) : Nat) : Int) ≤ m.size * (m.most - (m.used + 1)) := by
        have e : m.size * (m.most - (m.used + 1)) = m.size * (m.most - m.used) - m.size := by rw [← Int.sub_sub, Int.mul_sub m.size (m.most - m.used) 1, Int.mul_one]
        rw [e]
        rcases Int.le_total ((t.size - k : Nat) : Int) m.size with hle | hle
        · have : 0 ≤ m.size * (m.most - m.used - 1) := Int.mul_nonneg (by omega) (by omega)
          rw [Int.mul_sub, Int.mul_one] at this
          omega
        · omega
      have hcat := ext_app t k (k + fillC t m k) (by omega) c3
      have hes2 := ext_size' t (k + fillC t m k) c3
      generalize fillC t m k = c at c1 c2 c3 c4 hok2 hsp hR2 hcat hes2
      obtain ⟨new, e1, F⟩ := ih (t.size - (k + c)) (by omega) (m.alloc.write (firstFree m.tk : Nat) (t.extract k (k + c))) (ids ++ [(firstFree m.tk : Int)]) (k + c) rfl c3 hok2 hR2
      have hk1 : ∀ {i : Int}, Has m.tk i → _ := fun {i} h => keep_one (u := t.extract k (k + c)) ok h
      have ha1 := at_one (u := t.extract k (k + c)) ok
      have hh1 : Has (m.alloc.write (firstFree m.tk : Nat) (t.extract k (k + c))).tk (firstFree m.tk : Nat) := has_alloc m
      have hnum := F.num
      have hused := F.used
      have hpeak := F.peak
      have hsz := F.sz
      have htxb := F.txb
      refine ⟨(firstFree m.tk : Int) :: new, by rw [e1, List.append_assoc]; rfl, ⟨F.ok, hsz, ?_, fun h => ?_, fun h => htxb (TxB.write h.alloc (by omega)), fun i h => ?_, fun i h => ?_, ?_, ?_, ?_⟩⟩
      · rw [hused, List.length_cons]
        show m.used + 1 + _ = _
        omega
      · rw [hpeak (by show m.used + 1 ≤ max m.peak (m.used + 1); omega), hused]
        show max (max m.peak (m.used + 1)) (m.used + 1 + _) = max m.peak (m.used + 1 + _)
        omega
      · have h1 := hk1 h
        have h2 := F.keep i h1.1
        exact ⟨h2.1, h2.2.trans h1.2⟩
      · rcases List.mem_cons.1 h with rfl | h
        · exact ⟨(F.keep _ hh1).1, not_has_free m.tk⟩
        · exact ⟨(F.has i h).1, fun h2 => (F.has i h).2 (hk1 h2).1⟩
      · exact List.nodup_cons.2 ⟨fun h => (F.has _ h).2 hh1, F.nodup⟩
      · show at_ _ _ ++ catB _ new = _
        rw [F.cat, (F.keep _ hh1).2, ha1, hcat]
      · have hmz : (m.alloc.write (firstFree m.tk : Nat) (t.extract k (k + c))).size = m.size := rfl
        rw [hmz, hes2] at hnum
        rw [hes, List.length_cons]
        have e : ((new.length + 1 : Nat) : Int) * m.size = new.length * m.size + m.size := by push_cast; rw [Int.add_mul, Int.one_mul]
        rw [e]
        have h0 : new.length ≠ 0 → m.size ≤ new.length * m.size := fun h => by
          have := Int.mul_le_mul_of_nonneg_right (a := 1) (b := (new.length : Int)) (c := m.size) (by omega) (by omega)
          rwa [Int.one_mul] at this
        by_cases hn0 : new.length = 0
        · rw [hn0] at hnum ⊢
          simp only [Int.natCast_zero, Int.zero_mul, Int.ofNat_eq_natCast] at hnum ⊢
          omega
        · have := h0 hn0
          omega
    · rw [fillN_end hlt]
      have he : t.extract k t.size = ⟨#[]⟩ := by
        apply ByteArray.ext
        apply Array.eq_empty_of_size_eq_zero
        show (t.extract k t.size).size = 0
        omega
      have hz := ok.size
      refine ⟨[], by simp, ⟨ok, ⟨rfl, rfl⟩, by simp, fun h => by dsimp only; omega, id, fun i h => ⟨h, rfl⟩, fun i h => (by cases h), List.nodup_nil, he.symm, ?_⟩⟩
      rw [hes]
      simp only [List.length_nil, Int.natCast_zero, Int.zero_mul]
      omega
theorem txtN_all {m : BS} {ids : List Int} (h : ∀ i ∈ ids, Has m.tk i) : ∀ (n : Nat), n ≤ ids.length → ∃ t, txtN m ids n = some t ∧ t ++ catB m (ids.drop n) = catB m ids
  | 0, _ => ⟨⟨#[]⟩, rfl, by rw [List.drop_zero, bnil_app]⟩
  | n + 1, hn => by
    obtain ⟨t, h1, h2⟩ := txtN_all h n (by omega)
    have hm : ids.getD n 0 ∈ ids := by rw [List.getD_eq_getElem?_getD, List.getElem?_eq_getElem (by omega)]; exact List.getElem_mem _
    refine ⟨t ++ at_ m.ts (ids.getD n 0), by rw [txtN, h1]; show (if _ then _ else _) = _; rw [if_pos (h _ hm)], ?_⟩
    rw [← h2, ByteArray.append_assoc]
    have e : ids.drop n = ids.getD n 0 :: ids.drop (n + 1) := by
      rw [List.drop_eq_getElem_cons (by omega), List.getD_eq_getElem?_getD, List.getElem?_eq_getElem (by omega)]; rfl
    rw [e]; rfl
theorem txtN_cat {m : BS} {ids : List Int} (h : ∀ i ∈ ids, Has m.tk i) : txtN m ids ids.length = some (catB m ids) := by
  obtain ⟨t, h1, h2⟩ := txtN_all h ids.length (Nat.le_refl _)
  rw [List.drop_length] at h2
  have : catB m [] = ⟨#[]⟩ := rfl
  rw [this, app_bnil] at h2
  rw [h1, h2]
theorem fill_law {t : ByteArray} {m : BS} (ok : m.Ok) (h : ¬ m.size * (m.most - m.used) < t.size) : Filled m (fillN t m [] 0).1 (fillN t m [] 0).2 t := by
  obtain ⟨new, e, F⟩ := fillN_law t (t.size - 0) m [] 0 rfl (Nat.zero_le _) ok (by omega)
  rw [List.nil_append] at e
  rw [ext_full'] at F
  rw [e]; exact F
end Go.Proofs.YtamnobjdgjbmbaaGreat
namespace Go.Proofs.YtamnobjdgjbmbaaGreat
open Go Go.Fw Go.RowKit
set_option linter.unusedVariables false
set_option linter.unusedSimpArgs false
set_option maxRecDepth 100000
set_option maxHeartbeats 16000000
set_option synthInstance.maxHeartbeats 200000
set_option synthInstance.maxSize 100000
attribute [local irreducible] WPA WLA WDA WDQ WDE QQ seqQ blockQ loopQ fnQ OpP OpT Tr TrP SL SLd OwnS LitS Bk BkE Ob
def srtI (ids : List Int) : List Int := ids.mergeSort fun x y => decide (x ≤ y)
def Right (m : BS) (ids : List Int) : Prop := (∀ i ∈ ids, Has m.tk i) ∧ ids.Nodup
theorem srt_perm (ids : List Int) : (srtI ids).Perm ids := List.mergeSort_perm _ _
theorem srt_len (ids : List Int) : (srtI ids).length = ids.length := (srt_perm ids).length_eq
def OkAt (m : BS) (l : List Int) (j : Nat) : Prop := Has m.tk (at_ l (j : Int)) ∧ (0 < j → at_ l ((j : Int) - 1) ≠ at_ l (j : Int))
theorem ok_of {m : BS} {ids : List Int} (h : Right m ids) {j : Nat} (hj : j < (srtI ids).length) : OkAt m (srtI ids) j := by
  have hs := srt_perm ids
  refine ⟨by rw [at_nat _ j hj]; exact h.1 _ (hs.mem_iff.1 (List.getElem_mem _)), fun h0 => ?_⟩
  rw [show (j : Int) - 1 = ((j - 1 : Nat) : Int) by omega, at_nat _ (j - 1) (by omega), at_nat _ j hj]
  exact List.pairwise_iff_getElem.1 (List.nodup_iff_pairwise_ne.1 (hs.nodup_iff.2 h.2)) (j - 1) j (by omega) hj (by omega)
theorem has_free {m : BS} {i j : Int} (h : Has m.tk i) (hj : 0 ≤ j) (hne : i ≠ j) : Has (m.free j).tk i ∧ at_ (m.free j).ts i = at_ m.ts i := by
  obtain ⟨a, rfl, ha⟩ := has_int h
  have hn : j.toNat ≠ a := by omega
  constructor
  · refine has_nat.2 ?_
    show (m.tk.set j.toNat false)[a]? = some true
    rw [List.getElem?_set_ne hn]; exact ha
  · show at_ (m.ts.set j.toNat ⟨#[]⟩) (a : Int) = _
    unfold at_
    rw [List.getD_eq_getElem?_getD, List.getD_eq_getElem?_getD, Int.toNat_natCast, List.getElem?_set_ne hn]
structure Freed (m m' : BS) (l : List Int) : Prop where
  ok : m'.Ok
  used : m'.used = m.used - l.length
  keep : ∀ i, Has m.tk i → i ∉ l → Has m'.tk i ∧ at_ m'.ts i = at_ m.ts i
theorem frees : ∀ (l : List Int) {m : BS}, m.Ok → l.Nodup → (∀ i ∈ l, Has m.tk i) → Freed m (l.foldl BS.free m) l
  | [], m, ok, _, _ => ⟨ok, by simp, fun i h _ => ⟨h, rfl⟩⟩
  | a :: l, m, ok, hn, hh => by
    have ha := hh a (List.mem_cons_self ..)
    have hn2 := List.nodup_cons.1 hn
    have F := frees l (m := m.free a) (ok.free ha) hn2.2 fun i hi => (has_free (hh i (List.mem_cons_of_mem _ hi)) ha.1.1 (fun e => hn2.1 (e ▸ hi))).1
    refine ⟨F.ok, ?_, fun i h1 h2 => ?_⟩
    · have := F.used
      rw [List.foldl_cons, this, List.length_cons]
      show m.used - 1 - _ = _
      omega
    · have h3 := has_free h1 ha.1.1 fun e => h2 (e ▸ List.mem_cons_self ..)
      have h4 := F.keep i h3.1 fun h => h2 (List.mem_cons_of_mem _ h)
      exact ⟨h4.1, h4.2.trans h3.2⟩
end Go.Proofs.YtamnobjdgjbmbaaGreat
namespace Go.Proofs.YtamnobjdgjbmbaaGreat
open Go Go.Fw Go.RowKit
set_option linter.unusedVariables false
set_option linter.unusedSimpArgs false
set_option maxRecDepth 100000
set_option maxHeartbeats 16000000
set_option synthInstance.maxHeartbeats 200000
set_option synthInstance.maxSize 100000
attribute [local irreducible] WPA WLA WDA WDQ WDE QQ seqQ blockQ loopQ fnQ OpP OpT Tr TrP SL SLd OwnS LitS Bk BkE Ob
theorem addN_assoc (a b c : Int) : addN (addN a b) c = addN a (addN b c) := by
  rw [addN_comm a (addN b c), addN_rot b c a, addN_comm b a]
theorem put_two {a : List Ct} {y x : Ct} (h : Ris id a) (e : y.1 = x.1) : putM a (y.1, addN y.2 x.2) = putM (putM a y) x := by
  refine lk_ext (putL_ris h) (putL_ris (putL_ris h)) fun g => ?_
  rw [lk_put h, lk_put (putL_ris h), lk_put h]
  dsimp only
  rw [← e]
  by_cases hg : y.1 = g
  · rw [if_pos hg, if_pos hg, if_pos hg]
    cases lk g a with
    | none => rfl
    | some n => show some (addN n (addN y.2 x.2)) = some (addN (addN n y.2) x.2); rw [addN_assoc]
  · rw [if_neg hg, if_neg hg, if_neg hg]
theorem fold_put {x : Ct} : ∀ {l a : List Ct}, Ris id a → (putM l x).foldl putM a = putM (l.foldl putM a) x
  | [], a, h => rfl
  | y :: l, a, h => by
    show (putL id (y :: l) x).foldl putM a = _
    rw [putL]
    split
    · have := foldl_perm (l := x :: y :: l) (m := (y :: l) ++ [x]) (List.perm_append_singleton x (y :: l)).symm h
      rw [this, List.foldl_append]; rfl
    · split
      · rename_i hz
        have e : y.1 = x.1 := cmp_zero.1 hz
        rw [List.foldl_cons, List.foldl_cons, put_two h e]
        have := foldl_perm (l := x :: l) (m := l ++ [x]) (List.perm_append_singleton x l).symm (putL_ris (x := y) h)
        rw [List.foldl_cons, List.foldl_append] at this
        exact this
      · rw [List.foldl_cons, List.foldl_cons]; exact fold_put (putL_ris h)
theorem fold_fold {a : List Ct} (h : Ris id a) : ∀ (xs b : List Ct), Ris id b → (xs.foldl putM b).foldl putM a = xs.foldl putM (b.foldl putM a)
  | [], b, _ => rfl
  | x :: xs, b, hb => by rw [List.foldl_cons, fold_fold h xs (putM b x) (putL_ris hb), fold_put h]; rfl
def mrg (l : List Ct) : List Ct := l.foldl putM []
theorem mrg_ris (l : List Ct) : Ris id (mrg l) := fold_ris List.Pairwise.nil
theorem mrg_mid (a b c : List Ct) : mrg (a ++ (mrg b ++ c)) = mrg (a ++ (b ++ c)) := by
  unfold mrg
  rw [List.foldl_append, List.foldl_append, List.foldl_append, List.foldl_append, fold_fold (fold_ris List.Pairwise.nil) b [] List.Pairwise.nil]; rfl
theorem put_end {x : Ct} : ∀ {a : List Ct}, (∀ y ∈ a, ltL y.1 x.1) → putM a x = a ++ [x]
  | [], _ => rfl
  | y :: a, h => by
    have hy : cmpL y.1 x.1 < 0 := h y (List.mem_cons_self ..)
    show putL id (y :: a) x = _
    rw [putL, if_neg (by show ¬ 0 < cmpL y.1 x.1; omega), if_neg (by show ¬ cmpL y.1 x.1 = 0; omega)]
    have := put_end fun z hz => h z (List.mem_cons_of_mem _ hz)
    unfold putM at this
    rw [this]; rfl
theorem mrg_from : ∀ (l a : List Ct), Ris id (a ++ l) → l.foldl putM a = a ++ l
  | [], a, _ => (List.append_nil a).symm
  | x :: l, a, h => by
    have h1 := List.pairwise_append.1 h
    rw [List.foldl_cons, put_end fun y hy => h1.2.2 y hy x (List.mem_cons_self ..), mrg_from l (a ++ [x]) (by rw [List.append_assoc]; exact h), List.append_assoc]; rfl
theorem mrg_self {l : List Ct} (h : Ris id l) : mrg l = l := mrg_from l [] h
theorem mrg_len_from : ∀ (l a : List Ct), (l.foldl putM a).length ≤ a.length + l.length
  | [], a => Nat.le_refl _
  | x :: l, a => by
    rw [List.foldl_cons, List.length_cons]
    have h1 := mrg_len_from l (putM a x)
    have h2 : (putM a x).length ≤ a.length + 1 := putL_len a
    omega
theorem mrg_len (l : List Ct) : (mrg l).length ≤ l.length := by have := mrg_len_from l []; unfold mrg; simpa using this
theorem mrg_mem {l : List Ct} : ∀ {a : List Ct} {z : Ct}, z ∈ l.foldl putM a → (∃ y ∈ a, z.1 = y.1) ∨ ∃ y ∈ l, z.1 = y.1 := by
  induction l with
  | nil => intro a z hz; exact .inl ⟨z, hz, rfl⟩
  | cons x l ih =>
    intro a z hz
    rw [List.foldl_cons] at hz
    rcases ih hz with ⟨y, hy, e⟩ | ⟨y, hy, e⟩
    · rcases putL_fst y hy with e2 | ⟨u, hu, e2⟩
      · exact .inr ⟨x, List.mem_cons_self .., e.trans e2⟩
      · exact .inl ⟨u, hu, e.trans e2⟩
    · exact .inr ⟨y, List.mem_cons_of_mem _ hy, e⟩
theorem mrg_key {l : List Ct} {z : Ct} (h : z ∈ mrg l) : ∃ y ∈ l, z.1 = y.1 := by
  rcases mrg_mem h with ⟨y, hy, _⟩ | h
  · cases hy
  · exact h
theorem free_comm (m : BS) (a b : Int) : (m.free a).free b = (m.free b).free a := by
  have hs : ∀ {α : Type} (l : List α) (i j : Nat) (x : α), (l.set i x).set j x = (l.set j x).set i x := fun l i j x => by
    by_cases e : i = j
    · subst e; rfl
    · exact List.set_comm x x e
  unfold BS.free
  dsimp only
  rw [hs m.tk, hs m.ts]
  congr 1
  omega
theorem frees_perm {l l' : List Int} (h : l.Perm l') : ∀ m : BS, l.foldl BS.free m = l'.foldl BS.free m := by
  induction h with
  | nil => intro m; rfl
  | cons x _ ih => intro m; exact ih _
  | swap x y l => intro m; rw [List.foldl_cons, List.foldl_cons, List.foldl_cons, List.foldl_cons, free_comm]
  | trans _ _ h1 h2 => intro m; rw [h1, h2]
theorem frees_srt (ids : List Int) (m : BS) : (srtI ids).foldl BS.free m = ids.foldl BS.free m := frees_perm (srt_perm ids) m
theorem TxB.free {m : BS} {i : Int} (h : TxB m) : TxB (m.free i) := fun t ht => by
  have ht : t ∈ m.ts.set i.toNat ⟨#[]⟩ := ht
  rcases List.mem_or_eq_of_mem_set ht with h1 | rfl
  · exact h t h1
  · decide
theorem TxB.frees : ∀ (l : List Int) {m : BS}, TxB m → TxB (l.foldl BS.free m)
  | [], m, h => h
  | a :: l, m, h => TxB.frees l h.free
theorem frees_nums : ∀ (l : List Int) (m : BS), (l.foldl BS.free m).size = m.size ∧ (l.foldl BS.free m).most = m.most ∧ (l.foldl BS.free m).peak = m.peak
  | [], m => ⟨rfl, rfl, rfl⟩
  | a :: l, m => frees_nums l (m.free a)
theorem catB_cg {m m' : BS} : ∀ {l : List Int}, (∀ i ∈ l, at_ m'.ts i = at_ m.ts i) → catB m' l = catB m l
  | [], _ => rfl
  | a :: l, h => by
    show at_ m'.ts a ++ catB m' l = at_ m.ts a ++ catB m l
    rw [h a (List.mem_cons_self ..), catB_cg fun i hi => h i (List.mem_cons_of_mem _ hi)]
abbrev PR := List Int × List Ct
abbrev idsF (l : List PR) : List Int := l.flatMap Prod.fst
abbrev ctsF (l : List PR) : List Ct := l.flatMap Prod.snd
def grp (o : Int) (m : BS) (g : List PR) : BS × PR × Int :=
  if g.length = 1 then (m, g.getD 0 ([], []), 0)
  else if errW o (mrg (ctsF g)) m ≠ 0 then (m, ([], []), errW o (mrg (ctsF g)) m)
  else ((idsF g).foldl BS.free (fillN (byS (mrg (ctsF g))) m [] 0).1, ((fillN (byS (mrg (ctsF g))) m [] 0).2, mrg (ctsF g)), 0)
theorem grp_one {o : Int} {m : BS} {g : List PR} (h : g.length = 1) : grp o m g = (m, g.getD 0 ([], []), 0) := if_pos h
theorem grp_err {o : Int} {m : BS} {g : List PR} (h : g.length ≠ 1) (he : errW o (mrg (ctsF g)) m ≠ 0) : grp o m g = (m, ([], []), errW o (mrg (ctsF g)) m) := by rw [grp, if_neg h, if_pos he]
theorem grp_go {o : Int} {m : BS} {g : List PR} (h : g.length ≠ 1) (he : errW o (mrg (ctsF g)) m = 0) : grp o m g = ((idsF g).foldl BS.free (fillN (byS (mrg (ctsF g))) m [] 0).1, ((fillN (byS (mrg (ctsF g))) m [] 0).2, mrg (ctsF g)), 0) := by rw [grp, if_neg h, if_neg (fun k => k he)]
def pass (o : Int) (f : Nat) (m : BS) (acc l : List PR) : BS × List PR × Int :=
  if h : l ≠ [] ∧ 0 < f then
    if (grp o m (l.take f)).2.2 ≠ 0 then ((grp o m (l.take f)).1, [], (grp o m (l.take f)).2.2)
    else pass o f (grp o m (l.take f)).1 (acc ++ [(grp o m (l.take f)).2.1]) (l.drop f)
  else (m, acc, 0)
termination_by l.length
decreasing_by
  have := List.length_pos_iff.2 h.1
  rw [List.length_drop]; omega
section
variable {o : Int} {f : Nat} {m : BS} {acc l : List PR}
theorem pass_nil : pass o f m acc [] = (m, acc, 0) := by rw [pass, dif_neg (fun h => h.1 rfl)]
theorem pass_err (hl : l ≠ []) (hf : 0 < f) (he : (grp o m (l.take f)).2.2 ≠ 0) : pass o f m acc l = ((grp o m (l.take f)).1, [], (grp o m (l.take f)).2.2) := by rw [pass, dif_pos ⟨hl, hf⟩, if_pos he]
theorem pass_go (hl : l ≠ []) (hf : 0 < f) (he : (grp o m (l.take f)).2.2 = 0) : pass o f m acc l = pass o f (grp o m (l.take f)).1 (acc ++ [(grp o m (l.take f)).2.1]) (l.drop f) := by rw [pass, dif_pos ⟨hl, hf⟩, if_neg (fun k => k he)]
end
theorem pass_len {o : Int} {f : Nat} (hf : 1 < f) : ∀ (n : Nat) (l : List PR), l.length = n → ∀ (m : BS) (acc : List PR), (pass o f m acc l).2.1.length ≤ acc.length + (n + 1) / 2 := by
  intro n
  induction n using Nat.strongRecOn with
  | _ n ih =>
    intro l hl m acc
    by_cases h0 : l = []
    · subst h0; rw [pass_nil]; simp
    · have hp := List.length_pos_iff.2 h0
      by_cases he : (grp o m (l.take f)).2.2 = 0
      · rw [pass_go h0 (by omega) he]
        have hd : (l.drop f).length = n - f := by rw [List.length_drop, hl]
        have := ih (n - f) (by omega) _ hd (grp o m (l.take f)).1 (acc ++ [(grp o m (l.take f)).2.1])
        rw [List.length_append, List.length_singleton] at this
        omega
      · rw [pass_err h0 (by omega) he]; simp
def runsF (o : Int) (f : Nat) (m : BS) (l : List PR) (p : Nat) : BS × List PR × Nat × Int :=
  if h : 1 < l.length ∧ 1 < f then
    if (pass o f m [] l).2.2 ≠ 0 then ((pass o f m [] l).1, [], 0, (pass o f m [] l).2.2)
    else runsF o f (pass o f m [] l).1 (pass o f m [] l).2.1 (p + 1)
  else (m, l, p, 0)
termination_by l.length
decreasing_by
  have := pass_len (o := o) h.2 l.length l rfl m []
  simp only [List.length_nil] at this
  omega
section
variable {o : Int} {f : Nat} {m : BS} {l : List PR} {p : Nat}
theorem runs_end (h : ¬ 1 < l.length) : runsF o f m l p = (m, l, p, 0) := by rw [runsF, dif_neg (fun k => h k.1)]
theorem runs_err (h : 1 < l.length) (hf : 1 < f) (he : (pass o f m [] l).2.2 ≠ 0) : runsF o f m l p = ((pass o f m [] l).1, [], 0, (pass o f m [] l).2.2) := by rw [runsF, dif_pos ⟨h, hf⟩, if_pos he]
theorem runs_go (h : 1 < l.length) (hf : 1 < f) (he : (pass o f m [] l).2.2 = 0) : runsF o f m l p = runsF o f (pass o f m [] l).1 (pass o f m [] l).2.1 (p + 1) := by rw [runsF, dif_pos ⟨h, hf⟩, if_neg (fun k => k he)]
end
structure RInv (o : Int) (m : BS) (l : List PR) : Prop where
  ok : m.Ok
  txb : TxB m
  used : m.used = ((idsF l).length : Nat)
  has : ∀ i ∈ idsF l, Has m.tk i
  nodup : (idsF l).Nodup
  cat : ∀ r ∈ l, catB m r.1 = byS r.2
  wr : ∀ r ∈ l, wrong o r.2 = 0
  ris : ∀ r ∈ l, Ris id r.2
  len : (ctsF l).length ≤ 300
  idl : ∀ r ∈ l, r.1.length ≤ 1000000
section
variable {o : Int} {m : BS}
theorem RInv.text {l : List PR} (h : RInv o m l) {r : PR} (hr : r ∈ l) : txtN m r.1 r.1.length = some (byS r.2) := by
  rw [txtN_cat fun i hi => h.has i (List.mem_flatMap.2 ⟨r, hr, hi⟩), h.cat r hr]
theorem mem_len {l : List PR} {r : PR} (hr : r ∈ l) : r.2.length ≤ (ctsF l).length := by
  induction l with
  | nil => cases hr
  | cons a l ih =>
    have e : (ctsF (a :: l)).length = a.2.length + (ctsF l).length := by rw [ctsF, List.flatMap_cons, List.length_append]
    rw [e]
    rcases List.mem_cons.1 hr with rfl | h
    · omega
    · have := ih h; omega
theorem RInv.le {l : List PR} (h : RInv o m l) {r : PR} (hr : r ∈ l) : r.2.length ≤ 300 := Nat.le_trans (mem_len hr) h.len
theorem RInv.back {l : List PR} (h : RInv o m l) {r : PR} (hr : r ∈ l) : readS o r.2.length (byS r.2) = some r.2 := readS_back (h.wr r hr)
theorem errW_zero {M : List Ct} (h : errW o M m = 0) : wrong o M = 0 ∧ ¬ m.size * (m.most - m.used) < (byS M).size := by
  unfold errW at h
  by_cases h1 : wrong o M = 0
  · rw [if_neg (fun k => k h1)] at h
    refine ⟨h1, fun k => ?_⟩
    rw [if_pos k] at h; cases h
  · rw [if_pos h1] at h; exact absurd h h1
theorem byS_300 {M : List Ct} (h : wrong o M = 0) (hl : M.length ≤ 300) : (byS M).size ≤ 903000 := by
  have hg := wrong_good h
  have ho := (wrong_zero h).1
  have := byS_len (o := 0) (ms := M) M.length rfl fun x hx => by have := hg x hx; omega
  omega
theorem put_law {a g b : List PR} {M : List Ct} (h : RInv o m (a ++ (g ++ b))) (hw : wrong o M = 0) (hM : Ris id M) (hl : (ctsF a).length + (M.length + (ctsF b).length) ≤ 300) (hr : ¬ m.size * (m.most - m.used) < (byS M).size) :
    RInv o ((idsF g).foldl BS.free (fillN (byS M) m [] 0).1) (a ++ ([((fillN (byS M) m [] 0).2, M)] ++ b)) := by
  have F := fill_law h.ok hr
  have hn := h.nodup
  have hh := h.has
  have hu := h.used
  have hle := h.len
  have hby := byS_300 hw (by omega)
  have hz := h.ok.size
  generalize (fillN (byS M) m [] 0).1 = m1 at F ⊢
  generalize (fillN (byS M) m [] 0).2 = new at F ⊢
  rw [idsF, List.flatMap_append, List.flatMap_append] at hn hh hu
  have hn1 := List.nodup_append.1 hn
  have hn2 := List.nodup_append.1 hn1.2.1
  have hA : ∀ i ∈ a.flatMap Prod.fst, Has m.tk i := fun i hi => hh i (List.mem_append_left _ hi)
  have hG : ∀ i ∈ g.flatMap Prod.fst, Has m.tk i := fun i hi => hh i (List.mem_append_right _ (List.mem_append_left _ hi))
  have hB : ∀ i ∈ b.flatMap Prod.fst, Has m.tk i := fun i hi => hh i (List.mem_append_right _ (List.mem_append_right _ hi))
  have D := frees (idsF g) F.ok hn2.1 fun i hi => (F.keep i (hG i hi)).1
  have kA : ∀ i ∈ a.flatMap Prod.fst, Has ((idsF g).foldl BS.free m1).tk i ∧ at_ ((idsF g).foldl BS.free m1).ts i = at_ m.ts i := fun i hi => by
    have h1 := F.keep i (hA i hi)
    have h2 := D.keep i h1.1 fun hg => hn1.2.2 i hi i (List.mem_append_left _ hg) rfl
    exact ⟨h2.1, h2.2.trans h1.2⟩
  have kB : ∀ i ∈ b.flatMap Prod.fst, Has ((idsF g).foldl BS.free m1).tk i ∧ at_ ((idsF g).foldl BS.free m1).ts i = at_ m.ts i := fun i hi => by
    have h1 := F.keep i (hB i hi)
    have h2 := D.keep i h1.1 fun hg => hn2.2.2 i hg i hi rfl
    exact ⟨h2.1, h2.2.trans h1.2⟩
  have kN : ∀ i ∈ new, Has ((idsF g).foldl BS.free m1).tk i ∧ at_ ((idsF g).foldl BS.free m1).ts i = at_ m1.ts i := fun i hi => D.keep i (F.has i hi).1 fun hg => (F.has i hi).2 (hG i hg)
  have hnum := F.num
  refine ⟨D.ok, TxB.frees _ (F.txb h.txb), ?_, ?_, ?_, ?_, ?_, ?_, ?_, ?_⟩
  · have h1 := D.used
    have h2 := F.used
    rw [List.length_append, List.length_append] at hu
    have e : (idsF (a ++ ([(new, M)] ++ b))).length = (a.flatMap Prod.fst).length + (new.length + (b.flatMap Prod.fst).length) := by rw [idsF, List.flatMap_append, List.flatMap_append, List.flatMap_singleton, List.length_append, List.length_append]
    have e2 : (idsF g).length = (g.flatMap Prod.fst).length := rfl
    rw [h1, h2, hu, e, e2]
    omega
  · intro i hi
    rw [idsF, List.flatMap_append, List.flatMap_append, List.flatMap_singleton] at hi
    rcases List.mem_append.1 hi with hi | hi
    · exact (kA i hi).1
    · rcases List.mem_append.1 hi with hi | hi
      · exact (kN i hi).1
      · exact (kB i hi).1
  · rw [idsF, List.flatMap_append, List.flatMap_append, List.flatMap_singleton]
    refine List.nodup_append.2 ⟨hn1.1, List.nodup_append.2 ⟨F.nodup, hn2.2.1, fun x hx y hy e => ?_⟩, fun x hx y hy e => ?_⟩
    · subst e; exact (F.has x hx).2 (hB x hy)
    · subst e
      rcases List.mem_append.1 hy with hy | hy
      · exact (F.has x hy).2 (hA x hx)
      · exact hn1.2.2 x hx x (List.mem_append_right _ hy) rfl
  · intro r hr
    rcases List.mem_append.1 hr with hr | hr
    · rw [catB_cg fun i hi => (kA i (List.mem_flatMap.2 ⟨r, hr, hi⟩)).2]
      exact h.cat r (List.mem_append_left _ hr)
    · rcases List.mem_append.1 hr with hr | hr
      · rw [List.mem_singleton.1 hr]
        show catB _ new = byS M
        rw [catB_cg fun i hi => (kN i hi).2]
        exact F.cat
      · rw [catB_cg fun i hi => (kB i (List.mem_flatMap.2 ⟨r, hr, hi⟩)).2]
        exact h.cat r (List.mem_append_right _ (List.mem_append_right _ hr))
  · intro r hr
    rcases List.mem_append.1 hr with hr | hr
    · exact h.wr r (List.mem_append_left _ hr)
    · rcases List.mem_append.1 hr with hr | hr
      · rw [List.mem_singleton.1 hr]; exact hw
      · exact h.wr r (List.mem_append_right _ (List.mem_append_right _ hr))
  · intro r hr
    rcases List.mem_append.1 hr with hr | hr
    · exact h.ris r (List.mem_append_left _ hr)
    · rcases List.mem_append.1 hr with hr | hr
      · rw [List.mem_singleton.1 hr]; exact hM
      · exact h.ris r (List.mem_append_right _ (List.mem_append_right _ hr))
  · rw [ctsF, List.flatMap_append, List.flatMap_append, List.length_append, List.length_append, List.flatMap_singleton]
    exact hl
  · intro r hr
    rcases List.mem_append.1 hr with hr | hr
    · exact h.idl r (List.mem_append_left _ hr)
    · rcases List.mem_append.1 hr with hr | hr
      · rw [List.mem_singleton.1 hr]
        show new.length ≤ 1000000
        have h1 := hnum.1
        have h2 : (new.length : Int) ≤ (byS M).size := by
          by_cases h0 : (new.length : Int) ≤ (byS M).size
          · exact h0
          · have h3 : ((byS M).size + 1 : Int) * m.size ≤ new.length * m.size := Int.mul_le_mul_of_nonneg_right (by omega) (by omega)
            rw [Int.add_mul, Int.one_mul] at h3
            have h4 : ((byS M).size : Int) * 1 ≤ (byS M).size * m.size := Int.mul_le_mul_of_nonneg_left hz.1 (by omega)
            omega
        omega
      · exact h.idl r (List.mem_append_right _ (List.mem_append_right _ hr))
theorem grp_law {a g b : List PR} (h : RInv o m (a ++ (g ++ b))) (hz : (grp o m g).2.2 = 0) :
    RInv o (grp o m g).1 (a ++ ([(grp o m g).2.1] ++ b)) ∧ mrg (ctsF (a ++ ([(grp o m g).2.1] ++ b))) = mrg (ctsF (a ++ (g ++ b))) := by
  by_cases h1 : g.length = 1
  · rw [grp_one h1]
    obtain ⟨r, rfl⟩ := List.length_eq_one_iff.1 h1
    exact ⟨h, rfl⟩
  · by_cases he : errW o (mrg (ctsF g)) m = 0
    · rw [grp_go h1 he]
      obtain ⟨hw, hr⟩ := errW_zero he
      have hml := mrg_len (ctsF g)
      have hle := h.len
      rw [ctsF, List.flatMap_append, List.flatMap_append, List.length_append, List.length_append] at hle
      have e : (ctsF g).length = (g.flatMap Prod.snd).length := rfl
      refine ⟨put_law h hw (mrg_ris _) (by show (a.flatMap Prod.snd).length + (_ + (b.flatMap Prod.snd).length) ≤ 300; omega) hr, ?_⟩
      show mrg ((a ++ ([(_, mrg (ctsF g))] ++ b)).flatMap Prod.snd) = mrg ((a ++ (g ++ b)).flatMap Prod.snd)
      rw [List.flatMap_append, List.flatMap_append, List.flatMap_append, List.flatMap_append, List.flatMap_singleton]
      exact mrg_mid _ _ _
    · rw [grp_err h1 he] at hz; exact absurd hz he
end
theorem pass_law {o : Int} {f : Nat} (hf : 1 < f) : ∀ (n : Nat) (l : List PR), l.length = n → ∀ (m : BS) (acc : List PR), RInv o m (acc ++ l) → (pass o f m acc l).2.2 = 0 →
    RInv o (pass o f m acc l).1 (pass o f m acc l).2.1 ∧ mrg (ctsF (pass o f m acc l).2.1) = mrg (ctsF (acc ++ l)) := by
  intro n
  induction n using Nat.strongRecOn with
  | _ n ih =>
    intro l hl m acc h hz
    by_cases h0 : l = []
    · subst h0; rw [pass_nil]; rw [List.append_nil] at h ⊢; exact ⟨h, rfl⟩
    · have hp := List.length_pos_iff.2 h0
      by_cases he : (grp o m (l.take f)).2.2 = 0
      · rw [pass_go h0 (by omega) he] at hz ⊢
        have h' : RInv o m (acc ++ (l.take f ++ l.drop f)) := by rw [List.take_append_drop]; exact h
        obtain ⟨k1, k2⟩ := grp_law h' he
        rw [List.take_append_drop] at k2
        rw [← List.append_assoc] at k1 k2
        obtain ⟨j1, j2⟩ := ih _ (by rw [List.length_drop]; omega) (l.drop f) rfl _ _ k1 hz
        exact ⟨j1, j2.trans k2⟩
      · rw [pass_err h0 (by omega) he] at hz; exact absurd hz he
theorem runs_law {o : Int} {f : Nat} (hf : 1 < f) : ∀ (n : Nat) (l : List PR), l.length = n → ∀ (m : BS) (p : Nat), RInv o m l → (runsF o f m l p).2.2.2 = 0 →
    RInv o (runsF o f m l p).1 (runsF o f m l p).2.1 ∧ mrg (ctsF (runsF o f m l p).2.1) = mrg (ctsF l) ∧ (runsF o f m l p).2.1.length ≤ 1 := by
  intro n
  induction n using Nat.strongRecOn with
  | _ n ih =>
    intro l hl m p h hz
    by_cases h1 : 1 < l.length
    · have hle := pass_len (o := o) hf l.length l rfl m []
      simp only [List.length_nil] at hle
      by_cases he : (pass o f m [] l).2.2 = 0
      · rw [runs_go h1 hf he] at hz ⊢
        obtain ⟨k1, k2⟩ := pass_law hf l.length l rfl m [] h he
        obtain ⟨j1, j2, j3⟩ := ih _ (by omega) _ rfl _ _ k1 hz
        exact ⟨j1, j2.trans k2, j3⟩
      · rw [runs_err h1 hf he] at hz; exact absurd hz he
    · rw [runs_end h1]; exact ⟨h, rfl, by show l.length ≤ 1; omega⟩
end Go.Proofs.YtamnobjdgjbmbaaGreat
namespace Go.Proofs.YtamnobjdgjbmbaaGreat
open Go Go.Fw Go.RowKit
set_option linter.unusedVariables false
set_option linter.unusedSimpArgs false
set_option maxRecDepth 100000
set_option maxHeartbeats 16000000
set_option synthInstance.maxHeartbeats 200000
set_option synthInstance.maxSize 100000
attribute [local irreducible] WPA WLA WDA WDQ WDE QQ seqQ blockQ loopQ fnQ OpP OpT Tr TrP SL SLd OwnS LitS Bk BkE Ob
attribute [local irreducible] vS keyS parL RowH CtsH
theorem CtsH.frozen {x : SV} {ms : List Ct} {R : Foot} (h : CtsH x ms R) : ∃ qs : List Pe, SlI R x Pe inferInstance qs ∧ qs.map Prod.snd = ms.map Prod.snd ∧ ∀ i : Nat, i < qs.length → SlI R (at_ qs (i : Int)).1 Int inferInstance (ms.getD i ([], 0)).1 := by
  unfold CtsH at h
  obtain ⟨qs, hq, R1, R2, h1, h2, rfl⟩ := h
  have hql : qs.length = ms.length := by have := congrArg List.length hq; simpa using this
  have s1 : SubI (R1 ++ R2) R1 := ⟨fun x hx => List.mem_append_left _ hx⟩
  have s2 : SubI (R1 ++ R2) R2 := ⟨fun x hx => List.mem_append_right _ hx⟩
  refine ⟨qs, (SlI.ofOwn h1).sub, hq, fun i hi => ?_⟩
  have h3 := RowH.frozen h2 i (by rw [List.length_map]; exact hi) (by rw [List.length_map]; omega)
  have e1 : (qs.map Prod.fst).getD i SV.nil = (at_ qs (i : Int)).1 := by rw [List.getD_eq_getElem?_getD, List.getElem?_map, List.getElem?_eq_getElem hi, at_nat qs i hi]; rfl
  have e2 : (ms.map Prod.fst).getD i [] = (ms.getD i ([], 0)).1 := by rw [List.getD_eq_getElem?_getD, List.getD_eq_getElem?_getD, List.getElem?_map, List.getElem?_eq_getElem (by omega)]; rfl
  rw [e1, e2] at h3
  exact h3.sub
end Go.Proofs.YtamnobjdgjbmbaaGreat
namespace Go.Fw
open Go Go.RowKit
set_option linter.unusedVariables false
def MarksH (_ : Unit) : List Nat → HP
  | [] => fun R => R = []
  | D :: ds => star (Ob D (.deferred (some []))) (MarksH () ds)
theorem MarksH.out : ∀ {ds : List Nat} {L : List HP}, Ent (MarksH () ds :: L) (ds.map (fun D => Ob D (.deferred (some []))) ++ L)
  | [], L => Ent.drop1
  | D :: ds, L => Ent.unstar.trans (Ent.cons MarksH.out)
theorem MarksH.cons {D : Nat} {ds : List Nat} {L : List HP} : Ent (Ob D (.deferred (some [])) :: MarksH () ds :: L) (MarksH () (D :: ds) :: L) := Ent.star Ent.refl
theorem MarksH.nil {L : List HP} : Ent L (MarksH () [] :: L) := Ent.intro1 rfl
section
variable {ro : Option Nat} {P : Program} {n : Nat} {Q : Hnd} {ρ : Env} {A : World → Prop}
theorem WPA.loopD {σ : Type} {c : Code} (mks : σ → List Nat) (slots : σ → List (Nat × Value)) (C : σ → Prop) (B : σ → World → Prop) (m : σ → Nat) (x : σ) (hs : Has ρ (slots x)) (hC : C x) (hB : ∀ w, A w → B x w)
    (round : ∀ x ρ, C x → WPA ro P n c (loopQ (fun x ρ => Has ρ (slots x) ∧ C x ∧ ρ.ms = mks x) B m x Q) (envM (mks x) (envL (slots x) ρ)) (B x)) (hmk : ρ.ms = mks x) : WPA ro P n (.loop c) Q ρ A :=
  WPA.loop (fun x ρ => Has ρ (slots x) ∧ C x ∧ ρ.ms = mks x) B m x ⟨hs, hC, hmk⟩ hB fun x ρ ⟨hs, hC, hmk⟩ => by
    have := round x ρ hC
    rw [envL_has hs] at this
    rw [← hmk] at this
    exact this
theorem QQ.loopD {σ : Type} {mks : σ → List Nat} {slots : σ → List (Nat × Value)} {C : σ → Prop} {B : σ → World → Prop} {m : σ → Nat} {x : σ} (x' : σ) (hs : Has ρ (slots x')) (hC : C x') (hm : m x' < m x) (hB : ∀ w, A w → B x' w) (hmk : ρ.ms = mks x') :
    QQ (loopQ (fun x ρ => Has ρ (slots x) ∧ C x ∧ ρ.ms = mks x) B m x Q) .normal ρ A := QQ.loop_normal x' hm ⟨hs, hC, hmk⟩ hB
end
section
variable {P : Program} {w0 : World} {I : Foot} {L : List HP} {A : World → Prop}
theorem WPA.rangeJ {N : Nat} {g : Operand} {ps : Array Tmp} {as_ bd : Code} {Q : Hnd} {ρ : Env} {gf : FuncId} {caps : List Value} [hA : InSL A w0 I L] [hg : Ev ρ g (.func (.func gf) #[] caps.toArray)] [hf : Callb P gf]
    (h : ∀ (D : Nat) (rc : LoopState → Option Code → Obj), IsRec rc N ρ ps as_ bd D →
      ∃ (τ : Type) (val : τ → Value) (st : τ → LoopState) (jump : τ → Option Code) (J : τ → Foot) (L' : τ → List HP),
        Tr P gf (List.toArray (.func (.yield (D + 1)) #[] #[] :: caps)) (SL w0 I (Ob (D + 1) (rc .ready none) :: Ob D (.deferred (some [])) :: L)) val
          (fun x => SL w0 (J x) (Ob (D + 1) (rc (st x) (jump x)) :: L' x)) ∧
        ∀ x, st x ≠ .busy ∧ jumpQ Q ⟨ρ.f, D :: ρ.ms⟩ (SL w0 (J x) (L' x)) (jump x)) :
    WPA none P N (.rangeFunc g ps as_ bd) Q ρ A := by
  intro m a w ha hw
  replace hw := hA.out w hw
  refine wpIn_rangeFunc fun fn _ => ?_
  obtain ⟨τ, val, st, jump, J, L', hT, hk⟩ := h w.heap.size _ ⟨fn, a.tmps, ha.sz, ha.get, rfl⟩
  have hw1 := (hw.push (.deferred (some [])) (Ob w.heap.size (.deferred (some []))) rfl).push (.loop ⟨.ready, none, fn, a.tmps, ps, as_, bd, w.heap.size⟩) (Ob (w.heap.size + 1) (.loop ⟨.ready, none, fn, a.tmps, ps, as_, bd, w.heap.size⟩)) (by simp [Ob])
  have hen := run_enterLoop_outer (P := P) (w := w) fn a.tmps ps as_ bd
  have hw1' : SL w0 I (Ob (w.heap.size + 1) (.loop ⟨.ready, none, fn, a.tmps, ps, as_, bd, w.heap.size⟩) :: Ob w.heap.size (.deferred (some [])) :: L) ((w.alloc (.deferred (some []))).alloc (.loop ⟨.ready, none, fn, a.tmps, ps, as_, bd, w.heap.size⟩)) := hw1
  generalize (w.alloc (.deferred (some []))).alloc (.loop ⟨.ready, none, fn, a.tmps, ps, as_, bd, w.heap.size⟩) = W1 at hen hw1'
  have hg' : a.eval g = .func (.func gf) #[] caps.toArray := by rw [ha.eval]; exact hg.out
  refine ⟨w.heap.size + 1, [{ target := .collected w.heap.size, args := #[] }], W1, { target := .fn (.func gf) caps.toArray, args := #[.func (.yield (w.heap.size + 1)) #[] #[]] }, W1, gf,
    #[.func (.yield (w.heap.size + 1)) #[] #[]] ++ caps.toArray, W1, hen, ?_, fun _ _ => trivial, ?_, fun h => (by cases h), ?_⟩
  · simp only [resolve, hg']
    simp [go_sem, Deferred.ofValue]
  · simp [invoke, go_sem, run_callFunc hf.out]
  · have e : (#[.func (.yield (w.heap.size + 1)) #[] #[]] ++ caps.toArray : Array Value) = List.toArray (.func (.yield (w.heap.size + 1)) #[] #[] :: caps) := by simp
    rw [e]
    have hc : CallsIn (FR none) (m - 1) P gf _ _ _ := callsIn_wide.2 (hT _ hw1')
    refine hc.mono ?_
    rintro e w3 ⟨x, rfl, hB⟩
    obtain ⟨hst, hj⟩ := hk x
    obtain ⟨hl, hB1⟩ := hB.mark (o' := .loop { (⟨st x, jump x, fn, a.tmps, ps, as_, bd, w.heap.size⟩ : Loop) with state := .exhausted })
    refine ⟨_, _, run_endLoop hl hst, ?_⟩
    have hB2 := Ent.drop1.sl hB1
    have ha2 : Agree N ⟨ρ.f, w.heap.size :: ρ.ms⟩ { a with defers := [{ target := .collected w.heap.size, args := #[] }] ++ a.defers } := ⟨ha.sz, ha.get, by show _ :: a.defers = _; rw [ha.df]; rfl⟩
    generalize jump x = j at hj hB2 hB hl ⊢
    unfold jumpQ at hj
    split at hj
    · exact ⟨_, ha2, hj _ hB2⟩
    · exact wpIn_ret ⟨_, ha2, hj _ hB2⟩
    · exact wpIn_exit ⟨_, ha2, hj _ hB2⟩
    · exact hj.elim
end
end Go.Fw
namespace Go.Fw
open Go Go.RowKit
set_option linter.unusedVariables false
set_option linter.unusedSimpArgs false
def clipV (s : SV) : SV := ⟨s.a, s.n, s.n⟩
end Go.Fw
namespace Go.Fw
open Go Go.RowKit
set_option linter.unusedVariables false
set_option linter.unusedSimpArgs false
theorem run_bounds3 {P : Program} {n cap : Nat} {k1 k2 k3 : IntKind} {l h : Int} (h0 : 0 ≤ l) (h1 : l ≤ h) (h2 : h ≤ n) (h3 : n ≤ cap) (w : World) :
    (Instr.sliceBounds true n cap (some (.int k1 l)) (some (.int k2 h)) (some (.int k3 h))).run P w = .ok (l.toNat, h.toNat, h.toNat) w := by
  have e1 : ¬ l < 0 := by omega
  have e2 : ¬ h < 0 := by omega
  have e3 : h.toNat ≤ cap := by omega
  have e4 : l.toNat ≤ h.toNat := by omega
  have e7 : 0 ≤ h := by omega
  have e8 : h ≤ (cap : Int) := by omega
  have e9 : l ≤ (h.toNat : Int) := by omega
  simp [Instr.sliceBounds, Instr.sliceBound, asIntOf, e1, e2, e3, e4, e7, e8, e9, h0, h1, h2, go_sem]
  rw [if_pos (by omega), if_pos (by omega)]
instance slI_clipI {I : Foot} {s : SV} {α : Type} {e : Enc α} {xs : List α} [h : SlI I s α e xs] : SlI I (clipV s) α e xs := ⟨fun w hw => by
  have := h.out w hw
  exact ⟨this.len, Nat.le_refl _, this.plain, this.cells⟩⟩
section
variable {P : Program} {ρ : Env} {A : World → Prop} {ty : TypeId} {w0 : World} {I : Foot} {L : List HP}
instance {x lo hi mx : Operand} {t el : TypeId} {s : SV} {l h m : Int} {k1 k2 k3 : IntKind} {sz bytes : Nat} {z : List Value} {α : Type} {en : Enc α} {xs : List α} [hx : Ev ρ x (.slice s.a s.n s.cap)] [ht : Und P t (.slice el)] [hz : Inf P el z sz bytes] [hA : InSL A w0 I L] [hr : RdS I L s α en xs] [hl : Ev ρ lo (.int k1 l)] [hh : Ev ρ hi (.int k2 h)] [hm : Ev ρ mx (.int k3 m)] :
    OpM P ρ A (.slice t x (some lo) (some hi) (some mx)) ty (.slice (clipV (s.cut sz l h)).a (clipV (s.cut sz l h)).n (clipV (s.cut sz l h)).cap) ((0 ≤ l ∧ l < h) ∧ (h ≤ xs.length ∧ m = h)) := ⟨fun hb d pos af g w hw => by
  have hw' := hr.out w0 w (hA.out w hw)
  obtain ⟨inf, hinf, hz'⟩ := Option.map_eq_some_iff.1 hz.size
  have hn := hw'.len
  have hc := hw'.cap
  have hb' := run_bounds3 (P := P) (n := s.n) (cap := s.cap) (k1 := k1) (k2 := k2) (k3 := k3) (l := l) (h := h) hb.1.1 (by omega) (by omega) hc w
  have e : SV.cut s sz l h = ⟨if l = s.cap then s.a else s.a.map (fun a => a.add (l.toNat * sz)), (h - l).toNat, s.cap - l.toNat⟩ := by unfold SV.cut; rw [if_pos (by omega)]
  have ea : (if h.toNat - l.toNat = 0 then s.a else s.a.map (fun a => a.add (l.toNat * sz))) = (if l = s.cap then s.a else s.a.map (fun a => a.add (l.toNat * sz))) := by
    rw [if_neg (by omega), if_neg (by omega)]
  have ea2 : (if h.toNat = l.toNat then s.a else s.a.map (fun a => a.add (l.toNat * sz))) = (if l = s.cap then s.a else s.a.map (fun a => a.add (l.toNat * sz))) := by
    rw [if_neg (by omega), if_neg (by omega)]
  have en2 : h.toNat - l.toNat = (h - l).toNat := by omega
  have hs : (Go.sizeOf el).run P w = .ok sz w := by simp [Go.sizeOf, typeInfo, hinf, hz', go_sem]
  have em : evalE ρ mx = .int k3 h := by rw [hm.out, hb.2.2]
  simp only [execOp, Instr.sliceAt, Instr.slice, hx.out, Sem.run_bind, run_underlying ht.out, Result.andThen_ok, Option.map_some, hl.out, hh.out, em, hb', hs, Sem.run_pure, clipV, e, ea, ea2, en2]⟩
end
theorem cutL_take {α : Type} {xs : List α} {i f : Nat} (hi : i ≤ xs.length) : cutL xs (i : Int) ((i : Int) + ((min f (xs.length - i) : Nat) : Int)) = (xs.drop i).take f := by
  unfold cutL
  rw [if_pos (by omega), show ((i : Int) + ((min f (xs.length - i) : Nat) : Int) - (i : Int)).toNat = min f (xs.length - i) by omega, Int.toNat_natCast]
  by_cases h : f ≤ xs.length - i
  · rw [Nat.min_eq_left h]
  · rw [Nat.min_eq_right (by omega), List.take_of_length_le (by rw [List.length_drop]; omega), List.take_of_length_le (by rw [List.length_drop]; omega)]
end Go.Fw
namespace Go.Proofs.YtamnobjdgjbmbaaGreat
open Go Go.Fw Go.RowKit
set_option linter.unusedVariables false
set_option linter.unusedSimpArgs false
set_option maxRecDepth 100000
set_option maxHeartbeats 16000000
set_option synthInstance.maxHeartbeats 200000
set_option synthInstance.maxSize 100000
attribute [local irreducible] WPA WLA WDA WDQ WDE QQ seqQ blockQ loopQ fnQ OpP OpT Tr TrP SL SLd OwnS LitS Bk BkE Ob
attribute [local irreducible] RowH CtsH
theorem WPA.know {ro : Option Nat} {P : Program} {n : Nat} {Q : Hnd} {ρ : Env} {A : World → Prop} {c : Code} {φ : Prop} (h : ∀ w, A w → φ) (k : φ → WPA ro P n c Q ρ A) : WPA ro P n c Q ρ A := by
  unfold WPA at k ⊢; exact fun m a w ha hA => k (h w hA) m a w ha hA
def LstI (J : Foot) (v : SV) (ms : List Ct) : Prop := ∃ cs : List Pe, SlI J v Pe inferInstance cs ∧ cs.map Prod.snd = ms.map Prod.snd ∧ ∀ i : Nat, i < cs.length → SlI J (at_ cs (i : Int)).1 Int inferInstance (ms.getD i ([], 0)).1
theorem LstI.sub {J J' : Foot} {v : SV} {ms : List Ct} (h : LstI J v ms) (hs : SubI J' J) : LstI J' v ms := by
  obtain ⟨cs, h1, h2, h3⟩ := h
  exact ⟨cs, h1.sub, h2, fun i hi => (h3 i hi).sub⟩
theorem LstI.ofMap {J : Foot} {v : SV} {cs : List Pe} {kg : SV → List Int} (h : SlI J v Pe inferInstance cs) (hg : GrG J kg cs) : LstI J v (cs.map (ctP kg)) :=
  ⟨cs, h, by rw [List.map_map]; rfl, fun i hi => by
    rw [List.getD_eq_getElem?_getD, List.getElem?_map, List.getElem?_eq_getElem hi, at_nat cs i hi]
    exact hg _ (List.getElem_mem _)⟩
theorem LstI.ofCts {x : SV} {ms : List Ct} {R : Foot} (h : CtsH x ms R) : LstI R x ms := h.frozen
theorem LstI.len {J : Foot} {v : SV} {ms : List Ct} (h : LstI J v ms) {w0 : World} {L : List HP} {w : World} (hw : SL w0 J L w) : v.n = ms.length := by
  obtain ⟨cs, h1, h2, _⟩ := h
  have := (h1.out w fun b o hb => hw.mem b o hb).len
  have e := congrArg List.length h2
  simp only [List.length_map] at e
  omega
theorem LstI.good {J : Foot} {v : SV} {ms : List Ct} (h : LstI J v ms) {w0 : World} {L : List HP} {w : World} (hw : SL w0 J L w) :
    SlI J v Pe inferInstance (rd Pe J v) ∧ GrG J (rd Int J) (rd Pe J v) ∧ (rd Pe J v).map (ctP (rd Int J)) = ms := by
  obtain ⟨cs, k1, k2, k3⟩ := h
  have e := k1.rd.det k1 hw
  have e1 : cs.length = ms.length := by have := congrArg List.length k2; simpa using this
  rw [e]
  refine ⟨k1, fun p hp => ?_, ?_⟩
  · obtain ⟨j, hj, rfl⟩ := List.getElem_of_mem hp
    have := k3 j hj
    rw [at_nat cs j hj] at this
    exact this.rd
  · refine List.ext_getElem (by simp [e1]) fun j j1 j2 => ?_
    rw [List.length_map] at j1
    have q := k3 j j1
    rw [at_nat cs j j1, List.getD_eq_getElem?_getD, List.getElem?_eq_getElem j2, Option.getD_some] at q
    have q2 := congrArg (fun l => l[j]?) k2
    simp only [List.getElem?_map, List.getElem?_eq_getElem j1, List.getElem?_eq_getElem j2, Option.map_some] at q2
    rw [List.getElem_map]
    exact Prod.ext (q.rd.det q hw) (by injection q2)
def Rows {α : Type} [Enc α] (R : α → PR → Prop) (es : List α) (l : List PR) : Prop := es.length = l.length ∧ ∀ i : Nat, i < l.length → R (at_ es (i : Int)) (l.getD i ([], []))
section
variable {α : Type} [Enc α] {R R' : α → PR → Prop} {es : List α} {l : List PR}
theorem Rows.mono (h : Rows R es l) (k : ∀ a r, R a r → R' a r) : Rows R' es l := ⟨h.1, fun i hi => k _ _ (h.2 i hi)⟩
theorem Rows.nil : Rows R [] [] := ⟨rfl, fun i hi => absurd hi (Nat.not_lt_zero i)⟩
theorem Rows.get (h : Rows R es l) {i : Nat} (hi : i < l.length) : R (es[i]'(by have := h.1; omega)) l[i] := by
  have := h.2 i hi
  rw [at_nat es i (by have := h.1; omega), List.getD_eq_getElem?_getD, List.getElem?_eq_getElem hi] at this
  exact this
theorem Rows.of (h : es.length = l.length) (k : ∀ i (h1 : i < es.length) (h2 : i < l.length), R es[i] l[i]) : Rows R es l := ⟨h, fun i hi => by
  rw [at_nat es i (by omega), List.getD_eq_getElem?_getD, List.getElem?_eq_getElem hi]
  exact k i (by omega) hi⟩
theorem Rows.snoc {a : α} {r : PR} (h : Rows R es l) (ha : R a r) : Rows R (es ++ [a]) (l ++ [r]) := by
  have hl := h.1
  refine Rows.of (by simp [hl]) fun i h1 h2 => ?_
  rw [List.length_append, List.length_singleton] at h1 h2
  by_cases e : i < l.length
  · rw [List.getElem_append_left (by omega), List.getElem_append_left e]; exact h.get e
  · have e1 : i = l.length := by omega
    subst e1
    rw [List.getElem_append_right (by omega), List.getElem_append_right (by omega)]
    simpa using ha
theorem Rows.take (h : Rows R es l) (n : Nat) : Rows R (es.take n) (l.take n) := by
  have hl := h.1
  refine Rows.of (by simp [hl]) fun i h1 h2 => ?_
  rw [List.length_take] at h2
  rw [List.getElem_take, List.getElem_take]
  exact h.get (by omega)
theorem Rows.drop (h : Rows R es l) (n : Nat) : Rows R (es.drop n) (l.drop n) := by
  have hl := h.1
  refine Rows.of (by simp [hl]) fun i h1 h2 => ?_
  rw [List.length_drop] at h2
  rw [List.getElem_drop, List.getElem_drop]
  exact h.get (by omega)
end
abbrev RE := Int × Int × SV
abbrev RF := SV × SV
def PRunI (J : Foot) (o : Int) (e : RE) (r : PR) : Prop := (e.1 = o ∧ e.2.1 = (r.2.length : Nat)) ∧ SlI J e.2.2 Int inferInstance r.1
def RRunI (J : Foot) (e : RF) (r : PR) : Prop := SlI J e.1 Int inferInstance r.1 ∧ LstI J e.2 r.2
theorem PRunI.sub {J J' : Foot} {o : Int} {e : RE} {r : PR} (h : PRunI J o e r) (hs : SubI J' J) : PRunI J' o e r := ⟨h.1, h.2.sub⟩
theorem RRunI.sub {J J' : Foot} {e : RF} {r : PR} (h : RRunI J e r) (hs : SubI J' J) : RRunI J' e r := ⟨h.1.sub, h.2.sub hs⟩
end Go.Proofs.YtamnobjdgjbmbaaGreat
