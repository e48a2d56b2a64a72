/- Texts that RunReads_law leans on, part 13. Conditions: none. -/
import Derived.Test.YtbekjbgaenjbfaaQr12
namespace Go.Proofs.Ytbekjbgaenjbfaa
open Go Go.Fw Go.RowKit
set_option linter.unusedVariables false
set_option linter.unusedSimpArgs false
set_option maxRecDepth 100000
set_option maxHeartbeats 16000000
set_option synthInstance.maxHeartbeats 200000
set_option synthInstance.maxSize 100000
attribute [local irreducible] WPA WLA WDA WDQ WDE QQ seqQ blockQ loopQ fnQ OpP OpT Tr TrP SL SLd OwnS LitS Bk BkE Ob
attribute [local irreducible] vS keyS parL RowH
def CtsH (x : SV) (ms : List Ct) : HP := exH fun qs : List Pe => pureH (qs.map Prod.snd = ms.map Prod.snd) (star (OwnS 67 x qs) (RowH 3 (qs.map Prod.fst) (ms.map Prod.fst)))
theorem CtsH.fold {x : SV} {ms : List Ct} {qs : List Pe} {L : List HP} (h : qs.map Prod.snd = ms.map Prod.snd) : Ent (OwnS 67 x qs :: RowH 3 (qs.map Prod.fst) (ms.map Prod.fst) :: L) (CtsH x ms :: L) := Ent.ex qs (Ent.pure h (Ent.star Ent.refl))
theorem CtsH.nil {L : List HP} : Ent L (CtsH SV.nil [] :: L) := (Ent.ownNil (α := Pe) (t := 67) (RowH.nil (α := Int) (e := 3))).trans (CtsH.fold (qs := []) (ms := []) rfl)
def rdE (o : Option (List Ct)) : Int := if o.isSome then 0 else 3
section
variable {S : Nat} {m : BS} {L L' : List HP} {w0 : World} {I : Foot}
theorem runRead_tr {o n : Int} {b : SV} {ids : List Int} {T : ByteArray} {res : Option (List Ct)} [h : FindK L StoreR S m L'] (ho : (1 ≤ o ∧ o ≤ 8) ∧ 0 ≤ n) (hs : SlI I b Int inferInstance ids) (hl : m.tk.length = m.ts.length) (hb : TxB m) (hn : ids.length ≤ 1000000) (ht : txtN m ids ids.length = some T) (hr : readS o n T = res) :
    Tr Try.prog 13 #[.pointer (some ⟨S, 0, none⟩), .agg #[.int .i64 o, .int .i64 n, .slice b.a b.n b.cap]] (SL w0 I L) (fun x : SV => .tuple #[.slice x.a x.n x.cap, .int .i64 (rdE res)]) (fun x => SL w0 I (CtsH x (res.getD []) :: StoreR S m :: L')) := by
  refine Tr.at h.out ?_
  refine Tr.intro Try.func13 rfl Try.ntmps13 rfl ?_
  have hd : decide (1 ≤ o ∧ o ≤ 8) = true := decide_eq_true ho.1
  have hn0 : ¬ n < 0 := by omega
  have hbt : (!true) = false := rfl
  have hTs := txtN_size hb hl ht
  have hTb : T.size ≤ 65536000000 := by omega
  have hby : ∀ {L L' : List HP} [FindK L StoreR S m L'], Tr Try.prog 33 #[.pointer (some ⟨S, 0, none⟩), .slice b.a b.n b.cap] (SL w0 I L) (fun _ : Unit => .tuple #[.string T, .int .i64 0]) (fun _ => SL w0 I (StoreR S m :: L')) := by
    intro L L' _
    have := bytes_tr (S := S) (m := m) (L := L) (L' := L') (w0 := w0) hs hl hb hn
    rw [ht] at this
    exact this
  have hop : ∀ {L : List HP}, Tr Try.prog 34 #[.string T] (SL w0 I L) (fun R : Nat => .pointer (some ⟨R, 0, none⟩)) (fun R => SL w0 I (Bk R 121 (RdV T ((0 : Nat) : Int) 0) :: L)) := Open_tr
  have hfull := ext_full' T
  repeat' (first | ((rw [hd])) | ((rw [hbt])) | ((first | refine WLA.m rfl rfl ?_ ?_ | refine WLA.st rfl ?_ ?_ | refine WLA.x rfl rfl ?_ (fun x => ?_) | refine WLA.x0 rfl ?_ (fun x => ?_)); first | exact trivial | exact rfl | assumption | omega | (refine ⟨?_, ?_⟩ <;> omega) | (simp only [Room, List.length_set, List.length_append, List.length_cons, List.length_nil, List.length_replicate]; omega) | decide | skip) | (refine Stp.go ?_) | (guard_target =~ WLA _ _ _ _ _ (⟨_, .call ⟨.value (.func 32), _, _⟩, _, _, _, _⟩ :: _) _ _; refine WLA.cq rfl rfl (order_tr) ?_) | (guard_target =~ WLA _ _ _ _ _ (⟨_, .call ⟨.value (.func 33), _, _⟩, _, _, _, _⟩ :: _) _ _; first | (refine WLA.call rfl rfl (hby) ?_; rintro ⟨⟩) | (refine WLA.call0 rfl (hby) ?_; rintro ⟨⟩)) | (guard_target =~ WLA _ _ _ _ _ (⟨_, .call ⟨.value (.func 34), _, _⟩, _, _, _, _⟩ :: _) _ _; first | (refine WLA.call rfl rfl (hop) ?_; rintro R) | (refine WLA.call0 rfl (hop) ?_; rintro R)) | (guard_target =~ WLA _ _ _ _ _ (⟨_, .call ⟨.value (.func 35), _, _⟩, _, _, _, _⟩ :: _) _ _; first | (refine WLA.call rfl rfl (steps_tr) ?_; rintro ⟨B, O, Z⟩) | (refine WLA.call0 rfl (steps_tr) ?_; rintro ⟨B, O, Z⟩)) | (refine WPA.ifT ?_) | (refine WPA.ifF ?_) | (refine WLA.no rfl rfl ?_) | ((first | refine WPA.dec ?_ | ((fail_if_success (guard_target =~ WLA _ _ _ _ _ _ (put1 _ _ (.bool true)) _)); (fail_if_success (guard_target =~ WLA _ _ _ _ _ _ (put1 _ _ (.bool false)) _)); refine WLA.dec rfl rfl ?_) | refine WLA.pk ?_); first | refine .inl ⟨by first | assumption | omega | with_reducible rfl | (refine fun h => h ?_; first | assumption | with_reducible rfl) | (simp only [List.length_append, List.length_cons, List.length_nil, List.length_set] <;> omega) | decide, ?_⟩ | refine .inr ⟨by first | assumption | omega | with_reducible rfl | (refine fun h => h ?_; first | assumption | with_reducible rfl) | (simp only [List.length_append, List.length_cons, List.length_nil, List.length_set] <;> omega) | decide, ?_⟩) | ((first | refine WPA.ifBt ?_ ?_ | refine WPA.ifBnf ?_ ?_); assumption) | ((first | refine WPA.ifBnt ?_ ?_ | refine WPA.ifBf ?_ ?_); assumption) | ((first | refine WPA.ifs ?_ ?_ | refine WPA.ifB ?_ ?_) <;> intro hc) | ((fail_if_success (guard_target =~ WLA _ _ _ _ _ _ (put1 _ _ (.bool true)) _)); (fail_if_success (guard_target =~ WLA _ _ _ _ _ _ (put1 _ _ (.bool false)) _)); (first | refine WLA.both rfl rfl ?_ ?_ | refine WLA.bothB rfl rfl ?_ ?_) <;> intro hg))
  revert x; intro X
  dsimp only
  obtain ⟨ou, rfl⟩ : ∃ ou : Nat, o = (ou : Int) := ⟨o.toNat, by omega⟩
  obtain ⟨nu, rfl⟩ : ∃ nu : Nat, n = (nu : Int) := ⟨n.toNat, by omega⟩
  refine WPA.ent (L' := OwnS 67 SV.nil ([] : List Pe) :: RowH 3 [] ([] : List (List Int)) :: OwnS 3 SV.nil ([] : List Int) :: Bk Z 23 [.slice none 0 0] :: Bk O 3 [.int .i64 ou] :: Bk B 82 [.pointer (some ⟨R, 0, none⟩)] :: Bk R 121 (RdV T ((0 : Nat) : Int) 0) :: Bk X 25 [.int .i64 ou, .int .i64 nu, .slice b.a b.n b.cap] :: StoreR S m :: L') ?_ ?_
  · exact Ent.ownNil ((Ent.ownNil (α := Int) (t := 3) EntC.out).trans (RowH.nil (α := Int) (e := 3)))
  refine WPA.loopS (σ := QS) (fun y => [(0, .pointer (some ⟨S, 0, none⟩)), (3, .pointer (some ⟨X, 0, none⟩)), (8, .pointer (some ⟨R, 0, none⟩)), (9, .func (.func 54) #[] #[.pointer (some ⟨B, 0, none⟩), .pointer (some ⟨O, 0, none⟩), .pointer (some ⟨Z, 0, none⟩)]), (10, .slice y.x.a y.x.n y.x.cap)])
    (fun y => (y.qs.map Prod.snd = y.ms.map Prod.snd ∧ y.p ≤ T.size ∧ y.ms.length ≤ y.p ∧ y.ms.length ≤ nu) ∧ rdN ou T y.ms.length = some (y.ms, T.extract y.p T.size) ∧ fstN (wrE ou y.ms) y.ms.length = 0 ∧ (y.ms.length = 0 → y.ls = SV.nil) ∧ (0 < y.ms.length → y.l = (y.ms.getD (y.ms.length - 1) ([], 0)).1))
    (fun y => SL w0 I (Bk R 121 (RdV T (y.p : Nat) 0) :: Bk Z 23 [.slice y.ls.a y.ls.n y.ls.cap] :: Bk O 3 [.int .i64 ou] :: Bk B 82 [.pointer (some ⟨R, 0, none⟩)] :: OwnS 3 y.ls y.l :: OwnS 67 y.x y.qs :: RowH 3 (y.qs.map Prod.fst) (y.ms.map Prod.fst) :: Bk X 25 [.int .i64 ou, .int .i64 nu, .slice b.a b.n b.cap] :: StoreR S m :: L')) (fun y => nu - y.ms.length) ⟨[], [], 0, SV.nil, [], SV.nil⟩ ⟨rfl, rfl, rfl, rfl, rfl, trivial⟩ ⟨⟨rfl, Nat.zero_le _, Nat.le_refl _, Nat.zero_le _⟩, by show some (([] : List Ct), T) = some ([], T.extract 0 T.size); rw [hfull], rfl, fun _ => rfl, fun h => absurd h (Nat.lt_irrefl 0)⟩ (fun w h => (h.to : SL w0 I (Bk R 121 (RdV T ((0 : Nat) : Int) 0) :: Bk Z 23 [.slice none 0 0] :: Bk O 3 [.int .i64 ou] :: Bk B 82 [.pointer (some ⟨R, 0, none⟩)] :: OwnS 3 SV.nil ([] : List Int) :: OwnS 67 SV.nil ([] : List Pe) :: RowH 3 [] ([] : List (List Int)) :: Bk X 25 [.int .i64 ou, .int .i64 nu, .slice b.a b.n b.cap] :: StoreR S m :: L') w)) ?_
  rintro ⟨ms, qs, p, ls, l, x⟩ ρ ⟨⟨hq, hp, hip, hin⟩, hrd, hz, hl0, hl1⟩
  dsimp only at hq hp hip hin hrd hz hl0 hl1 ⊢
  have hql : qs.length = ms.length := by have := congrArg List.length hq; simpa using this
  by_cases hlt : ms.length < nu
  · have hlt' : (qs.length : Int) < nu := by omega
    refine WPA.aptrR (s := ls) (l := l) fun hap => ?_
    have hprv : ∀ y : Ct, prvG (ms ++ [y]) ms.length = if ms.length = 0 then none else some l := fun y => by
      rw [prv_snoc]
      by_cases h0 : ms.length = 0
      · rw [if_pos h0, if_pos h0]
      · rw [if_neg h0, if_neg h0, hl1 (by omega)]
    have hgood := wr_take hz
    rw [List.take_length] at hgood
    have hll : 0 < ms.length → (l.length : Int) = ou := fun h0 => by
      rw [hl1 h0]
      refine (hgood _ ?_).1
      rw [List.getD_eq_getElem?_getD, List.getElem?_eq_getElem (by omega)]; exact List.getElem_mem _
    have hpl : (ls.a = none ∧ (if ms.length = 0 then none else some l) = none) ∨ (ls.a ≠ none ∧ (if ms.length = 0 then none else some l) = some l ∧ l.length ≤ 1000000) := by
      by_cases h0 : ms.length = 0
      · exact .inl ⟨by rw [hl0 h0]; rfl, if_pos h0⟩
      · have := hll (by omega)
        exact .inr ⟨hap (by omega), if_neg h0, by omega⟩
    have hnx : rdN ou T (ms.length + 1) = (rdOne ou (T.extract p T.size)).map fun r => (ms ++ [r.1], r.2) := by rw [rdN, hrd]; rfl
    cases hone : rdOne ou (T.extract p T.size) with
    | none =>
      rw [hone] at hnx
      have hres : res = none := by
        rw [← hr]; unfold readS
        rw [Int.toNat_natCast, Int.toNat_natCast, rdN_no hnx nu hlt]; rfl
      subst hres
      repeat' (first | ((first | refine WLA.m rfl rfl ?_ ?_ | refine WLA.st rfl ?_ ?_ | refine WLA.x rfl rfl ?_ (fun x => ?_) | refine WLA.x0 rfl ?_ (fun x => ?_)); first | exact trivial | exact rfl | assumption | omega | (refine ⟨?_, ?_⟩ <;> omega) | (simp only [Room, List.length_set, List.length_append, List.length_cons, List.length_nil, List.length_replicate]; omega) | decide | skip) | (refine Stp.go ?_) | (guard_target =~ WLA _ _ _ _ _ (⟨_, .call ⟨.value (.tmp _), _, _⟩, _, _, _, _⟩ :: _) _ _; refine WLA.callV rfl rfl (stepC_none hp (by omega) (by omega) hone) ?_; rintro ⟨⟩) | (refine WPA.ifT ?_) | (refine WPA.ifF ?_) | ((first | refine WPA.dec ?_); first | refine .inl ⟨by first | assumption | omega | with_reducible rfl | (refine fun h => h ?_; first | assumption | with_reducible rfl) | (simp only [List.length_append, List.length_cons, List.length_nil, List.length_set] <;> omega) | decide, ?_⟩ | refine .inr ⟨by first | assumption | omega | with_reducible rfl | (refine fun h => h ?_; first | assumption | with_reducible rfl) | (simp only [List.length_append, List.length_cons, List.length_nil, List.length_set] <;> omega) | decide, ?_⟩) | ((first | refine WPA.ifBt ?_ ?_ | refine WPA.ifBnf ?_ ?_); assumption) | ((first | refine WPA.ifBnt ?_ ?_ | refine WPA.ifBf ?_ ?_); assumption) | ((first | refine WPA.ifs ?_ ?_ | refine WPA.ifB ?_ ?_) <;> intro hc))
      exact QQ.end_ rfl SV.nil rfl fun w h => CtsH.nil.sl (h.to : SL w0 I (StoreR S m :: L') w)
    | some xu =>
      obtain ⟨y, u'⟩ := xu
      rw [hone] at hnx
      have hnx2 : rdN ou T (ms.length + 1) = some (ms ++ [y], u') := hnx
      have hsn := wrE_snoc (o := ou) (ms := ms) (x := y) (hprv y).symm
      by_cases hc : chk1 ou (if ms.length = 0 then none else some l) y.1 y.2 = 0
      · have hcz := chk1_zero hc
        have hroom : Room (qs.length + 1) 32 := ⟨by omega, by omega⟩
        repeat' (first | ((first | refine WLA.m rfl rfl ?_ ?_ | refine WDQ.m rfl rfl ?_ ?_ | refine WLA.st rfl ?_ ?_ | refine WLA.x rfl rfl ?_ (fun x => ?_) | refine WLA.x0 rfl ?_ (fun x => ?_)); first | exact trivial | exact rfl | assumption | omega | (refine ⟨?_, ?_⟩ <;> omega) | (simp only [Room, List.length_set, List.length_append, List.length_cons, List.length_nil, List.length_replicate]; omega) | decide | skip) | (refine Stp.go ?_) | (guard_target =~ WLA _ _ _ _ _ (⟨_, .call ⟨.value (.tmp _), _, _⟩, _, _, _, _⟩ :: _) _ _; refine WLA.callV rfl rfl (stepC_tr hp (by omega) (by omega) hone hpl hc) ?_; rintro ⟨g, ⟨p', hp', hu'⟩⟩; dsimp only) | (guard_target =~ WLA _ _ _ _ _ (⟨_, .call ⟨.value (.func 36), _, _⟩, _, _, _, _⟩ :: _) _ _; first | (refine WLA.call rfl rfl (Clone_tr (xs := y.1) (by omega)) ?_; rintro c) | (refine WLA.call0 rfl (Clone_tr (xs := y.1) (by omega)) ?_; rintro c)) | (refine WPA.ifT ?_) | (refine WPA.ifF ?_) | ((first | refine WPA.dec ?_); first | refine .inl ⟨by first | assumption | omega | with_reducible rfl | (refine fun h => h ?_; first | assumption | with_reducible rfl) | (simp only [List.length_append, List.length_cons, List.length_nil, List.length_set] <;> omega) | decide, ?_⟩ | refine .inr ⟨by first | assumption | omega | with_reducible rfl | (refine fun h => h ?_; first | assumption | with_reducible rfl) | (simp only [List.length_append, List.length_cons, List.length_nil, List.length_set] <;> omega) | decide, ?_⟩) | ((first | refine WPA.ifBt ?_ ?_ | refine WPA.ifBnf ?_ ?_); assumption) | ((first | refine WPA.ifBnt ?_ ?_ | refine WPA.ifBf ?_ ?_); assumption) | ((first | refine WPA.ifs ?_ ?_ | refine WPA.ifB ?_ ?_) <;> intro hc) | (guard_target =~ WPA _ _ _ (.region 15 _ true) _ _ _; refine WPA.drawT 8 (.q 0 (.q 1 (.q 2 (.q 4 (.q 5 (.e 3 (.q 6 (.e 7 .fin)))))))) mixed ?_ ?_; kernel_rfl) | (refine WDA.finish (tl := [⟨_, _, _, _, _, _⟩, ⟨_, _, _, _, _, _⟩]) rfl ?_) | (refine WDQ.see rfl ?_) | (refine WDE.see rfl ?_) | (refine WDE.alloc rfl rfl (fun w h => h) (fun x => ?_)) | (refine WDE.stE rfl ?_) | (refine WDE.x rfl rfl ?_ ?_ (fun x => ?_); rotate_left 1; (intro x w h; first | exact h | exact Ent.drop1.sl h | exact SL.unI h | exact SL.to h); rotate_left 1; first | exact trivial | exact rfl | assumption | omega | (refine ⟨?_, ?_⟩ <;> omega) | (simp only [Room, List.length_set, List.length_append, List.length_cons, List.length_nil, List.length_replicate]; omega) | decide | skip) | (guard_target =~ WDW _ _ _ _ _ _ _ ⟨_, .call ⟨.value (.tmp _), _, _⟩, _, _, _, _⟩ _ _ _; refine WDW.callV rfl rfl (stepC_tr hp (by omega) (by omega) hone hpl hc) ?_; rintro ⟨g, ⟨p', hp', hu'⟩⟩; dsimp only) | (guard_target =~ WDE _ _ _ _ _ _ _ ⟨_, .call ⟨.value (.func 36), _, _⟩, _, _, _, _⟩ _ _ _; refine WDE.call rfl rfl (Clone_tr (xs := y.1) (by omega)) ?_ ?_; (intro x w h; first | exact h | exact Ent.drop1.sl h | exact SL.unI h | exact SL.to h); rintro c) | (guard_target =~ WDW _ _ _ _ _ _ _ ⟨_, .call ⟨.value (.func 36), _, _⟩, _, _, _, _⟩ _ _ _; refine WDW.call rfl rfl (Clone_tr (xs := y.1) (by omega)) ?_; rintro c))
        obtain ⟨v, k, k1, -, -, k2, k3, k4⟩ := rdOne_some hp hone
        have hpp : p' = p + ou * 3 + k := by
          rw [hu'] at k2
          have := congrArg ByteArray.size k2
          rw [ext_size' T p' hp', ext_size' T _ k3] at this
          omega
        have hlen : (ms ++ [y]).length = ms.length + 1 := by simp
        refine QQ.loopS ⟨ms ++ [y], qs ++ [(c, y.2)], p', g, y.1, x⟩ ⟨rfl, rfl, rfl, rfl, rfl, trivial⟩ ⟨⟨by simp [hq], hp', by dsimp only; omega, by dsimp only; omega⟩, by dsimp only; rw [hlen, hnx2, hu'], ?_, fun h => absurd h (by dsimp only; omega), fun _ => ?_⟩ (by dsimp only; omega) (fun w h => ?_)
        · dsimp only
          rw [hlen, fstN_succ (by rw [fst_pre]; exact hz), hsn]
          exact hc
        · dsimp only
          rw [hlen, Nat.add_sub_cancel, List.getD_eq_getElem?_getD, List.getElem?_append_right (Nat.le_refl _), Nat.sub_self]; rfl
        · dsimp only
          have h2 : SL w0 I (OwnS 3 c y.1 :: RowH 3 (qs.map Prod.fst) (ms.map Prod.fst) :: Bk R 121 (RdV T (p' : Nat) 0) :: Bk Z 23 [.slice g.a g.n g.cap] :: Bk O 3 [.int .i64 ou] :: Bk B 82 [.pointer (some ⟨R, 0, none⟩)] :: OwnS 3 g y.1 :: OwnS 67 x (qs ++ [(c, y.2)]) :: Bk X 25 [.int .i64 ou, .int .i64 nu, .slice b.a b.n b.cap] :: StoreR S m :: L') w := h.to
          have h3 := (RowH.snoc (by rw [List.length_map, List.length_map]; exact hql)).sl h2
          rw [List.map_append, List.map_append, show List.map Prod.fst [(c, y.2)] = [c] from rfl, show List.map Prod.fst [y] = [y.1] from rfl]
          exact h3.to
      · have hres : res = none := by
          rw [← hr]
          refine readS_bad (i := ms.length + 1) (by omega) hnx2 (by simp) (by omega) ?_
          rw [List.length_append]
          show fstN _ (ms.length + 1) ≠ 0
          rw [fstN_succ (by rw [fst_pre]; exact hz), hsn]
          exact hc
        subst hres
        repeat' (first | ((first | refine WLA.m rfl rfl ?_ ?_ | refine WLA.st rfl ?_ ?_ | refine WLA.x rfl rfl ?_ (fun x => ?_) | refine WLA.x0 rfl ?_ (fun x => ?_)); first | exact trivial | exact rfl | assumption | omega | (refine ⟨?_, ?_⟩ <;> omega) | (simp only [Room, List.length_set, List.length_append, List.length_cons, List.length_nil, List.length_replicate]; omega) | decide | skip) | (refine Stp.go ?_) | (guard_target =~ WLA _ _ _ _ _ (⟨_, .call ⟨.value (.tmp _), _, _⟩, _, _, _, _⟩ :: _) _ _; refine WLA.callV rfl rfl (stepC_bad hp (by omega) (by omega) hone hpl hc) ?_; rintro ⟨⟩) | (refine WPA.ifT ?_) | (refine WPA.ifF ?_) | ((first | refine WPA.dec ?_); first | refine .inl ⟨by first | assumption | omega | with_reducible rfl | (refine fun h => h ?_; first | assumption | with_reducible rfl) | (simp only [List.length_append, List.length_cons, List.length_nil, List.length_set] <;> omega) | decide, ?_⟩ | refine .inr ⟨by first | assumption | omega | with_reducible rfl | (refine fun h => h ?_; first | assumption | with_reducible rfl) | (simp only [List.length_append, List.length_cons, List.length_nil, List.length_set] <;> omega) | decide, ?_⟩) | ((first | refine WPA.ifBt ?_ ?_ | refine WPA.ifBnf ?_ ?_); assumption) | ((first | refine WPA.ifBnt ?_ ?_ | refine WPA.ifBf ?_ ?_); assumption) | ((first | refine WPA.ifs ?_ ?_ | refine WPA.ifB ?_ ?_) <;> intro hc))
        exact QQ.end_ rfl SV.nil rfl fun w h => CtsH.nil.sl (h.to : SL w0 I (StoreR S m :: L') w)
  · have hlt' : ¬ (qs.length : Int) < nu := by omega
    have hie : ms.length = nu := by omega
    have hw : wrong ou ms = 0 := by unfold wrong; rw [if_neg (by omega)]; exact hz
    have hrs : readS (ou : Int) (nu : Int) T = if (T.extract p T.size).size = 0 ∧ wrong ou ms = 0 then some ms else none := by
      unfold readS
      rw [Int.toNat_natCast, Int.toNat_natCast, ← hie, hrd]; rfl
    rw [hr, ext_size' T p hp] at hrs
    by_cases hps : p < T.size
    · rw [if_neg (by omega)] at hrs
      subst hrs
      have he := fun {L L' : List HP} [FindBk L R 121 (RdV T p 0) L'] => End_tr (R := R) (p := p) (t := T) (L := L) (L' := L') (w0 := w0) (I := I) (e := 0) hp (by omega)
      rw [if_pos ⟨rfl, hps⟩] at he
      repeat' (first | ((first | refine WLA.m rfl rfl ?_ ?_ | refine WLA.st rfl ?_ ?_ | refine WLA.x rfl rfl ?_ (fun x => ?_) | refine WLA.x0 rfl ?_ (fun x => ?_)); first | exact trivial | exact rfl | assumption | omega | (refine ⟨?_, ?_⟩ <;> omega) | (simp only [Room, List.length_set, List.length_append, List.length_cons, List.length_nil, List.length_replicate]; omega) | decide | skip) | (refine Stp.go ?_) | (guard_target =~ WLA _ _ _ _ _ (⟨_, .call ⟨.value (.func 37), _, _⟩, _, _, _, _⟩ :: _) _ _; first | (refine WLA.call rfl rfl (he) ?_; rintro ⟨⟩) | (refine WLA.call0 rfl (he) ?_; rintro ⟨⟩)) | (refine WPA.ifT ?_) | (refine WPA.ifF ?_) | ((first | refine WPA.dec ?_); first | refine .inl ⟨by first | assumption | omega | with_reducible rfl | (refine fun h => h ?_; first | assumption | with_reducible rfl) | (simp only [List.length_append, List.length_cons, List.length_nil, List.length_set] <;> omega) | decide, ?_⟩ | refine .inr ⟨by first | assumption | omega | with_reducible rfl | (refine fun h => h ?_; first | assumption | with_reducible rfl) | (simp only [List.length_append, List.length_cons, List.length_nil, List.length_set] <;> omega) | decide, ?_⟩) | ((first | refine WPA.ifBt ?_ ?_ | refine WPA.ifBnf ?_ ?_); assumption) | ((first | refine WPA.ifBnt ?_ ?_ | refine WPA.ifBf ?_ ?_); assumption) | ((first | refine WPA.ifs ?_ ?_ | refine WPA.ifB ?_ ?_) <;> intro hc))
      exact QQ.end_ rfl SV.nil rfl fun w h => CtsH.nil.sl (h.to : SL w0 I (StoreR S m :: L') w)
    · rw [if_pos ⟨by omega, hw⟩] at hrs
      subst hrs
      have he := fun {L L' : List HP} [FindBk L R 121 (RdV T p 0) L'] => End_tr (R := R) (p := p) (t := T) (L := L) (L' := L') (w0 := w0) (I := I) (e := 0) hp (by omega)
      rw [if_neg (fun h => hps h.2)] at he
      repeat' (first | ((first | refine WLA.m rfl rfl ?_ ?_ | refine WLA.st rfl ?_ ?_ | refine WLA.x rfl rfl ?_ (fun x => ?_) | refine WLA.x0 rfl ?_ (fun x => ?_)); first | exact trivial | exact rfl | assumption | omega | (refine ⟨?_, ?_⟩ <;> omega) | (simp only [Room, List.length_set, List.length_append, List.length_cons, List.length_nil, List.length_replicate]; omega) | decide | skip) | (refine Stp.go ?_) | (guard_target =~ WLA _ _ _ _ _ (⟨_, .call ⟨.value (.func 37), _, _⟩, _, _, _, _⟩ :: _) _ _; first | (refine WLA.call rfl rfl (he) ?_; rintro ⟨⟩) | (refine WLA.call0 rfl (he) ?_; rintro ⟨⟩)) | (refine WPA.ifT ?_) | (refine WPA.ifF ?_) | ((first | refine WPA.dec ?_); first | refine .inl ⟨by first | assumption | omega | with_reducible rfl | (refine fun h => h ?_; first | assumption | with_reducible rfl) | (simp only [List.length_append, List.length_cons, List.length_nil, List.length_set] <;> omega) | decide, ?_⟩ | refine .inr ⟨by first | assumption | omega | with_reducible rfl | (refine fun h => h ?_; first | assumption | with_reducible rfl) | (simp only [List.length_append, List.length_cons, List.length_nil, List.length_set] <;> omega) | decide, ?_⟩) | ((first | refine WPA.ifBt ?_ ?_ | refine WPA.ifBnf ?_ ?_); assumption) | ((first | refine WPA.ifBnt ?_ ?_ | refine WPA.ifBf ?_ ?_); assumption) | ((first | refine WPA.ifs ?_ ?_ | refine WPA.ifB ?_ ?_) <;> intro hc))
      exact QQ.end_ rfl x rfl fun w h => (CtsH.fold hq).sl (h.to : SL w0 I (OwnS 67 x qs :: RowH 3 (qs.map Prod.fst) (ms.map Prod.fst) :: StoreR S m :: L') w)
end
end Go.Proofs.Ytbekjbgaenjbfaa
namespace Go.Proofs.Ytbekjbgaenjbfaa
open Go Go.Fw Go.RowKit
set_option linter.unusedVariables false
set_option linter.unusedSimpArgs false
set_option maxRecDepth 100000
set_option maxHeartbeats 16000000
set_option synthInstance.maxHeartbeats 200000
set_option synthInstance.maxSize 100000
attribute [local irreducible] WPA WLA WDA WDQ WDE QQ seqQ blockQ loopQ fnQ OpP OpT Tr TrP SL SLd OwnS LitS Bk BkE Ob
attribute [local irreducible] vS keyS parL
section
variable {L L' : List HP} {w0 : World} {I : Foot}
theorem WrongR_tr {o : Int} {s : SV} {ps : List Pe} {ms : List Ct} [hs : RdS I L s Pe inferInstance ps] (hq : ps.map Prod.snd = ms.map Prod.snd) (hg : ∀ i : Nat, i < ps.length → RdS I L (at_ ps (i : Int)).1 Int inferInstance (ms.getD i ([], 0)).1) (hl : ∀ m ∈ ms, m.1.length ≤ 1000000) (hn : ps.length ≤ 1000000) :
    Tr Try.prog 19 #[.int .i64 o, .slice s.a s.n s.cap] (SL w0 I L) (fun _ : Unit => .int .i64 (wrong o ms)) (fun _ => SL w0 I L) := by
  refine Tr.intro Try.func19 rfl Try.ntmps19 rfl ?_
  unfold wrong
  have hql : ms.length = ps.length := by have := congrArg List.length hq; simpa using this.symm
  by_cases h1 : o < 1
  · rw [if_pos (.inl h1)]
    repeat' (first | ((first | refine WLA.m rfl rfl ?_ ?_ | refine WLA.st rfl ?_ ?_ | refine WLA.x rfl rfl ?_ (fun x => ?_) | refine WLA.x0 rfl ?_ (fun x => ?_)); first | exact trivial | exact rfl | assumption | omega | (refine ⟨?_, ?_⟩ <;> omega) | (simp only [Room, List.length_set, List.length_append, List.length_cons, List.length_nil, List.length_replicate]; omega) | decide | skip) | (refine Stp.go ?_) | (refine WPA.ifT ?_) | (refine WPA.ifF ?_) | (refine WLA.no rfl rfl ?_) | ((first | refine WPA.dec ?_ | ((fail_if_success (guard_target =~ WLA _ _ _ _ _ _ (put1 _ _ (.bool true)) _)); (fail_if_success (guard_target =~ WLA _ _ _ _ _ _ (put1 _ _ (.bool false)) _)); refine WLA.dec rfl rfl ?_) | refine WLA.pk ?_); first | refine .inl ⟨by first | assumption | omega | with_reducible rfl | (refine fun h => h ?_; first | assumption | with_reducible rfl) | (simp only [List.length_append, List.length_cons, List.length_nil, List.length_set] <;> omega) | decide, ?_⟩ | refine .inr ⟨by first | assumption | omega | with_reducible rfl | (refine fun h => h ?_; first | assumption | with_reducible rfl) | (simp only [List.length_append, List.length_cons, List.length_nil, List.length_set] <;> omega) | decide, ?_⟩) | ((first | refine WPA.ifBt ?_ ?_ | refine WPA.ifBnf ?_ ?_); assumption) | ((first | refine WPA.ifBnt ?_ ?_ | refine WPA.ifBf ?_ ?_); assumption) | ((first | refine WPA.ifs ?_ ?_ | refine WPA.ifB ?_ ?_) <;> intro hc) | ((fail_if_success (guard_target =~ WLA _ _ _ _ _ _ (put1 _ _ (.bool true)) _)); (fail_if_success (guard_target =~ WLA _ _ _ _ _ _ (put1 _ _ (.bool false)) _)); (first | refine WLA.both rfl rfl ?_ ?_ | refine WLA.bothB rfl rfl ?_ ?_) <;> intro hg))
    exact QQ.end_ rfl () rfl fun w h => h.to
  by_cases h2 : 8 < o
  · rw [if_pos (.inr h2)]
    repeat' (first | ((first | refine WLA.m rfl rfl ?_ ?_ | refine WLA.st rfl ?_ ?_ | refine WLA.x rfl rfl ?_ (fun x => ?_) | refine WLA.x0 rfl ?_ (fun x => ?_)); first | exact trivial | exact rfl | assumption | omega | (refine ⟨?_, ?_⟩ <;> omega) | (simp only [Room, List.length_set, List.length_append, List.length_cons, List.length_nil, List.length_replicate]; omega) | decide | skip) | (refine Stp.go ?_) | (refine WPA.ifT ?_) | (refine WPA.ifF ?_) | (refine WLA.no rfl rfl ?_) | ((first | refine WPA.dec ?_ | ((fail_if_success (guard_target =~ WLA _ _ _ _ _ _ (put1 _ _ (.bool true)) _)); (fail_if_success (guard_target =~ WLA _ _ _ _ _ _ (put1 _ _ (.bool false)) _)); refine WLA.dec rfl rfl ?_) | refine WLA.pk ?_); first | refine .inl ⟨by first | assumption | omega | with_reducible rfl | (refine fun h => h ?_; first | assumption | with_reducible rfl) | (simp only [List.length_append, List.length_cons, List.length_nil, List.length_set] <;> omega) | decide, ?_⟩ | refine .inr ⟨by first | assumption | omega | with_reducible rfl | (refine fun h => h ?_; first | assumption | with_reducible rfl) | (simp only [List.length_append, List.length_cons, List.length_nil, List.length_set] <;> omega) | decide, ?_⟩) | ((first | refine WPA.ifBt ?_ ?_ | refine WPA.ifBnf ?_ ?_); assumption) | ((first | refine WPA.ifBnt ?_ ?_ | refine WPA.ifBf ?_ ?_); assumption) | ((first | refine WPA.ifs ?_ ?_ | refine WPA.ifB ?_ ?_) <;> intro hc) | ((fail_if_success (guard_target =~ WLA _ _ _ _ _ _ (put1 _ _ (.bool true)) _)); (fail_if_success (guard_target =~ WLA _ _ _ _ _ _ (put1 _ _ (.bool false)) _)); (first | refine WLA.both rfl rfl ?_ ?_ | refine WLA.bothB rfl rfl ?_ ?_) <;> intro hg))
    exact QQ.end_ rfl () rfl fun w h => h.to
  rw [if_neg (fun h => h.elim h1 h2), hql]
  repeat' (first | ((first | refine WLA.m rfl rfl ?_ ?_ | refine WLA.st rfl ?_ ?_ | refine WLA.x rfl rfl ?_ (fun x => ?_) | refine WLA.x0 rfl ?_ (fun x => ?_)); first | exact trivial | exact rfl | assumption | omega | (refine ⟨?_, ?_⟩ <;> omega) | (simp only [Room, List.length_set, List.length_append, List.length_cons, List.length_nil, List.length_replicate]; omega) | decide | skip) | (refine Stp.go ?_) | (refine WPA.ifT ?_) | (refine WPA.ifF ?_) | (refine WLA.no rfl rfl ?_) | ((first | refine WPA.dec ?_ | ((fail_if_success (guard_target =~ WLA _ _ _ _ _ _ (put1 _ _ (.bool true)) _)); (fail_if_success (guard_target =~ WLA _ _ _ _ _ _ (put1 _ _ (.bool false)) _)); refine WLA.dec rfl rfl ?_) | refine WLA.pk ?_); first | refine .inl ⟨by first | assumption | omega | with_reducible rfl | (refine fun h => h ?_; first | assumption | with_reducible rfl) | (simp only [List.length_append, List.length_cons, List.length_nil, List.length_set] <;> omega) | decide, ?_⟩ | refine .inr ⟨by first | assumption | omega | with_reducible rfl | (refine fun h => h ?_; first | assumption | with_reducible rfl) | (simp only [List.length_append, List.length_cons, List.length_nil, List.length_set] <;> omega) | decide, ?_⟩) | ((first | refine WPA.ifBt ?_ ?_ | refine WPA.ifBnf ?_ ?_); assumption) | ((first | refine WPA.ifBnt ?_ ?_ | refine WPA.ifBf ?_ ?_); assumption) | ((first | refine WPA.ifs ?_ ?_ | refine WPA.ifB ?_ ?_) <;> intro hc) | ((fail_if_success (guard_target =~ WLA _ _ _ _ _ _ (put1 _ _ (.bool true)) _)); (fail_if_success (guard_target =~ WLA _ _ _ _ _ _ (put1 _ _ (.bool false)) _)); (first | refine WLA.both rfl rfl ?_ ?_ | refine WLA.bothB rfl rfl ?_ ?_) <;> intro hg))
  refine WPA.loopS (σ := Nat) (fun i => [(0, .int .i64 o), (1, .slice s.a s.n s.cap), (5, .int .i64 i)]) (fun i => i ≤ ps.length ∧ fstN (wrE o ms) i = 0) (fun _ => SL w0 I L) (fun i => ps.length - i) 0 ⟨rfl, rfl, rfl, trivial⟩ ⟨Nat.zero_le _, rfl⟩ (fun w h => h.to) ?_
  rintro i ρ ⟨hi, hz⟩
  by_cases hil : i < ps.length
  · have hil' : (0 : Int) ≤ i ∧ (i : Int) < ps.length := by omega
    have hlt : (i : Int) < ps.length := by omega
    have hgi := hg i hil
    have hli := hl (ms.getD i ([], 0)) (by rw [List.getD_eq_getElem?_getD, List.getElem?_eq_getElem (by omega)]; exact List.getElem_mem _)
    have hN : (ms.getD i ([], 0)).2 = (at_ ps (i : Int)).2 := by
      have := congrArg (fun l => l[i]?) hq
      simp only [List.getElem?_map, List.getElem?_eq_getElem hil, List.getElem?_eq_getElem (show i < ms.length by omega), Option.map_some] at this
      rw [at_nat ps i hil, List.getD_eq_getElem?_getD, List.getElem?_eq_getElem (by omega)]; injection this with this; exact this.symm
    have hw : wrE o ms i = chk1 o (prvG ms i) (ms.getD i ([], 0)).1 (at_ ps (i : Int)).2 := by unfold wrE; rw [hN]
    have hdone : ∀ e : Int, e ≠ 0 → wrE o ms i = e → fstN (wrE o ms) ps.length = e := fun e h0 h => by rw [fstN_here hz (by rw [h]; exact h0) _ hil, h]
    have hpv : 0 < i → prvG ms i = some (ms.getD (i - 1) ([], 0)).1 := fun h0 => by
      unfold prvG
      rw [if_neg (by omega)]
    have hgp0 : 0 < i → RdS I L (at_ ps ((i : Int) - 1)).1 Int inferInstance (ms.getD (i - 1) ([], 0)).1 := fun h0 => by
      have := hg (i - 1) (by omega)
      rw [show ((i - 1 : Nat) : Int) = (i : Int) - 1 by omega] at this
      exact this
    have hlp0 : 0 < i → (ms.getD (i - 1) ([], 0)).1.length ≤ 1000000 := fun h0 => hl (ms.getD (i - 1) ([], 0)) (by rw [List.getD_eq_getElem?_getD, List.getElem?_eq_getElem (by omega)]; exact List.getElem_mem _)
    generalize (ms.getD (i - 1) ([], 0)).1 = gp at hpv hgp0 hlp0
    unfold chk1 at hw
    generalize hee : at_ ps (i : Int) = e at hgi hli hw
    obtain ⟨gs, N⟩ := e
    dsimp only at hgi hli hw
    clear hN
    generalize (ms.getD i ([], 0)).1 = g at hgi hli hw
    have hn9 : g.length ≤ 1000000000 := by omega
    by_cases c1 : (g.length : Int) ≠ o
    · rw [if_pos c1] at hw
      repeat' (first | ((rw [hee])) | ((first | refine WLA.m rfl rfl ?_ ?_ | refine WLA.st rfl ?_ ?_ | refine WLA.x rfl rfl ?_ (fun x => ?_) | refine WLA.x0 rfl ?_ (fun x => ?_)); first | exact trivial | exact rfl | assumption | omega | (refine ⟨?_, ?_⟩ <;> omega) | (simp only [Room, List.length_set, List.length_append, List.length_cons, List.length_nil, List.length_replicate]; omega) | decide | skip) | (refine Stp.go ?_) | (refine WPA.ifT ?_) | (refine WPA.ifF ?_) | ((first | refine WPA.dec ?_); first | refine .inl ⟨by first | assumption | omega | with_reducible rfl | (refine fun h => h ?_; first | assumption | with_reducible rfl) | (simp only [List.length_append, List.length_cons, List.length_nil, List.length_set] <;> omega) | decide, ?_⟩ | refine .inr ⟨by first | assumption | omega | with_reducible rfl | (refine fun h => h ?_; first | assumption | with_reducible rfl) | (simp only [List.length_append, List.length_cons, List.length_nil, List.length_set] <;> omega) | decide, ?_⟩) | ((first | refine WPA.ifBt ?_ ?_ | refine WPA.ifBnf ?_ ?_); assumption) | ((first | refine WPA.ifBnt ?_ ?_ | refine WPA.ifBf ?_ ?_); assumption) | ((first | refine WPA.ifs ?_ ?_ | refine WPA.ifB ?_ ?_) <;> intro hc))
      exact QQ.end_ rfl () (by rw [hdone 1 (by decide) hw]) fun w h => h.to
    rw [if_neg c1] at hw
    by_cases c2 : ¬ okKey g
    · rw [if_pos c2] at hw
      have hbf : (!false) = true := rfl
      repeat' (first | ((rw [hee])) | ((rw [hbf])) | ((first | refine WLA.m rfl rfl ?_ ?_ | refine WLA.st rfl ?_ ?_ | refine WLA.x rfl rfl ?_ (fun x => ?_) | refine WLA.x0 rfl ?_ (fun x => ?_)); first | exact trivial | exact rfl | assumption | omega | (refine ⟨?_, ?_⟩ <;> omega) | (simp only [Room, List.length_set, List.length_append, List.length_cons, List.length_nil, List.length_replicate]; omega) | decide | skip) | (refine Stp.go ?_) | (guard_target =~ WLA _ _ _ _ _ (⟨_, .call ⟨.value (.func 45), _, _⟩, _, _, _, _⟩ :: _) _ _; first | (refine WLA.call rfl rfl (rKey_tr hli (.inr ⟨c2, rfl, rfl⟩)) ?_; rintro ⟨⟩) | (refine WLA.call0 rfl (rKey_tr hli (.inr ⟨c2, rfl, rfl⟩)) ?_; rintro ⟨⟩)) | (refine WPA.ifT ?_) | (refine WPA.ifF ?_) | (refine WLA.no rfl rfl ?_) | ((first | refine WPA.dec ?_ | ((fail_if_success (guard_target =~ WLA _ _ _ _ _ _ (put1 _ _ (.bool true)) _)); (fail_if_success (guard_target =~ WLA _ _ _ _ _ _ (put1 _ _ (.bool false)) _)); refine WLA.dec rfl rfl ?_) | refine WLA.pk ?_); first | refine .inl ⟨by first | assumption | omega | with_reducible rfl | (refine fun h => h ?_; first | assumption | with_reducible rfl) | (simp only [List.length_append, List.length_cons, List.length_nil, List.length_set] <;> omega) | decide, ?_⟩ | refine .inr ⟨by first | assumption | omega | with_reducible rfl | (refine fun h => h ?_; first | assumption | with_reducible rfl) | (simp only [List.length_append, List.length_cons, List.length_nil, List.length_set] <;> omega) | decide, ?_⟩) | ((first | refine WPA.ifBt ?_ ?_ | refine WPA.ifBnf ?_ ?_); assumption) | ((first | refine WPA.ifBnt ?_ ?_ | refine WPA.ifBf ?_ ?_); assumption) | ((first | refine WPA.ifs ?_ ?_ | refine WPA.ifB ?_ ?_) <;> intro hc) | ((fail_if_success (guard_target =~ WLA _ _ _ _ _ _ (put1 _ _ (.bool true)) _)); (fail_if_success (guard_target =~ WLA _ _ _ _ _ _ (put1 _ _ (.bool false)) _)); (first | refine WLA.both rfl rfl ?_ ?_ | refine WLA.bothB rfl rfl ?_ ?_) <;> intro hg))
      exact QQ.end_ rfl () (by rw [hdone 8 (by decide) hw]) fun w h => h.to
    rw [if_neg c2] at hw
    have hbt : (!true) = false := rfl
    have hK : ∀ {L : List HP} [RdS I L gs Int inferInstance g], Tr Try.prog 45 #[.slice gs.a gs.n gs.cap] (SL w0 I L) (fun _ : Unit => .tuple #[.string (keyS g), .bool true]) (fun _ => SL w0 I L) := fun {L} _ => rKey_tr hli (.inl ⟨Classical.byContradiction c2, rfl, rfl⟩)
    by_cases c3 : N < 1 ∨ 1099511627776 < N
    · rw [if_pos c3] at hw
      by_cases c4 : N < 1
      · skip
        repeat' (first | ((rw [hee])) | ((rw [hbt])) | ((first | refine WLA.m rfl rfl ?_ ?_ | refine WLA.st rfl ?_ ?_ | refine WLA.x rfl rfl ?_ (fun x => ?_) | refine WLA.x0 rfl ?_ (fun x => ?_)); first | exact trivial | exact rfl | assumption | omega | (refine ⟨?_, ?_⟩ <;> omega) | (simp only [Room, List.length_set, List.length_append, List.length_cons, List.length_nil, List.length_replicate]; omega) | decide | skip) | (refine Stp.go ?_) | (guard_target =~ WLA _ _ _ _ _ (⟨_, .call ⟨.value (.func 45), _, _⟩, _, _, _, _⟩ :: _) _ _; first | (refine WLA.call rfl rfl (hK) ?_; rintro ⟨⟩) | (refine WLA.call0 rfl (hK) ?_; rintro ⟨⟩)) | (refine WPA.ifT ?_) | (refine WPA.ifF ?_) | (refine WLA.no rfl rfl ?_) | ((first | refine WPA.dec ?_ | ((fail_if_success (guard_target =~ WLA _ _ _ _ _ _ (put1 _ _ (.bool true)) _)); (fail_if_success (guard_target =~ WLA _ _ _ _ _ _ (put1 _ _ (.bool false)) _)); refine WLA.dec rfl rfl ?_) | refine WLA.pk ?_); first | refine .inl ⟨by first | assumption | omega | with_reducible rfl | (refine fun h => h ?_; first | assumption | with_reducible rfl) | (simp only [List.length_append, List.length_cons, List.length_nil, List.length_set] <;> omega) | decide, ?_⟩ | refine .inr ⟨by first | assumption | omega | with_reducible rfl | (refine fun h => h ?_; first | assumption | with_reducible rfl) | (simp only [List.length_append, List.length_cons, List.length_nil, List.length_set] <;> omega) | decide, ?_⟩) | ((first | refine WPA.ifBt ?_ ?_ | refine WPA.ifBnf ?_ ?_); assumption) | ((first | refine WPA.ifBnt ?_ ?_ | refine WPA.ifBf ?_ ?_); assumption) | ((first | refine WPA.ifs ?_ ?_ | refine WPA.ifB ?_ ?_) <;> intro hc) | ((fail_if_success (guard_target =~ WLA _ _ _ _ _ _ (put1 _ _ (.bool true)) _)); (fail_if_success (guard_target =~ WLA _ _ _ _ _ _ (put1 _ _ (.bool false)) _)); (first | refine WLA.both rfl rfl ?_ ?_ | refine WLA.bothB rfl rfl ?_ ?_) <;> intro hg))
        exact QQ.end_ rfl () (by rw [hdone 8 (by decide) hw]) fun w h => h.to
      · have c5 : 1099511627776 < N := c3.resolve_left c4
        repeat' (first | ((rw [hee])) | ((rw [hbt])) | ((first | refine WLA.m rfl rfl ?_ ?_ | refine WLA.st rfl ?_ ?_ | refine WLA.x rfl rfl ?_ (fun x => ?_) | refine WLA.x0 rfl ?_ (fun x => ?_)); first | exact trivial | exact rfl | assumption | omega | (refine ⟨?_, ?_⟩ <;> omega) | (simp only [Room, List.length_set, List.length_append, List.length_cons, List.length_nil, List.length_replicate]; omega) | decide | skip) | (refine Stp.go ?_) | (guard_target =~ WLA _ _ _ _ _ (⟨_, .call ⟨.value (.func 45), _, _⟩, _, _, _, _⟩ :: _) _ _; first | (refine WLA.call rfl rfl (hK) ?_; rintro ⟨⟩) | (refine WLA.call0 rfl (hK) ?_; rintro ⟨⟩)) | (refine WPA.ifT ?_) | (refine WPA.ifF ?_) | (refine WLA.no rfl rfl ?_) | ((first | refine WPA.dec ?_ | ((fail_if_success (guard_target =~ WLA _ _ _ _ _ _ (put1 _ _ (.bool true)) _)); (fail_if_success (guard_target =~ WLA _ _ _ _ _ _ (put1 _ _ (.bool false)) _)); refine WLA.dec rfl rfl ?_) | refine WLA.pk ?_); first | refine .inl ⟨by first | assumption | omega | with_reducible rfl | (refine fun h => h ?_; first | assumption | with_reducible rfl) | (simp only [List.length_append, List.length_cons, List.length_nil, List.length_set] <;> omega) | decide, ?_⟩ | refine .inr ⟨by first | assumption | omega | with_reducible rfl | (refine fun h => h ?_; first | assumption | with_reducible rfl) | (simp only [List.length_append, List.length_cons, List.length_nil, List.length_set] <;> omega) | decide, ?_⟩) | ((first | refine WPA.ifBt ?_ ?_ | refine WPA.ifBnf ?_ ?_); assumption) | ((first | refine WPA.ifBnt ?_ ?_ | refine WPA.ifBf ?_ ?_); assumption) | ((first | refine WPA.ifs ?_ ?_ | refine WPA.ifB ?_ ?_) <;> intro hc) | ((fail_if_success (guard_target =~ WLA _ _ _ _ _ _ (put1 _ _ (.bool true)) _)); (fail_if_success (guard_target =~ WLA _ _ _ _ _ _ (put1 _ _ (.bool false)) _)); (first | refine WLA.both rfl rfl ?_ ?_ | refine WLA.bothB rfl rfl ?_ ?_) <;> intro hg))
        exact QQ.end_ rfl () (by rw [hdone 8 (by decide) hw]) fun w h => h.to
    rw [if_neg c3] at hw
    have c4 : ¬ N < 1 := fun h => c3 (.inl h)
    have c5 : ¬ 1099511627776 < N := fun h => c3 (.inr h)
    by_cases c6 : 0 < i
    · have c6' : (0 : Int) < i := by omega
      rw [hpv c6] at hw
      have hgp := hgp0 c6
      have hlp := hlp0 c6
      have hlp9 : gp.length ≤ 1000000000 := by omega
      have hir : (0 : Int) ≤ (i : Int) - 1 ∧ (i : Int) - 1 < ps.length := by omega
      by_cases c7 : 0 ≤ cmpL gp g
      · rw [if_pos (by exact c7)] at hw
        repeat' (first | ((rw [hee])) | ((rw [hbt])) | ((first | refine WLA.m rfl rfl ?_ ?_ | refine WDQ.m rfl rfl ?_ ?_ | refine WLA.st rfl ?_ ?_ | refine WLA.x rfl rfl ?_ (fun x => ?_) | refine WLA.x0 rfl ?_ (fun x => ?_)); first | exact trivial | exact rfl | assumption | omega | (refine ⟨?_, ?_⟩ <;> omega) | (simp only [Room, List.length_set, List.length_append, List.length_cons, List.length_nil, List.length_replicate]; omega) | decide | skip) | (refine Stp.go ?_) | (guard_target =~ WLA _ _ _ _ _ (⟨_, .call ⟨.value (.func 45), _, _⟩, _, _, _, _⟩ :: _) _ _; first | (refine WLA.call rfl rfl (hK) ?_; rintro ⟨⟩) | (refine WLA.call0 rfl (hK) ?_; rintro ⟨⟩)) | (guard_target =~ WLA _ _ _ _ _ (⟨_, .call ⟨.value (.func 46), _, _⟩, _, _, _, _⟩ :: _) _ _; refine WLA.cq rfl rfl (Compare_tr hlp9 hn9) ?_) | (refine WPA.ifT ?_) | (refine WPA.ifF ?_) | (refine WLA.no rfl rfl ?_) | (refine WDQ.no rfl rfl ?_) | ((first | refine WPA.dec ?_ | ((fail_if_success (guard_target =~ WLA _ _ _ _ _ _ (put1 _ _ (.bool true)) _)); (fail_if_success (guard_target =~ WLA _ _ _ _ _ _ (put1 _ _ (.bool false)) _)); refine WLA.dec rfl rfl ?_) | refine WLA.pk ?_ | refine WDQ.dec rfl rfl ?_); first | refine .inl ⟨by first | assumption | omega | with_reducible rfl | (refine fun h => h ?_; first | assumption | with_reducible rfl) | (simp only [List.length_append, List.length_cons, List.length_nil, List.length_set] <;> omega) | decide, ?_⟩ | refine .inr ⟨by first | assumption | omega | with_reducible rfl | (refine fun h => h ?_; first | assumption | with_reducible rfl) | (simp only [List.length_append, List.length_cons, List.length_nil, List.length_set] <;> omega) | decide, ?_⟩) | ((first | refine WPA.ifBt ?_ ?_ | refine WPA.ifBnf ?_ ?_); assumption) | ((first | refine WPA.ifBnt ?_ ?_ | refine WPA.ifBf ?_ ?_); assumption) | ((first | refine WPA.ifs ?_ ?_ | refine WPA.ifB ?_ ?_) <;> intro hc) | ((fail_if_success (guard_target =~ WLA _ _ _ _ _ _ (put1 _ _ (.bool true)) _)); (fail_if_success (guard_target =~ WLA _ _ _ _ _ _ (put1 _ _ (.bool false)) _)); (first | refine WLA.both rfl rfl ?_ ?_ | refine WLA.bothB rfl rfl ?_ ?_) <;> intro hg) | (guard_target =~ WPA _ _ _ (.region 11 _ true) _ _ _; refine WPA.drawT 14 (.q 0 (.q 1 (.q 2 (.q 3 (.q 4 (.q 5 (.q 6 (.q 7 (.q 8 (.q 9 (.q 10 (.q 11 (.q 12 (.q 13 .fin)))))))))))))) mixed ?_ ?_; kernel_rfl) | (refine WDA.finish (tl := [⟨_, _, _, _, _, _⟩, ⟨_, _, _, _, _, _⟩, ⟨_, _, _, _, _, _⟩]) rfl ?_) | (refine WDQ.see rfl ?_) | (guard_target =~ WDE _ _ _ _ _ _ _ ⟨_, .call ⟨.value (.func 45), _, _⟩, _, _, _, _⟩ _ _ _; refine WDE.call rfl rfl (hK) ?_ ?_; (intro x w h; first | exact h | exact Ent.drop1.sl h | exact SL.unI h | exact SL.to h); rintro ⟨⟩) | (guard_target =~ WDW _ _ _ _ _ _ _ ⟨_, .call ⟨.value (.func 45), _, _⟩, _, _, _, _⟩ _ _ _; refine WDW.call rfl rfl (hK) ?_; rintro ⟨⟩) | (guard_target =~ WDQ _ _ _ _ _ _ _ ⟨_, .call ⟨.value (.func 46), _, _⟩, _, _, _, _⟩ _ _ _; refine WDQ.cq rfl rfl (Compare_tr hlp9 hn9) ?_) | ((first | refine WDQ.both rfl rfl ?_ ?_) <;> intro hg))
        all_goals exact QQ.end_ rfl () (by rw [hdone 9 (by decide) hw]) fun w h => h.to
      · rw [if_neg (by exact c7)] at hw
        repeat' (first | ((rw [hee])) | ((rw [hbt])) | ((first | refine WLA.m rfl rfl ?_ ?_ | refine WDQ.m rfl rfl ?_ ?_ | refine WLA.st rfl ?_ ?_ | refine WLA.x rfl rfl ?_ (fun x => ?_) | refine WLA.x0 rfl ?_ (fun x => ?_)); first | exact trivial | exact rfl | assumption | omega | (refine ⟨?_, ?_⟩ <;> omega) | (simp only [Room, List.length_set, List.length_append, List.length_cons, List.length_nil, List.length_replicate]; omega) | decide | skip) | (refine Stp.go ?_) | (guard_target =~ WLA _ _ _ _ _ (⟨_, .call ⟨.value (.func 45), _, _⟩, _, _, _, _⟩ :: _) _ _; first | (refine WLA.call rfl rfl (hK) ?_; rintro ⟨⟩) | (refine WLA.call0 rfl (hK) ?_; rintro ⟨⟩)) | (guard_target =~ WLA _ _ _ _ _ (⟨_, .call ⟨.value (.func 46), _, _⟩, _, _, _, _⟩ :: _) _ _; refine WLA.cq rfl rfl (Compare_tr hlp9 hn9) ?_) | (refine WPA.ifT ?_) | (refine WPA.ifF ?_) | (refine WLA.no rfl rfl ?_) | (refine WDQ.no rfl rfl ?_) | ((first | refine WPA.dec ?_ | ((fail_if_success (guard_target =~ WLA _ _ _ _ _ _ (put1 _ _ (.bool true)) _)); (fail_if_success (guard_target =~ WLA _ _ _ _ _ _ (put1 _ _ (.bool false)) _)); refine WLA.dec rfl rfl ?_) | refine WLA.pk ?_ | refine WDQ.dec rfl rfl ?_); first | refine .inl ⟨by first | assumption | omega | with_reducible rfl | (refine fun h => h ?_; first | assumption | with_reducible rfl) | (simp only [List.length_append, List.length_cons, List.length_nil, List.length_set] <;> omega) | decide, ?_⟩ | refine .inr ⟨by first | assumption | omega | with_reducible rfl | (refine fun h => h ?_; first | assumption | with_reducible rfl) | (simp only [List.length_append, List.length_cons, List.length_nil, List.length_set] <;> omega) | decide, ?_⟩) | ((first | refine WPA.ifBt ?_ ?_ | refine WPA.ifBnf ?_ ?_); assumption) | ((first | refine WPA.ifBnt ?_ ?_ | refine WPA.ifBf ?_ ?_); assumption) | ((first | refine WPA.ifs ?_ ?_ | refine WPA.ifB ?_ ?_) <;> intro hc) | ((fail_if_success (guard_target =~ WLA _ _ _ _ _ _ (put1 _ _ (.bool true)) _)); (fail_if_success (guard_target =~ WLA _ _ _ _ _ _ (put1 _ _ (.bool false)) _)); (first | refine WLA.both rfl rfl ?_ ?_ | refine WLA.bothB rfl rfl ?_ ?_) <;> intro hg) | (guard_target =~ WPA _ _ _ (.region 11 _ true) _ _ _; refine WPA.drawT 14 (.q 0 (.q 1 (.q 2 (.q 3 (.q 4 (.q 5 (.q 6 (.q 7 (.q 8 (.q 9 (.q 10 (.q 11 (.q 12 (.q 13 .fin)))))))))))))) mixed ?_ ?_; kernel_rfl) | (refine WDA.finish (tl := [⟨_, _, _, _, _, _⟩, ⟨_, _, _, _, _, _⟩, ⟨_, _, _, _, _, _⟩]) rfl ?_) | (refine WDQ.see rfl ?_) | (guard_target =~ WDE _ _ _ _ _ _ _ ⟨_, .call ⟨.value (.func 45), _, _⟩, _, _, _, _⟩ _ _ _; refine WDE.call rfl rfl (hK) ?_ ?_; (intro x w h; first | exact h | exact Ent.drop1.sl h | exact SL.unI h | exact SL.to h); rintro ⟨⟩) | (guard_target =~ WDW _ _ _ _ _ _ _ ⟨_, .call ⟨.value (.func 45), _, _⟩, _, _, _, _⟩ _ _ _; refine WDW.call rfl rfl (hK) ?_; rintro ⟨⟩) | (guard_target =~ WDQ _ _ _ _ _ _ _ ⟨_, .call ⟨.value (.func 46), _, _⟩, _, _, _, _⟩ _ _ _; refine WDQ.cq rfl rfl (Compare_tr hlp9 hn9) ?_) | ((first | refine WDQ.both rfl rfl ?_ ?_) <;> intro hg))
        all_goals exact QQ.loopS (i + 1) ⟨rfl, rfl, rfl, trivial⟩ ⟨hil, by rw [fstN_succ hz, hw]⟩ (by omega) (fun w h => h.to)
    · have c6' : ¬ (0 : Int) < i := by omega
      have hp0 : prvG ms i = none := by unfold prvG; rw [if_pos (by omega)]
      rw [hp0] at hw
      change _ = if (0 : Int) ≤ -1 then 9 else 0 at hw
      rw [if_neg (by decide)] at hw
      repeat' (first | ((rw [hee])) | ((rw [hbt])) | ((first | refine WLA.m rfl rfl ?_ ?_ | refine WDQ.m rfl rfl ?_ ?_ | refine WLA.st rfl ?_ ?_ | refine WLA.x rfl rfl ?_ (fun x => ?_) | refine WLA.x0 rfl ?_ (fun x => ?_)); first | exact trivial | exact rfl | assumption | omega | (refine ⟨?_, ?_⟩ <;> omega) | (simp only [Room, List.length_set, List.length_append, List.length_cons, List.length_nil, List.length_replicate]; omega) | decide | skip) | (refine Stp.go ?_) | (guard_target =~ WLA _ _ _ _ _ (⟨_, .call ⟨.value (.func 45), _, _⟩, _, _, _, _⟩ :: _) _ _; first | (refine WLA.call rfl rfl (hK) ?_; rintro ⟨⟩) | (refine WLA.call0 rfl (hK) ?_; rintro ⟨⟩)) | (refine WPA.ifT ?_) | (refine WPA.ifF ?_) | (refine WLA.no rfl rfl ?_) | (refine WDQ.no rfl rfl ?_) | ((first | refine WPA.dec ?_ | ((fail_if_success (guard_target =~ WLA _ _ _ _ _ _ (put1 _ _ (.bool true)) _)); (fail_if_success (guard_target =~ WLA _ _ _ _ _ _ (put1 _ _ (.bool false)) _)); refine WLA.dec rfl rfl ?_) | refine WLA.pk ?_ | refine WDQ.dec rfl rfl ?_); first | refine .inl ⟨by first | assumption | omega | with_reducible rfl | (refine fun h => h ?_; first | assumption | with_reducible rfl) | (simp only [List.length_append, List.length_cons, List.length_nil, List.length_set] <;> omega) | decide, ?_⟩ | refine .inr ⟨by first | assumption | omega | with_reducible rfl | (refine fun h => h ?_; first | assumption | with_reducible rfl) | (simp only [List.length_append, List.length_cons, List.length_nil, List.length_set] <;> omega) | decide, ?_⟩) | ((first | refine WPA.ifBt ?_ ?_ | refine WPA.ifBnf ?_ ?_); assumption) | ((first | refine WPA.ifBnt ?_ ?_ | refine WPA.ifBf ?_ ?_); assumption) | ((first | refine WPA.ifs ?_ ?_ | refine WPA.ifB ?_ ?_) <;> intro hc) | ((fail_if_success (guard_target =~ WLA _ _ _ _ _ _ (put1 _ _ (.bool true)) _)); (fail_if_success (guard_target =~ WLA _ _ _ _ _ _ (put1 _ _ (.bool false)) _)); (first | refine WLA.both rfl rfl ?_ ?_ | refine WLA.bothB rfl rfl ?_ ?_) <;> intro hg) | (guard_target =~ WPA _ _ _ (.region 11 _ true) _ _ _; refine WPA.drawT 14 (.q 0 (.q 1 (.q 2 (.q 3 (.q 4 (.q 5 (.q 6 (.q 7 (.q 8 (.q 9 (.q 10 (.q 11 (.q 12 (.q 13 .fin)))))))))))))) mixed ?_ ?_; kernel_rfl) | (refine WDA.finish (tl := [⟨_, _, _, _, _, _⟩, ⟨_, _, _, _, _, _⟩, ⟨_, _, _, _, _, _⟩]) rfl ?_) | (refine WDQ.see rfl ?_) | (guard_target =~ WDE _ _ _ _ _ _ _ ⟨_, .call ⟨.value (.func 45), _, _⟩, _, _, _, _⟩ _ _ _; refine WDE.call rfl rfl (hK) ?_ ?_; (intro x w h; first | exact h | exact Ent.drop1.sl h | exact SL.unI h | exact SL.to h); rintro ⟨⟩) | (guard_target =~ WDW _ _ _ _ _ _ _ ⟨_, .call ⟨.value (.func 45), _, _⟩, _, _, _, _⟩ _ _ _; refine WDW.call rfl rfl (hK) ?_; rintro ⟨⟩) | ((first | refine WDQ.both rfl rfl ?_ ?_) <;> intro hg))
      all_goals exact QQ.loopS (i + 1) ⟨rfl, rfl, rfl, trivial⟩ ⟨hil, by rw [fstN_succ hz, hw]⟩ (by omega) (fun w h => h.to)
  · have hil' : ¬ (i : Int) < ps.length := by omega
    have hie : i = ps.length := by omega
    subst hie
    rw [hz]
    repeat' (first | ((first | refine WLA.m rfl rfl ?_ ?_ | refine WLA.st rfl ?_ ?_ | refine WLA.x rfl rfl ?_ (fun x => ?_) | refine WLA.x0 rfl ?_ (fun x => ?_)); first | exact trivial | exact rfl | assumption | omega | (refine ⟨?_, ?_⟩ <;> omega) | (simp only [Room, List.length_set, List.length_append, List.length_cons, List.length_nil, List.length_replicate]; omega) | decide | skip) | (refine Stp.go ?_) | (refine WPA.ifT ?_) | (refine WPA.ifF ?_) | ((first | refine WPA.dec ?_); first | refine .inl ⟨by first | assumption | omega | with_reducible rfl | (refine fun h => h ?_; first | assumption | with_reducible rfl) | (simp only [List.length_append, List.length_cons, List.length_nil, List.length_set] <;> omega) | decide, ?_⟩ | refine .inr ⟨by first | assumption | omega | with_reducible rfl | (refine fun h => h ?_; first | assumption | with_reducible rfl) | (simp only [List.length_append, List.length_cons, List.length_nil, List.length_set] <;> omega) | decide, ?_⟩) | ((first | refine WPA.ifBt ?_ ?_ | refine WPA.ifBnf ?_ ?_); assumption) | ((first | refine WPA.ifBnt ?_ ?_ | refine WPA.ifBf ?_ ?_); assumption) | ((first | refine WPA.ifs ?_ ?_ | refine WPA.ifB ?_ ?_) <;> intro hc))
    exact QQ.end_ rfl () rfl fun w h => h.to
section
variable {R : Nat} {u : ByteArray}
theorem RRaw_short {n : Int} [h : FindBk L R 91 [.string u, .int .i64 0] L'] (hn : (u.size : Int) < n) : Tr Try.prog 38 #[.pointer (some ⟨R, 0, none⟩), .int .i64 n] (SL w0 I L) (fun _ : Unit => .string ⟨#[]⟩) (fun _ => SL w0 I (Bk R 91 [.string u, .int .i64 2] :: L')) := by
  refine Tr.at h.out ?_
  refine Tr.intro Try.func38 rfl Try.ntmps38 rfl ?_
  have h0 : ¬ n < 0 := by omega
  repeat' (first | ((first | refine WLA.m rfl rfl ?_ ?_ | refine WLA.st rfl ?_ ?_ | refine WLA.x rfl rfl ?_ (fun x => ?_) | refine WLA.x0 rfl ?_ (fun x => ?_)); first | exact trivial | exact rfl | assumption | omega | (refine ⟨?_, ?_⟩ <;> omega) | (simp only [Room, List.length_set, List.length_append, List.length_cons, List.length_nil, List.length_replicate]; omega) | decide | skip) | (refine Stp.go ?_) | (refine WPA.ifT ?_) | (refine WPA.ifF ?_) | ((first | refine WPA.dec ?_); first | refine .inl ⟨by first | assumption | omega | with_reducible rfl | (refine fun h => h ?_; first | assumption | with_reducible rfl) | (simp only [List.length_append, List.length_cons, List.length_nil, List.length_set] <;> omega) | decide, ?_⟩ | refine .inr ⟨by first | assumption | omega | with_reducible rfl | (refine fun h => h ?_; first | assumption | with_reducible rfl) | (simp only [List.length_append, List.length_cons, List.length_nil, List.length_set] <;> omega) | decide, ?_⟩) | ((first | refine WPA.ifBt ?_ ?_ | refine WPA.ifBnf ?_ ?_); assumption) | ((first | refine WPA.ifBnt ?_ ?_ | refine WPA.ifBf ?_ ?_); assumption) | ((first | refine WPA.ifs ?_ ?_ | refine WPA.ifB ?_ ?_) <;> intro hc))
  exact QQ.end_ rfl () rfl fun w h => h.to
theorem RRaw_tr {n : Nat} [h : FindBk L R 91 [.string u, .int .i64 0] L'] (hn : n ≤ u.size) : Tr Try.prog 38 #[.pointer (some ⟨R, 0, none⟩), .int .i64 n] (SL w0 I L) (fun _ : Unit => .string (u.extract 0 n)) (fun _ => SL w0 I (Bk R 91 [.string (u.extract n u.size), .int .i64 0] :: L')) := by
  refine Tr.at h.out ?_
  refine Tr.intro Try.func38 rfl Try.ntmps38 rfl ?_
  have h0 : ¬ (n : Int) < 0 := by omega
  have h1 : ¬ (u.size : Int) < n := by omega
  have h3 : (0 : Int) ≤ n ∧ (n : Int) ≤ u.size := by omega
  have hx0 : u.extract (Int.toNat 0) (n : Int).toNat = u.extract 0 n := rfl
  have hx1 : u.extract (n : Int).toNat (u.size : Int).toNat = u.extract n u.size := rfl
  repeat' (first | ((rw [hx0])) | ((rw [hx1])) | ((first | refine WLA.m rfl rfl ?_ ?_ | refine WLA.st rfl ?_ ?_ | refine WLA.x rfl rfl ?_ (fun x => ?_) | refine WLA.x0 rfl ?_ (fun x => ?_)); first | exact trivial | exact rfl | assumption | omega | (refine ⟨?_, ?_⟩ <;> omega) | (simp only [Room, List.length_set, List.length_append, List.length_cons, List.length_nil, List.length_replicate]; omega) | decide | skip) | (refine Stp.go ?_) | (refine WPA.ifT ?_) | (refine WPA.ifF ?_) | ((first | refine WPA.dec ?_); first | refine .inl ⟨by first | assumption | omega | with_reducible rfl | (refine fun h => h ?_; first | assumption | with_reducible rfl) | (simp only [List.length_append, List.length_cons, List.length_nil, List.length_set] <;> omega) | decide, ?_⟩ | refine .inr ⟨by first | assumption | omega | with_reducible rfl | (refine fun h => h ?_; first | assumption | with_reducible rfl) | (simp only [List.length_append, List.length_cons, List.length_nil, List.length_set] <;> omega) | decide, ?_⟩) | ((first | refine WPA.ifBt ?_ ?_ | refine WPA.ifBnf ?_ ?_); assumption) | ((first | refine WPA.ifBnt ?_ ?_ | refine WPA.ifBf ?_ ?_); assumption) | ((first | refine WPA.ifs ?_ ?_ | refine WPA.ifB ?_ ?_) <;> intro hc))
  exact QQ.end_ rfl () rfl fun w h => h.to
theorem RUpto_no {e n : Int} [h : FindBk L R 91 [.string u, .int .i64 e] L'] (he : e ≠ 0) : Tr Try.prog 39 #[.pointer (some ⟨R, 0, none⟩), .int .i64 n] (SL w0 I L) (fun _ : Unit => .int .i64 0) (fun _ => SL w0 I L) := by
  refine Tr.intro Try.func39 rfl Try.ntmps39 rfl ?_
  repeat' (first | ((first | refine WLA.m rfl rfl ?_ ?_ | refine WLA.st rfl ?_ ?_ | refine WLA.x rfl rfl ?_ (fun x => ?_) | refine WLA.x0 rfl ?_ (fun x => ?_)); first | exact trivial | exact rfl | assumption | omega | (refine ⟨?_, ?_⟩ <;> omega) | (simp only [Room, List.length_set, List.length_append, List.length_cons, List.length_nil, List.length_replicate]; omega) | decide | skip) | (refine Stp.go ?_) | (refine WPA.ifT ?_) | (refine WPA.ifF ?_) | ((first | refine WPA.dec ?_); first | refine .inl ⟨by first | assumption | omega | with_reducible rfl | (refine fun h => h ?_; first | assumption | with_reducible rfl) | (simp only [List.length_append, List.length_cons, List.length_nil, List.length_set] <;> omega) | decide, ?_⟩ | refine .inr ⟨by first | assumption | omega | with_reducible rfl | (refine fun h => h ?_; first | assumption | with_reducible rfl) | (simp only [List.length_append, List.length_cons, List.length_nil, List.length_set] <;> omega) | decide, ?_⟩) | ((first | refine WPA.ifBt ?_ ?_ | refine WPA.ifBnf ?_ ?_); assumption) | ((first | refine WPA.ifBnt ?_ ?_ | refine WPA.ifBf ?_ ?_); assumption) | ((first | refine WPA.ifs ?_ ?_ | refine WPA.ifB ?_ ?_) <;> intro hc))
  exact QQ.end_ rfl () rfl fun w h => h.to
theorem RUpto_bad [h : FindBk L R 91 [.string u, .int .i64 0] L'] (hu : uptR u = none) : Tr Try.prog 39 #[.pointer (some ⟨R, 0, none⟩), .int .i64 1099511627776] (SL w0 I L) (fun _ : Unit => .int .i64 0) (fun _ => SL w0 I (Bk R 91 [.string u, .int .i64 (uptE u)] :: L')) := by
  refine Tr.at h.out ?_
  refine Tr.intro Try.func39 rfl Try.ntmps39 rfl ?_
  have hne := uptE_ne hu
  unfold uptR at hu
  unfold uptE at hne ⊢
  generalize hq : numR u = q at *
  obtain ⟨v, m, e2⟩ := q
  dsimp only at hu hne ⊢
  by_cases h1 : e2 = 0
  · subst h1
    have h2 : 1099511627776 < v := by
      by_cases h2 : v ≤ 1099511627776
      · rw [if_pos ⟨rfl, h2⟩] at hu; cases hu
      · omega
    rw [if_pos ⟨rfl, h2⟩]
    have h2' : (1099511627776 : Int) < (v : Int) := by omega
    repeat' (first | ((rw [hq])) | ((first | refine WLA.m rfl rfl ?_ ?_ | refine WLA.st rfl ?_ ?_ | refine WLA.x rfl rfl ?_ (fun x => ?_) | refine WLA.x0 rfl ?_ (fun x => ?_)); first | exact trivial | exact rfl | assumption | omega | (refine ⟨?_, ?_⟩ <;> omega) | (simp only [Room, List.length_set, List.length_append, List.length_cons, List.length_nil, List.length_replicate]; omega) | decide | skip) | (refine Stp.go ?_) | (guard_target =~ WLA _ _ _ _ _ (⟨_, .call ⟨.value (.func 61), _, _⟩, _, _, _, _⟩ :: _) _ _; first | (refine WLA.call rfl rfl (First_tr) ?_; rintro ⟨⟩) | (refine WLA.call0 rfl (First_tr) ?_; rintro ⟨⟩)) | (refine WPA.ifT ?_) | (refine WPA.ifF ?_) | (refine WLA.no rfl rfl ?_) | ((first | refine WPA.dec ?_ | ((fail_if_success (guard_target =~ WLA _ _ _ _ _ _ (put1 _ _ (.bool true)) _)); (fail_if_success (guard_target =~ WLA _ _ _ _ _ _ (put1 _ _ (.bool false)) _)); refine WLA.dec rfl rfl ?_) | refine WLA.pk ?_); first | refine .inl ⟨by first | assumption | omega | with_reducible rfl | (refine fun h => h ?_; first | assumption | with_reducible rfl) | (simp only [List.length_append, List.length_cons, List.length_nil, List.length_set] <;> omega) | decide, ?_⟩ | refine .inr ⟨by first | assumption | omega | with_reducible rfl | (refine fun h => h ?_; first | assumption | with_reducible rfl) | (simp only [List.length_append, List.length_cons, List.length_nil, List.length_set] <;> omega) | decide, ?_⟩) | ((first | refine WPA.ifBt ?_ ?_ | refine WPA.ifBnf ?_ ?_); assumption) | ((first | refine WPA.ifBnt ?_ ?_ | refine WPA.ifBf ?_ ?_); assumption) | ((first | refine WPA.ifs ?_ ?_ | refine WPA.ifB ?_ ?_) <;> intro hc) | ((fail_if_success (guard_target =~ WLA _ _ _ _ _ _ (put1 _ _ (.bool true)) _)); (fail_if_success (guard_target =~ WLA _ _ _ _ _ _ (put1 _ _ (.bool false)) _)); (first | refine WLA.both rfl rfl ?_ ?_ | refine WLA.bothB rfl rfl ?_ ?_) <;> intro hg))
    exact QQ.end_ rfl () rfl fun w h => h.to
  · rw [if_neg (fun h => h1 h.1)]
    repeat' (first | ((rw [hq])) | ((first | refine WLA.m rfl rfl ?_ ?_ | refine WLA.st rfl ?_ ?_ | refine WLA.x rfl rfl ?_ (fun x => ?_) | refine WLA.x0 rfl ?_ (fun x => ?_)); first | exact trivial | exact rfl | assumption | omega | (refine ⟨?_, ?_⟩ <;> omega) | (simp only [Room, List.length_set, List.length_append, List.length_cons, List.length_nil, List.length_replicate]; omega) | decide | skip) | (refine Stp.go ?_) | (guard_target =~ WLA _ _ _ _ _ (⟨_, .call ⟨.value (.func 61), _, _⟩, _, _, _, _⟩ :: _) _ _; first | (refine WLA.call rfl rfl (First_tr) ?_; rintro ⟨⟩) | (refine WLA.call0 rfl (First_tr) ?_; rintro ⟨⟩)) | (refine WPA.ifT ?_) | (refine WPA.ifF ?_) | (refine WLA.no rfl rfl ?_) | ((first | refine WPA.dec ?_ | ((fail_if_success (guard_target =~ WLA _ _ _ _ _ _ (put1 _ _ (.bool true)) _)); (fail_if_success (guard_target =~ WLA _ _ _ _ _ _ (put1 _ _ (.bool false)) _)); refine WLA.dec rfl rfl ?_) | refine WLA.pk ?_); first | refine .inl ⟨by first | assumption | omega | with_reducible rfl | (refine fun h => h ?_; first | assumption | with_reducible rfl) | (simp only [List.length_append, List.length_cons, List.length_nil, List.length_set] <;> omega) | decide, ?_⟩ | refine .inr ⟨by first | assumption | omega | with_reducible rfl | (refine fun h => h ?_; first | assumption | with_reducible rfl) | (simp only [List.length_append, List.length_cons, List.length_nil, List.length_set] <;> omega) | decide, ?_⟩) | ((first | refine WPA.ifBt ?_ ?_ | refine WPA.ifBnf ?_ ?_); assumption) | ((first | refine WPA.ifBnt ?_ ?_ | refine WPA.ifBf ?_ ?_); assumption) | ((first | refine WPA.ifs ?_ ?_ | refine WPA.ifB ?_ ?_) <;> intro hc) | ((fail_if_success (guard_target =~ WLA _ _ _ _ _ _ (put1 _ _ (.bool true)) _)); (fail_if_success (guard_target =~ WLA _ _ _ _ _ _ (put1 _ _ (.bool false)) _)); (first | refine WLA.both rfl rfl ?_ ?_ | refine WLA.bothB rfl rfl ?_ ?_) <;> intro hg))
    exact QQ.end_ rfl () rfl fun w h => h.to
theorem RUpto_tr {v m : Nat} [h : FindBk L R 91 [.string u, .int .i64 0] L'] (hu : uptR u = some (v, m)) : Tr Try.prog 39 #[.pointer (some ⟨R, 0, none⟩), .int .i64 1099511627776] (SL w0 I L) (fun _ : Unit => .int .i64 v) (fun _ => SL w0 I (Bk R 91 [.string (u.extract m u.size), .int .i64 0] :: L')) := by
  refine Tr.at h.out ?_
  refine Tr.intro Try.func39 rfl Try.ntmps39 rfl ?_
  unfold uptR at hu
  by_cases h1 : (numR u).2.2 = 0 ∧ (numR u).1 ≤ 1099511627776
  · rw [if_pos h1] at hu
    have hlen := numR_len h1.1
    have hv : numR u = (v, m, 0) := by
      have e := Option.some.inj hu
      have e1 : (numR u).1 = v := congrArg Prod.fst e
      have e2 : (numR u).2.1 = m := congrArg Prod.snd e
      rw [← e1, ← e2, ← h1.1]
    rw [hv] at hlen h1
    dsimp only at hlen h1
    have hv1 : (numR u).1 = v := by rw [hv]
    have hv2 : (numR u).2.1 = m := by rw [hv]
    have hv3 : (numR u).2.2 = 0 := by rw [hv]
    have h2' : ¬ (1099511627776 : Int) < (v : Int) := by omega
    have h3 : (0 : Int) ≤ m ∧ (m : Int) ≤ u.size := by omega
    have hb : (-9223372036854775808 : Int) ≤ v ∧ (v : Int) ≤ 9223372036854775807 := by omega
    have hx1 : u.extract (m : Int).toNat (u.size : Int).toNat = u.extract m u.size := rfl
    repeat' (first | ((rw [hv1, hv2, hv3])) | ((rw [hx1])) | ((first | refine WLA.m rfl rfl ?_ ?_ | refine WLA.st rfl ?_ ?_ | refine WLA.x rfl rfl ?_ (fun x => ?_) | refine WLA.x0 rfl ?_ (fun x => ?_)); first | exact trivial | exact rfl | assumption | omega | (refine ⟨?_, ?_⟩ <;> omega) | (simp only [Room, List.length_set, List.length_append, List.length_cons, List.length_nil, List.length_replicate]; omega) | decide | skip) | (refine Stp.go ?_) | (guard_target =~ WLA _ _ _ _ _ (⟨_, .call ⟨.value (.func 61), _, _⟩, _, _, _, _⟩ :: _) _ _; first | (refine WLA.call rfl rfl (First_tr) ?_; rintro ⟨⟩) | (refine WLA.call0 rfl (First_tr) ?_; rintro ⟨⟩)) | (refine WPA.ifT ?_) | (refine WPA.ifF ?_) | (refine WLA.no rfl rfl ?_) | ((first | refine WPA.dec ?_ | ((fail_if_success (guard_target =~ WLA _ _ _ _ _ _ (put1 _ _ (.bool true)) _)); (fail_if_success (guard_target =~ WLA _ _ _ _ _ _ (put1 _ _ (.bool false)) _)); refine WLA.dec rfl rfl ?_) | refine WLA.pk ?_); first | refine .inl ⟨by first | assumption | omega | with_reducible rfl | (refine fun h => h ?_; first | assumption | with_reducible rfl) | (simp only [List.length_append, List.length_cons, List.length_nil, List.length_set] <;> omega) | decide, ?_⟩ | refine .inr ⟨by first | assumption | omega | with_reducible rfl | (refine fun h => h ?_; first | assumption | with_reducible rfl) | (simp only [List.length_append, List.length_cons, List.length_nil, List.length_set] <;> omega) | decide, ?_⟩) | ((first | refine WPA.ifBt ?_ ?_ | refine WPA.ifBnf ?_ ?_); assumption) | ((first | refine WPA.ifBnt ?_ ?_ | refine WPA.ifBf ?_ ?_); assumption) | ((first | refine WPA.ifs ?_ ?_ | refine WPA.ifB ?_ ?_) <;> intro hc) | ((fail_if_success (guard_target =~ WLA _ _ _ _ _ _ (put1 _ _ (.bool true)) _)); (fail_if_success (guard_target =~ WLA _ _ _ _ _ _ (put1 _ _ (.bool false)) _)); (first | refine WLA.both rfl rfl ?_ ?_ | refine WLA.bothB rfl rfl ?_ ?_) <;> intro hg))
    exact QQ.end_ rfl () rfl fun w h => h.to
  · rw [if_neg h1] at hu; cases hu
end
end
end Go.Proofs.Ytbekjbgaenjbfaa
