/- Texts that TallyStats_law leans on, part 15. Conditions: none. -/
import Derived.Test.YtamnobjdgjbmbaaGreatQs14
namespace Go.Proofs.YtamnobjdgjbmbaaGreat
open Go Go.Fw Go.RowKit
set_option linter.unusedVariables false
set_option linter.unusedSimpArgs false
set_option maxRecDepth 100000
set_option maxHeartbeats 16000000
set_option synthInstance.maxHeartbeats 200000
set_option synthInstance.maxSize 100000
attribute [local irreducible] WPA WLA WDA WDQ WDE QQ seqQ blockQ loopQ fnQ OpP OpT Tr TrP SL SLd OwnS LitS Bk BkE Ob
attribute [local irreducible] vS keyS parL RowH CtsH mrg
instance {x : SV} {ms : List Ct} : Opn (CtsH x ms) { qs : List Pe // qs.map Prod.snd = ms.map Prod.snd } (fun q L => OwnS 84 x q.1 :: RowH 3 (q.1.map Prod.fst) (ms.map Prod.fst) :: L) := ⟨fun w0 I L w h => by
  unfold CtsH at h
  obtain ⟨q, h⟩ := h.exH
  obtain ⟨hf, h⟩ := h.pureH
  exact ⟨⟨q, hf⟩, Ent.unstar.sl h⟩⟩
theorem CtsH.n {x : SV} {ms : List Ct} {w0 : World} {I : Foot} {L : List HP} {w : World} (h : SL w0 I (CtsH x ms :: L) w) : x.n = ms.length := by
  obtain ⟨R, hR, h2⟩ := h.freeze
  exact ((LstI.ofCts hR).sub (J' := R ++ I) inferInstance).len h2
def RunsH (o : Int) (r : SV) (lp : List PR) : HP := exH fun res : List RE => pureH (res.length = lp.length ∧ ∀ i : Nat, i < lp.length → (at_ res (i : Int)).1 = o ∧ (at_ res (i : Int)).2.1 = ((lp.getD i ([], [])).2.length : Nat)) (star (OwnS 44 r res) (RowH 3 (res.map fun e => e.2.2) (lp.map Prod.fst)))
abbrev RunsOk (o : Int) (res : List RE) (lp : List PR) : Prop := res.length = lp.length ∧ ∀ i : Nat, i < lp.length → (at_ res (i : Int)).1 = o ∧ (at_ res (i : Int)).2.1 = ((lp.getD i ([], [])).2.length : Nat)
instance {o : Int} {r : SV} {lp : List PR} : Opn (RunsH o r lp) { res : List RE // RunsOk o res lp } (fun q L => OwnS 44 r q.1 :: RowH 3 (q.1.map fun e => e.2.2) (lp.map Prod.fst) :: L) := ⟨fun w0 I L w h => by
  unfold RunsH at h
  obtain ⟨q, h⟩ := h.exH
  obtain ⟨hf, h⟩ := h.pureH
  exact ⟨⟨q, hf⟩, Ent.unstar.sl h⟩⟩
theorem RunsH.fold {o : Int} {r : SV} {res : List RE} {lp : List PR} {L : List HP} (h : RunsOk o res lp) : Ent (OwnS 44 r res :: RowH 3 (res.map fun e => e.2.2) (lp.map Prod.fst) :: L) (RunsH o r lp :: L) := Ent.ex res (Ent.pure h (Ent.star Ent.refl))
theorem RunsOk.snoc {o : Int} {res : List RE} {lp : List PR} {e : RE} {r : PR} (h : RunsOk o res lp) (h1 : e.1 = o) (h2 : e.2.1 = (r.2.length : Nat)) : RunsOk o (res ++ [e]) (lp ++ [r]) := by
  refine ⟨by rw [List.length_append, List.length_append, h.1]; rfl, fun i hi => ?_⟩
  rw [List.length_append, List.length_singleton] at hi
  have hl := h.1
  by_cases e1 : i < lp.length
  · have := h.2 i e1
    rw [at_nat _ i (by omega)] at this
    rw [at_nat _ i (by rw [List.length_append]; omega), List.getElem_append_left (by omega), List.getD_eq_getElem?_getD, List.getElem?_append_left e1, ← List.getD_eq_getElem?_getD]
    exact this
  · have e2 : i = lp.length := by omega
    subst e2
    rw [at_nat _ _ (by rw [List.length_append, List.length_singleton]; omega), List.getElem_append_right (by omega), List.getD_eq_getElem?_getD, List.getElem?_append_right (Nat.le_refl _), Nat.sub_self]
    simp [hl, h1, h2]
theorem RunsOk.nil {o : Int} : RunsOk o [] [] := ⟨rfl, fun i hi => absurd hi (Nat.not_lt_zero i)⟩
theorem RunsH.nil {o : Int} {L : List HP} : Ent L (RunsH o SV.nil [] :: L) := (Ent.ownNil (α := RE) (t := 44) (RowH.nil (α := Int) (e := 3))).trans (RunsH.fold (res := []) (lp := []) RunsOk.nil)
theorem RunsH.freeze {o : Int} {r : SV} {lp : List PR} {R : Foot} (h : RunsH o r lp R) : ∃ res : List RE, SlI R r RE inferInstance res ∧ Rows (PRunI R o) res lp := by
  unfold RunsH at h
  obtain ⟨res, hok, R1, R2, h1, h2, rfl⟩ := h
  have s1 : SubI (R1 ++ R2) R1 := ⟨fun x hx => List.mem_append_left _ hx⟩
  have s2 : SubI (R1 ++ R2) R2 := ⟨fun x hx => List.mem_append_right _ hx⟩
  refine ⟨res, (SlI.ofOwn h1).sub, hok.1, fun i hi => ⟨hok.2 i hi, ?_⟩⟩
  have hl := hok.1
  have h3 := RowH.frozen h2 i (by rw [List.length_map]; omega) (by rw [List.length_map]; exact hi)
  have e1 : (res.map fun e => e.2.2).getD i SV.nil = (at_ res (i : Int)).2.2 := by rw [List.getD_eq_getElem?_getD, List.getElem?_map, List.getElem?_eq_getElem (by omega), at_nat res i (by omega)]; rfl
  have e2 : (lp.map Prod.fst).getD i [] = (lp.getD i ([], [])).1 := by rw [List.getD_eq_getElem?_getD, List.getD_eq_getElem?_getD, List.getElem?_map, List.getElem?_eq_getElem hi]; rfl
  rw [e1, e2] at h3
  exact h3.sub
def CntH (K : Nat) (y : Nat × Int × List (List Int) × List PR × Int) : HP := exH fun q : SV × SV => star (Bk K 127 [.pointer (some ⟨y.1, 0, none⟩), .int .i64 y.2.1, .slice q.1.a q.1.n q.1.cap, .slice q.2.a q.2.n q.2.cap, .int .i64 y.2.2.2.2]) (star (CtsH q.1 (y.2.2.1.map one)) (RunsH y.2.1 q.2 y.2.2.2.1))
theorem CntH.fold {K S : Nat} {o n : Int} {held : List (List Int)} {lp : List PR} {h r : SV} {L : List HP} : Ent (Bk K 127 [.pointer (some ⟨S, 0, none⟩), .int .i64 o, .slice h.a h.n h.cap, .slice r.a r.n r.cap, .int .i64 n] :: CtsH h (held.map one) :: RunsH o r lp :: L) (CntH K (S, o, held, lp, n) :: L) :=
  Ent.ex (h, r) (Ent.star (Ent.cons (Ent.star Ent.refl)))
instance {K S : Nat} {o n : Int} {held : List (List Int)} {lp : List PR} : Opn (CntH K (S, o, held, lp, n)) (SV × SV) (fun q L => Bk K 127 [.pointer (some ⟨S, 0, none⟩), .int .i64 o, .slice q.1.a q.1.n q.1.cap, .slice q.2.a q.2.n q.2.cap, .int .i64 n] :: CtsH q.1 (held.map one) :: RunsH o q.2 lp :: L) := ⟨fun w0 I L w h => by
  unfold CntH at h
  obtain ⟨q, h⟩ := h.exH
  exact ⟨q, (Ent.unstar.trans (Ent.cons Ent.unstar)).sl h⟩⟩
section
variable {L L' L1 L2 : List HP} {w0 : World} {I : Foot} {S : Nat}
theorem gSumO {x : SV} {ms : List Ct} [h : FindK L CtsH x ms L'] (hl : ∀ m ∈ ms, m.1.length ≤ 1000000) (hn : ms.length ≤ 100000) :
    Tr Tryz.prog 92 #[.slice x.a x.n x.cap] (SL w0 I L) (fun y : SV => .slice y.a y.n y.cap) (fun y => SL w0 I (CtsH y (mrg ms) :: CtsH x ms :: L')) := by
  refine Tr.at h.out (Tr.mk fun w hw => ?_)
  obtain ⟨R, hR, h3, h4⟩ := hw.borrow
  obtain ⟨g1, g2, g3⟩ := ((LstI.ofCts hR).sub (J' := R ++ I) inferInstance).good h3
  have hp : ∀ p ∈ rd Pe (R ++ I) x, (rd Int (R ++ I) p.1).length ≤ 1000000 := fun p hp => hl _ (by rw [← g3]; exact List.mem_map.2 ⟨p, hp, rfl⟩)
  have hlen := congrArg List.length g3
  rw [List.length_map] at hlen
  have e : (rd Pe (R ++ I) x).map (moP (rd Int (R ++ I))) = ms := g3
  have := gSum_tr (w0 := w0) (L := L') (s := x) (kg := rd Int (R ++ I)) g2 hp (by omega)
  rw [e] at this
  refine (this.ap h3).mono ?_
  rintro e w' ⟨y, h5, h6, h7⟩
  refine ⟨y.1, h5, ?_⟩
  have h8 : SL w0 (R ++ I) (CtsH y.1 (mrg ms) :: L') w' := by unfold mrg; exact (CtsH.fold h6).sl h7
  exact Ent.swap.sl (h4 _ _ h8)
theorem runWriteO {x : SV} {ms : List Ct} {m m' : BS} {o e a b : Int} {ids : List Int} [h1 : FindK L CtsH x ms L1] [h2 : FindK L1 StoreR S m L2] (ok : m.Ok) (hl : ∀ m ∈ ms, m.1.length ≤ 1000) (hn : ms.length ≤ 1000000) (he : e = errW o ms m) (hx : WrX o ms m e a b m' ids) :
    Tr Tryz.prog 22 #[.pointer (some ⟨S, 0, none⟩), .int .i64 o, .slice x.a x.n x.cap] (SL w0 I L) (fun r : SV => .tuple #[.agg #[.int .i64 a, .int .i64 b, .slice r.a r.n r.cap], .int .i64 e]) (fun r => SL w0 I (OwnS 3 r ids :: StoreR S m' :: CtsH x ms :: L2)) := by
  refine Tr.at (h1.out.trans (Ent.cons h2.out)) (Tr.mk fun w hw => ?_)
  obtain ⟨R, hR, h3, h4⟩ := hw.borrow
  have hL := (LstI.ofCts hR).sub (J' := R ++ I) inferInstance
  refine ((runWrite_trI (w0 := w0) (L := StoreR S m :: L2) ok hL hl hn he hx).ap h3).mono ?_
  rintro u w' ⟨r, h5, h6⟩
  exact ⟨r, h5, (Ent.swap.trans (Ent.cons Ent.swap)).sl (h4 _ _ h6)⟩
theorem flush_none {K : Nat} {o n : Int} {lp : List PR} [h : FindK L CntH K (S, o, [], lp, n) L1] :
    Tr Tryz.prog 60 #[.pointer (some ⟨K, 0, none⟩)] (SL w0 I L) (fun _ : Unit => .int .i64 0) (fun _ => SL w0 I (CntH K (S, o, [], lp, n) :: L1)) := by
  refine Tr.at h.out (Tr.opn ?_)
  rintro ⟨hh, r⟩
  dsimp only
  refine Tr.intro Tryz.func60 rfl Tryz.ntmps60 rfl ?_
  refine WPA.know (φ := hh.n = 0) (fun w hw => CtsH.n (Ent.swap.sl hw)) fun hn => ?_
  have hn0 : (hh.n : Int) = 0 := by omega
  repeat' (first | ((first | refine WLA.m rfl rfl ?_ ?_ | refine WLA.st rfl ?_ ?_ | refine WLA.x rfl rfl ?_ (fun x => ?_) | refine WLA.x0 rfl ?_ (fun x => ?_)); first | exact trivial | exact rfl | assumption | omega | (refine ⟨?_, ?_⟩ <;> omega) | (simp only [Room, lenS]; omega) | decide | skip) | (refine Stp.go ?_) | (refine WPA.ifT ?_) | (refine WPA.ifF ?_) | ((first | refine WPA.dec ?_); first | refine .inl ⟨by first | assumption | omega | with_reducible rfl | (refine fun h => h ?_; first | assumption | with_reducible rfl) | (simp only [lenS] <;> omega) | decide, ?_⟩ | refine .inr ⟨by first | assumption | omega | with_reducible rfl | (refine fun h => h ?_; first | assumption | with_reducible rfl) | (simp only [lenS] <;> omega) | decide, ?_⟩) | ((first | refine WPA.ifBt ?_ ?_ | refine WPA.ifBnf ?_ ?_); assumption) | ((first | refine WPA.ifBnt ?_ ?_ | refine WPA.ifBf ?_ ?_); assumption) | ((first | refine WPA.ifs ?_ ?_ | refine WPA.ifB ?_ ?_) <;> intro hc))
  exact QQ.end_ rfl () rfl fun w h => (CntH.fold (h := hh) (r := r)).sl h.to
theorem flush_tr {K : Nat} {m m1 : BS} {o n : Int} {held : List (List Int)} {lp : List PR} {ids : List Int} {M : List Ct} [h : FindK L CntH K (S, o, held, lp, n) L1] [h2 : FindK L1 StoreR S m L2] (ok : m.Ok) (h0 : held ≠ []) (hl : ∀ g ∈ held, g.length ≤ 8) (hn : held.length ≤ 300) (hlp : lp.length ≤ 1000) (hM : mrg (held.map one) = M)
    (hw : wrong o M = 0 ∧ errW o M m = 0) (hf : fillN (byS M) m [] 0 = (m1, ids)) :
    Tr Tryz.prog 60 #[.pointer (some ⟨K, 0, none⟩)] (SL w0 I L) (fun _ : Unit => .int .i64 0) (fun _ => SL w0 I (CntH K (S, o, [], lp ++ [(ids, M)], n) :: StoreR S m1 :: L2)) := by
  refine Tr.at (h.out.trans (Ent.cons h2.out)) (Tr.opn ?_)
  rintro ⟨hh, r⟩
  dsimp only
  refine Tr.intro Tryz.func60 rfl Tryz.ntmps60 rfl ?_
  refine WPA.know (φ := hh.n = (held.map one).length) (fun w hw => CtsH.n (Ent.swap.sl hw)) fun hnn => ?_
  rw [List.length_map] at hnn
  have hpos := List.length_pos_iff.2 h0
  have hn0 : ¬ (hh.n : Int) = 0 := by omega
  have hml : ∀ m ∈ held.map one, m.1.length ≤ 1000000 := fun m hm => by obtain ⟨g, hg, rfl⟩ := List.mem_map.1 hm; have := hl g hg; show g.length ≤ _; omega
  have hMl : M.length ≤ 300 := by have := mrg_len (held.map one); rw [hM, List.length_map] at this; omega
  have hM8 : ∀ m ∈ M, m.1.length ≤ 1000 := fun m hm => by
    rw [← hM] at hm
    obtain ⟨y, hy, e⟩ := mrg_key hm
    obtain ⟨g, hg, rfl⟩ := List.mem_map.1 hy
    have := hl g hg
    rw [e]; show g.length ≤ _; omega
  have hsum : ∀ {L L' : List HP} [FindK L CtsH hh (held.map one) L'], Tr Tryz.prog 92 #[.slice hh.a hh.n hh.cap] (SL w0 I L) (fun y : SV => .slice y.a y.n y.cap) (fun y => SL w0 I (CtsH y M :: CtsH hh (held.map one) :: L')) := fun {L L'} _ => by
    have := gSumO (w0 := w0) (I := I) (L := L) (L' := L') (x := hh) hml (by rw [List.length_map]; omega)
    rw [hM] at this
    exact this
  have hx : WrX o M m 0 o M.length m1 ids := .inr ⟨rfl, rfl, rfl, by rw [hf], by rw [hf]⟩
  generalize held.map one = hm at hsum
  repeat' ((fail_if_success (guard_target =~ WPA _ _ _ (.region 6 _ _) _ _ _)); first | ((first | refine WLA.m rfl rfl ?_ ?_ | refine WDQ.m rfl rfl ?_ ?_ | refine WDP.m rfl rfl ?_ ?_ | refine WLA.st rfl ?_ ?_ | refine WLA.x rfl rfl ?_ (fun x => ?_) | refine WLA.x0 rfl ?_ (fun x => ?_) | refine WDW.x rfl rfl ?_ (fun x => ?_) | refine WDW.st rfl ?_ ?_); first | exact trivial | exact rfl | assumption | omega | (refine ⟨?_, ?_⟩ <;> omega) | (simp only [Room, lenS]; omega) | decide | skip) | (refine Stp.go ?_) | (guard_target =~ WLA _ _ _ _ _ (⟨_, .call ⟨.value (.func 92), _, _⟩, _, _, _, _⟩ :: _) _ _; refine WLA.call rfl rfl (hsum) ?_; rintro y) | (guard_target =~ WLA _ _ _ _ _ (⟨_, .call ⟨.value (.func 22), _, _⟩, _, _, _, _⟩ :: _) _ _; refine WLA.call rfl rfl (runWriteO ok hM8 (by omega) hw.2.symm hx) ?_; rintro nr) | (refine WPA.ifT ?_) | (refine WPA.ifF ?_) | ((first | refine WPA.dec ?_); first | refine .inl ⟨by first | assumption | omega | with_reducible rfl | (refine fun h => h ?_; first | assumption | with_reducible rfl) | (simp only [lenS] <;> omega) | decide, ?_⟩ | refine .inr ⟨by first | assumption | omega | with_reducible rfl | (refine fun h => h ?_; first | assumption | with_reducible rfl) | (simp only [lenS] <;> omega) | decide, ?_⟩) | ((first | refine WPA.ifBt ?_ ?_ | refine WPA.ifBnf ?_ ?_); assumption) | ((first | refine WPA.ifBnt ?_ ?_ | refine WPA.ifBf ?_ ?_); assumption) | ((first | refine WPA.ifs ?_ ?_ | refine WPA.ifB ?_ ?_) <;> intro hc) | (guard_target =~ WPA _ _ _ (.region 3 _ true) _ _ _; refine WPA.drawT 19 (.p 0 (.p 1 (.p 2 (.q 3 (.p 4 (.p 5 (.p 6 (.q 7 (.p 8 (.p 9 (.p 10 (.q 11 (.b false 12 (.b true 13 (.p 14 (.p 15 (.p 16 (.e 17 (.e 18 .fin))))) false 17 (.w 13 (.p 14 (.p 15 (.p 16 (.e 18 .fin)))))) false 17 (.e 12 (.w 13 (.p 14 (.p 15 (.p 16 (.e 18 .fin))))))))))))))))))) mixed ?_ ?_; kernel_rfl) | (refine WDA.finish (tl := [⟨_, _, _, _, _, _⟩]) rfl ?_) | (refine WDQ.see rfl ?_) | (refine WDP.see rfl ?_) | (refine WDW.see rfl ?_) | (first | (refine WDA.two rfl rfl ?_ ?_) | (refine WDA.twoL rfl rfl ?_ ?_) | (refine WDA.twoR rfl rfl ?_ ?_) | (refine WDA.twoW rfl rfl ?_ ?_)) | (refine WDE.see rfl ?_) | (refine WDE.alloc rfl rfl (fun w h => h) (fun x => ?_)) | (refine WDE.stE rfl ?_) | (refine WDE.x rfl rfl ?_ ?_ (fun x => ?_); rotate_left 1; (intro x w h; first | exact h | exact Ent.drop1.sl h | exact SL.unI h | exact SL.to h); rotate_left 1; first | exact trivial | exact rfl | assumption | omega | (refine ⟨?_, ?_⟩ <;> omega) | (simp only [Room, lenS]; omega) | decide | skip) | (guard_target =~ WDE _ _ _ _ _ _ _ ⟨_, .call ⟨.value (.func 92), _, _⟩, _, _, _, _⟩ _ _ _; refine WDE.call rfl rfl (hsum) ?_ ?_; (intro x w h; first | exact h | exact Ent.drop1.sl h | exact SL.unI h | exact SL.to h); rintro y) | (guard_target =~ WDW _ _ _ _ _ _ _ ⟨_, .call ⟨.value (.func 92), _, _⟩, _, _, _, _⟩ _ _ _; refine WDW.call rfl rfl (hsum) ?_; rintro y) | (guard_target =~ WDE _ _ _ _ _ _ _ ⟨_, .call ⟨.value (.func 22), _, _⟩, _, _, _, _⟩ _ _ _; refine WDE.call rfl rfl (runWriteO ok hM8 (by omega) hw.2.symm hx) ?_ ?_; (intro x w h; first | exact h | exact Ent.drop1.sl h | exact SL.unI h | exact SL.to h); rintro nr) | (guard_target =~ WDW _ _ _ _ _ _ _ ⟨_, .call ⟨.value (.func 22), _, _⟩, _, _, _, _⟩ _ _ _; refine WDW.call rfl rfl (runWriteO ok hM8 (by omega) hw.2.symm hx) ?_; rintro nr))
  all_goals
    refine WPA.ent (EntC.out (L' := RunsH o r lp :: OwnS 3 nr ids :: Bk x 44 [.int .i64 o, .int .i64 M.length, .slice nr.a nr.n nr.cap] :: CtsH hh hm :: Bk K 127 [.pointer (some ⟨S, 0, none⟩), .int .i64 o, .slice hh.a hh.n hh.cap, .slice r.a r.n r.cap, .int .i64 n] :: StoreR S m1 :: L2)) ?_
    refine WPA.opn ?_
    rintro ⟨res, hok⟩
    dsimp only
    have hrl := hok.1
    have hroom : Room (res.length + 1) 40 := ⟨by omega, by omega⟩
    repeat' ((fail_if_success (guard_target =~ WPA _ _ _ (.region 7 _ _) _ _ _)); first | ((first | refine WLA.m rfl rfl ?_ ?_ | refine WDQ.m rfl rfl ?_ ?_ | refine WDP.m rfl rfl ?_ ?_ | refine WLA.st rfl ?_ ?_ | refine WLA.x rfl rfl ?_ (fun x => ?_) | refine WLA.x0 rfl ?_ (fun x => ?_) | refine WDW.x rfl rfl ?_ (fun x => ?_) | refine WDW.st rfl ?_ ?_); first | exact trivial | exact rfl | assumption | omega | (refine ⟨?_, ?_⟩ <;> omega) | (simp only [Room, lenS]; omega) | decide | skip) | (refine Stp.go ?_) | (refine WPA.ifT ?_) | (refine WPA.ifF ?_) | ((first | refine WPA.dec ?_); first | refine .inl ⟨by first | assumption | omega | with_reducible rfl | (refine fun h => h ?_; first | assumption | with_reducible rfl) | (simp only [lenS] <;> omega) | decide, ?_⟩ | refine .inr ⟨by first | assumption | omega | with_reducible rfl | (refine fun h => h ?_; first | assumption | with_reducible rfl) | (simp only [lenS] <;> omega) | decide, ?_⟩) | ((first | refine WPA.ifBt ?_ ?_ | refine WPA.ifBnf ?_ ?_); assumption) | ((first | refine WPA.ifBnt ?_ ?_ | refine WPA.ifBf ?_ ?_); assumption) | ((first | refine WPA.ifs ?_ ?_ | refine WPA.ifB ?_ ?_) <;> intro hc) | (guard_target =~ WPA _ _ _ (.region 6 _ true) _ _ _; refine WPA.drawT 8 (.p 0 (.p 1 (.p 2 (.p 3 (.q 4 (.q 5 (.e 6 (.w 7 .fin)))))))) mixed ?_ ?_; kernel_rfl) | (refine WDA.finish (tl := [⟨_, _, _, _, _, _⟩, ⟨_, _, _, _, _, _⟩, ⟨_, _, _, _, _, _⟩]) rfl ?_) | (refine WDQ.see rfl ?_) | (refine WDP.see rfl ?_) | (refine WDW.see rfl ?_) | (refine WDE.see rfl ?_) | (refine WDE.alloc rfl rfl (fun w h => h) (fun x => ?_)) | (refine WDE.stE rfl ?_) | (refine WDE.x rfl rfl ?_ ?_ (fun x => ?_); rotate_left 1; (intro x w h; first | exact h | exact Ent.drop1.sl h | exact SL.unI h | exact SL.to h); rotate_left 1; first | exact trivial | exact rfl | assumption | omega | (refine ⟨?_, ?_⟩ <;> omega) | (simp only [Room, lenS]; omega) | decide | skip))
    all_goals
      refine WPA.ent (EntC.out (L' := CtsH hh hm :: OwnS 44 x (res ++ [(o, (M.length : Int), nr)]) :: RowH 3 (res.map fun e => e.2.2) (lp.map Prod.fst) :: OwnS 3 nr ids :: Bk K 127 [.pointer (some ⟨S, 0, none⟩), .int .i64 o, .slice hh.a hh.n hh.cap, .slice x.a x.n x.cap, .int .i64 n] :: StoreR S m1 :: L2)) ?_
      refine WPA.opn ?_
      rintro ⟨qs, hqs⟩
      dsimp only
      have hz : ((0 : Int) ≤ 0 ∧ (0 : Int) ≤ 0) ∧ (0 : Int) ≤ qs.length := by omega
      repeat' (first | ((first | refine WLA.m rfl rfl ?_ ?_ | refine WLA.st rfl ?_ ?_ | refine WLA.x rfl rfl ?_ (fun x => ?_) | refine WLA.x0 rfl ?_ (fun x => ?_)); first | exact trivial | exact rfl | assumption | omega | (refine ⟨?_, ?_⟩ <;> omega) | (simp only [Room, lenS]; omega) | decide | skip) | (refine Stp.go ?_) | (refine WPA.ifT ?_) | (refine WPA.ifF ?_) | ((first | refine WPA.dec ?_); first | refine .inl ⟨by first | assumption | omega | with_reducible rfl | (refine fun h => h ?_; first | assumption | with_reducible rfl) | (simp only [lenS] <;> omega) | decide, ?_⟩ | refine .inr ⟨by first | assumption | omega | with_reducible rfl | (refine fun h => h ?_; first | assumption | with_reducible rfl) | (simp only [lenS] <;> omega) | decide, ?_⟩) | ((first | refine WPA.ifBt ?_ ?_ | refine WPA.ifBnf ?_ ?_); assumption) | ((first | refine WPA.ifBnt ?_ ?_ | refine WPA.ifBf ?_ ?_); assumption) | ((first | refine WPA.ifs ?_ ?_ | refine WPA.ifB ?_ ?_) <;> intro hc))
      refine QQ.end_ rfl () rfl fun w h => ?_
      have h3 : SL w0 I (OwnS 84 hh qs :: OwnS 3 nr ids :: RowH 3 (res.map fun e => e.2.2) (lp.map Prod.fst) :: OwnS 44 x (res ++ [(o, (M.length : Int), nr)]) :: Bk K 127 [.pointer (some ⟨S, 0, none⟩), .int .i64 o, .slice (hh.cut 2 0 0).a (hh.cut 2 0 0).n (hh.cut 2 0 0).cap, .slice x.a x.n x.cap, .int .i64 n] :: StoreR S m1 :: L2) w := h.to
      have h4 := (Ent.ownCut (sz := 2) 0 ⟨by decide, by omega⟩).sl h3
      rw [show qs.take (Int.toNat 0) = [] from rfl] at h4
      have h5 := ((Ent.cons (RowH.snoc (by rw [List.length_map, List.length_map]; exact hrl))).sl h4)
      rw [show res.map (fun e => e.2.2) ++ [nr] = (res ++ [(o, (M.length : Int), nr)]).map (fun e => e.2.2) by rw [List.map_append]; rfl, show lp.map Prod.fst ++ [ids] = (lp ++ [(ids, M)]).map Prod.fst by rw [List.map_append]; rfl] at h5
      have h6 : SL w0 I (OwnS 44 x (res ++ [(o, (M.length : Int), nr)]) :: RowH 3 ((res ++ [(o, (M.length : Int), nr)]).map fun e => e.2.2) ((lp ++ [(ids, M)]).map Prod.fst) :: OwnS 84 (hh.cut 2 0 0) ([] : List Pe) :: Bk K 127 [.pointer (some ⟨S, 0, none⟩), .int .i64 o, .slice (hh.cut 2 0 0).a (hh.cut 2 0 0).n (hh.cut 2 0 0).cap, .slice x.a x.n x.cap, .int .i64 n] :: StoreR S m1 :: L2) w := h5.to
      have h7 := (RunsH.fold (hok.snoc (e := (o, (M.length : Int), nr)) (r := (ids, M)) rfl rfl)).sl h6
      have h8 : SL w0 I (OwnS 84 (hh.cut 2 0 0) ([] : List Pe) :: RunsH o x (lp ++ [(ids, M)]) :: Bk K 127 [.pointer (some ⟨S, 0, none⟩), .int .i64 o, .slice (hh.cut 2 0 0).a (hh.cut 2 0 0).n (hh.cut 2 0 0).cap, .slice x.a x.n x.cap, .int .i64 n] :: StoreR S m1 :: L2) w := h7.to
      have h9 := ((Ent.cons (RowH.nil (α := Int) (e := 3))).trans (CtsH.fold (qs := []) (ms := ([] : List (List Int)).map one) rfl)).sl h8
      exact (CntH.fold (h := hh.cut 2 0 0) (r := x)).sl h9.to
theorem flush_err {K : Nat} {m : BS} {o n e : Int} {held : List (List Int)} {lp : List PR} [h : FindK L CntH K (S, o, held, lp, n) L1] [h2 : FindK L1 StoreR S m L2] (ok : m.Ok) (h0 : held ≠ []) (hl : ∀ g ∈ held, g.length ≤ 8) (hn : held.length ≤ 300) (he : errW o (mrg (held.map one)) m = e) (he0 : e ≠ 0) :
    Tr Tryz.prog 60 #[.pointer (some ⟨K, 0, none⟩)] (SL w0 I L) (fun _ : Unit => .int .i64 e) (fun _ => SL w0 I (CntH K (S, o, held, lp, n) :: StoreR S m :: L2)) := by
  refine Tr.at (h.out.trans (Ent.cons h2.out)) (Tr.opn ?_)
  rintro ⟨hh, r⟩
  dsimp only
  refine Tr.intro Tryz.func60 rfl Tryz.ntmps60 rfl ?_
  refine WPA.know (φ := hh.n = (held.map one).length) (fun w hw => CtsH.n (Ent.swap.sl hw)) fun hnn => ?_
  rw [List.length_map] at hnn
  have hpos := List.length_pos_iff.2 h0
  have hn0 : ¬ (hh.n : Int) = 0 := by omega
  have hml : ∀ m ∈ held.map one, m.1.length ≤ 1000000 := fun m hm => by obtain ⟨g, hg, rfl⟩ := List.mem_map.1 hm; have := hl g hg; show g.length ≤ _; omega
  have hMl : (mrg (held.map one)).length ≤ 300 := by have := mrg_len (held.map one); rw [List.length_map] at this; omega
  have hM8 : ∀ m ∈ mrg (held.map one), m.1.length ≤ 1000 := fun m hm => by
    obtain ⟨y, hy, e⟩ := mrg_key hm
    obtain ⟨g, hg, rfl⟩ := List.mem_map.1 hy
    have := hl g hg
    rw [e]; show g.length ≤ _; omega
  have hsum : ∀ {L L' : List HP} [FindK L CtsH hh (held.map one) L'], Tr Tryz.prog 92 #[.slice hh.a hh.n hh.cap] (SL w0 I L) (fun y : SV => .slice y.a y.n y.cap) (fun y => SL w0 I (CtsH y (mrg (held.map one)) :: CtsH hh (held.map one) :: L')) := fun {L L'} _ =>
    gSumO hml (by rw [List.length_map]; omega)
  generalize mrg (held.map one) = M at hsum hMl hM8 he
  generalize hhm : held.map one = hm at hsum
  repeat' (first | ((first | refine WLA.m rfl rfl ?_ ?_ | refine WDQ.m rfl rfl ?_ ?_ | refine WDP.m rfl rfl ?_ ?_ | refine WLA.st rfl ?_ ?_ | refine WLA.x rfl rfl ?_ (fun x => ?_) | refine WLA.x0 rfl ?_ (fun x => ?_) | refine WDW.x rfl rfl ?_ (fun x => ?_) | refine WDW.st rfl ?_ ?_); first | exact trivial | exact rfl | assumption | omega | (refine ⟨?_, ?_⟩ <;> omega) | (simp only [Room, lenS]; omega) | decide | skip) | (refine Stp.go ?_) | (guard_target =~ WLA _ _ _ _ _ (⟨_, .call ⟨.value (.func 92), _, _⟩, _, _, _, _⟩ :: _) _ _; refine WLA.call rfl rfl (hsum) ?_; rintro y) | (guard_target =~ WLA _ _ _ _ _ (⟨_, .call ⟨.value (.func 22), _, _⟩, _, _, _, _⟩ :: _) _ _; refine WLA.call rfl rfl (runWriteO (m' := m) (ids := []) (a := 0) (b := 0) ok hM8 (by omega) he.symm (.inl ⟨he0, rfl, rfl, rfl, rfl⟩)) ?_; rintro nr) | (refine WPA.ifT ?_) | (refine WPA.ifF ?_) | ((first | refine WPA.dec ?_); first | refine .inl ⟨by first | assumption | omega | with_reducible rfl | (refine fun h => h ?_; first | assumption | with_reducible rfl) | (simp only [lenS] <;> omega) | decide, ?_⟩ | refine .inr ⟨by first | assumption | omega | with_reducible rfl | (refine fun h => h ?_; first | assumption | with_reducible rfl) | (simp only [lenS] <;> omega) | decide, ?_⟩) | ((first | refine WPA.ifBt ?_ ?_ | refine WPA.ifBnf ?_ ?_); assumption) | ((first | refine WPA.ifBnt ?_ ?_ | refine WPA.ifBf ?_ ?_); assumption) | ((first | refine WPA.ifs ?_ ?_ | refine WPA.ifB ?_ ?_) <;> intro hc) | (guard_target =~ WPA _ _ _ (.region 3 _ true) _ _ _; refine WPA.drawT 19 (.p 0 (.p 1 (.p 2 (.q 3 (.p 4 (.p 5 (.p 6 (.q 7 (.p 8 (.p 9 (.p 10 (.q 11 (.b false 12 (.b true 13 (.p 14 (.p 15 (.p 16 (.e 17 (.e 18 .fin))))) false 17 (.w 13 (.p 14 (.p 15 (.p 16 (.e 18 .fin)))))) false 17 (.e 12 (.w 13 (.p 14 (.p 15 (.p 16 (.e 18 .fin))))))))))))))))))) mixed ?_ ?_; kernel_rfl) | (refine WDA.finish (tl := [⟨_, _, _, _, _, _⟩]) rfl ?_) | (refine WDQ.see rfl ?_) | (refine WDP.see rfl ?_) | (refine WDW.see rfl ?_) | (first | (refine WDA.two rfl rfl ?_ ?_) | (refine WDA.twoL rfl rfl ?_ ?_) | (refine WDA.twoR rfl rfl ?_ ?_) | (refine WDA.twoW rfl rfl ?_ ?_)) | (refine WDE.see rfl ?_) | (refine WDE.alloc rfl rfl (fun w h => h) (fun x => ?_)) | (refine WDE.stE rfl ?_) | (refine WDE.x rfl rfl ?_ ?_ (fun x => ?_); rotate_left 1; (intro x w h; first | exact h | exact Ent.drop1.sl h | exact SL.unI h | exact SL.to h); rotate_left 1; first | exact trivial | exact rfl | assumption | omega | (refine ⟨?_, ?_⟩ <;> omega) | (simp only [Room, lenS]; omega) | decide | skip) | (guard_target =~ WDE _ _ _ _ _ _ _ ⟨_, .call ⟨.value (.func 92), _, _⟩, _, _, _, _⟩ _ _ _; refine WDE.call rfl rfl (hsum) ?_ ?_; (intro x w h; first | exact h | exact Ent.drop1.sl h | exact SL.unI h | exact SL.to h); rintro y) | (guard_target =~ WDW _ _ _ _ _ _ _ ⟨_, .call ⟨.value (.func 92), _, _⟩, _, _, _, _⟩ _ _ _; refine WDW.call rfl rfl (hsum) ?_; rintro y) | (guard_target =~ WDE _ _ _ _ _ _ _ ⟨_, .call ⟨.value (.func 22), _, _⟩, _, _, _, _⟩ _ _ _; refine WDE.call rfl rfl (runWriteO (m' := m) (ids := []) (a := 0) (b := 0) ok hM8 (by omega) he.symm (.inl ⟨he0, rfl, rfl, rfl, rfl⟩)) ?_ ?_; (intro x w h; first | exact h | exact Ent.drop1.sl h | exact SL.unI h | exact SL.to h); rintro nr) | (guard_target =~ WDW _ _ _ _ _ _ _ ⟨_, .call ⟨.value (.func 22), _, _⟩, _, _, _, _⟩ _ _ _; refine WDW.call rfl rfl (runWriteO (m' := m) (ids := []) (a := 0) (b := 0) ok hM8 (by omega) he.symm (.inl ⟨he0, rfl, rfl, rfl, rfl⟩)) ?_; rintro nr))
  all_goals
    refine QQ.end_ rfl () rfl fun w h => ?_
    subst hhm
    exact (CntH.fold (h := hh) (r := r)).sl h.to
end
end Go.Proofs.YtamnobjdgjbmbaaGreat
namespace Go.Proofs.YtamnobjdgjbmbaaGreat
open Go Go.Fw Go.RowKit
set_option linter.unusedVariables false
set_option linter.unusedSimpArgs false
set_option maxRecDepth 100000
set_option maxHeartbeats 16000000
set_option synthInstance.maxHeartbeats 200000
set_option synthInstance.maxSize 100000
attribute [local irreducible] WPA WLA WDA WDQ WDE QQ seqQ blockQ loopQ fnQ OpP OpT Tr TrP SL SLd OwnS LitS Bk BkE Ob
attribute [local irreducible] vS keyS parL RowH CtsH mrg RunsH CntH
def CfOk (b z f : Int) : Prop := (1 ≤ b ∧ b ≤ 1048576) ∧ (1 ≤ z ∧ z ≤ 65536) ∧ (2 ≤ f ∧ f ≤ 1024)
instance (b z f : Int) : Decidable (CfOk b z f) := inferInstanceAs (Decidable (_ ∧ _))
section
variable {L L' L1 L2 : List HP} {w0 : World} {I : Foot}
theorem Right_tr {b z f : Int} : Tr Tryz.prog 26 #[.agg #[.int .i64 b, .int .i64 z, .int .i64 f]] (SL w0 I L) (fun _ : Unit => .bool (decide (CfOk b z f))) (fun _ => SL w0 I L) := by
  refine Tr.intro Tryz.func26 rfl Tryz.ntmps26 rfl ?_
  by_cases h1 : 1 ≤ b <;> by_cases h2 : b ≤ 1048576 <;> by_cases h3 : 1 ≤ z <;> by_cases h4 : z ≤ 65536 <;> by_cases h5 : 2 ≤ f <;> by_cases h6 : f ≤ 1024
  all_goals
    repeat' (first | ((first | refine WLA.m rfl rfl ?_ ?_ | refine WLA.st rfl ?_ ?_ | refine WLA.x rfl rfl ?_ (fun x => ?_) | refine WLA.x0 rfl ?_ (fun x => ?_)); first | exact trivial | exact rfl | assumption | omega | (refine ⟨?_, ?_⟩ <;> omega) | (simp only [Room, lenS]; omega) | decide | skip) | (refine Stp.go ?_) | (refine WPA.ifT ?_) | (refine WPA.ifF ?_) | (refine WLA.no rfl rfl ?_) | ((first | refine WPA.dec ?_ | ((fail_if_success (guard_target =~ WLA _ _ _ _ _ _ (put1 _ _ (.bool true)) _)); (fail_if_success (guard_target =~ WLA _ _ _ _ _ _ (put1 _ _ (.bool false)) _)); refine WLA.dec rfl rfl ?_) | refine WLA.pk ?_); first | refine .inl ⟨by first | assumption | omega | with_reducible rfl | (refine fun h => h ?_; first | assumption | with_reducible rfl) | (simp only [lenS] <;> omega) | decide, ?_⟩ | refine .inr ⟨by first | assumption | omega | with_reducible rfl | (refine fun h => h ?_; first | assumption | with_reducible rfl) | (simp only [lenS] <;> omega) | decide, ?_⟩) | ((first | refine WPA.ifBt ?_ ?_ | refine WPA.ifBnf ?_ ?_); assumption) | ((first | refine WPA.ifBnt ?_ ?_ | refine WPA.ifBf ?_ ?_); assumption) | ((first | refine WPA.ifs ?_ ?_ | refine WPA.ifB ?_ ?_) <;> intro hc) | ((fail_if_success (guard_target =~ WLA _ _ _ _ _ _ (put1 _ _ (.bool true)) _)); (fail_if_success (guard_target =~ WLA _ _ _ _ _ _ (put1 _ _ (.bool false)) _)); (first | refine WLA.both rfl rfl ?_ ?_ | refine WLA.bothB rfl rfl ?_ ?_) <;> intro hg))
    exact QQ.end_ rfl () (congrArg Value.bool (by first | exact (decide_eq_false (fun h => by unfold CfOk at h; omega)).symm | exact (decide_eq_true (by unfold CfOk; omega)).symm | (rw [decide_eq_decide]; unfold CfOk; omega))) fun w h => h.to
theorem is_tr {b z f : Int} : Tr Tryz.prog 27 #[.agg #[.int .i64 b, .int .i64 z, .int .i64 f]] (SL w0 I L) (fun _ : Unit => .bool (decide (CfOk b z f))) (fun _ => SL w0 I L) := by
  refine Tr.intro Tryz.func27 rfl Tryz.ntmps27 rfl ?_
  by_cases h1 : 1 ≤ b <;> by_cases h2 : b ≤ 1048576 <;> by_cases h3 : 1 ≤ z <;> by_cases h4 : z ≤ 65536 <;> by_cases h5 : 2 ≤ f <;> by_cases h6 : f ≤ 1024
  all_goals
    repeat' (first | ((first | refine WLA.m rfl rfl ?_ ?_ | refine WLA.st rfl ?_ ?_ | refine WLA.x rfl rfl ?_ (fun x => ?_) | refine WLA.x0 rfl ?_ (fun x => ?_)); first | exact trivial | exact rfl | assumption | omega | (refine ⟨?_, ?_⟩ <;> omega) | (simp only [Room, lenS]; omega) | decide | skip) | (refine Stp.go ?_) | (refine WPA.ifT ?_) | (refine WPA.ifF ?_) | (refine WLA.no rfl rfl ?_) | ((first | refine WPA.dec ?_ | ((fail_if_success (guard_target =~ WLA _ _ _ _ _ _ (put1 _ _ (.bool true)) _)); (fail_if_success (guard_target =~ WLA _ _ _ _ _ _ (put1 _ _ (.bool false)) _)); refine WLA.dec rfl rfl ?_) | refine WLA.pk ?_); first | refine .inl ⟨by first | assumption | omega | with_reducible rfl | (refine fun h => h ?_; first | assumption | with_reducible rfl) | (simp only [lenS] <;> omega) | decide, ?_⟩ | refine .inr ⟨by first | assumption | omega | with_reducible rfl | (refine fun h => h ?_; first | assumption | with_reducible rfl) | (simp only [lenS] <;> omega) | decide, ?_⟩) | ((first | refine WPA.ifBt ?_ ?_ | refine WPA.ifBnf ?_ ?_); assumption) | ((first | refine WPA.ifBnt ?_ ?_ | refine WPA.ifBf ?_ ?_); assumption) | ((first | refine WPA.ifs ?_ ?_ | refine WPA.ifB ?_ ?_) <;> intro hc) | ((fail_if_success (guard_target =~ WLA _ _ _ _ _ _ (put1 _ _ (.bool true)) _)); (fail_if_success (guard_target =~ WLA _ _ _ _ _ _ (put1 _ _ (.bool false)) _)); (first | refine WLA.both rfl rfl ?_ ?_ | refine WLA.bothB rfl rfl ?_ ?_) <;> intro hg))
    exact QQ.end_ rfl () (congrArg Value.bool (by first | exact (decide_eq_false (fun h => by unfold CfOk at h; omega)).symm | exact (decide_eq_true (by unfold CfOk; omega)).symm | (rw [decide_eq_decide]; unfold CfOk; omega))) fun w h => h.to
end
end Go.Proofs.YtamnobjdgjbmbaaGreat
namespace Go.Proofs.YtamnobjdgjbmbaaGreat
open Go Go.Fw Go.RowKit
set_option linter.unusedVariables false
set_option linter.unusedSimpArgs false
set_option maxRecDepth 100000
set_option maxHeartbeats 16000000
set_option synthInstance.maxHeartbeats 200000
set_option synthInstance.maxSize 100000
attribute [local irreducible] WPA WLA WDA WDQ WDE QQ seqQ blockQ loopQ fnQ OpP OpT Tr TrP SL SLd OwnS LitS Bk BkE Ob
def gramN (p : List Int) (n : Int) : Nat := if n < 1 then 0 else p.length + 1 - n.toNat
abbrev gramA (p : List Int) (n : Int) (i : Nat) : List Int := cutL p (i : Int) ((i : Int) + n)
def gramsL (p : List Int) (n : Int) : List (List Int) := (List.range (gramN p n)).map (gramA p n)
theorem gramsL_len (p : List Int) (n : Int) : (gramsL p n).length = gramN p n := by simp [gramsL]
theorem gramsL_get {p : List Int} {n : Int} {i : Nat} (h : i < gramN p n) : (gramsL p n).getD i [] = gramA p n i := by
  simp [gramsL, List.getD_eq_getElem?_getD, h]
theorem gramN_le (p : List Int) (n : Int) : gramN p n ≤ p.length := by unfold gramN; split <;> omega
theorem gramA_len {p : List Int} {n : Int} {i : Nat} (h : i < gramN p n) : (gramA p n i).length = n.toNat := by
  unfold gramN at h
  split at h
  · omega
  · unfold gramA cutL
    rw [if_pos (by omega), List.length_take, List.length_drop]; omega
def GsI (J : Foot) (hs : List SV) (gs : List (List Int)) : Prop := hs.length = gs.length ∧ ∀ i : Nat, i < hs.length → SlI J (at_ hs (i : Int)) Int inferInstance (gs.getD i [])
theorem GsI.snoc {J : Foot} {hs : List SV} {gs : List (List Int)} {h : SV} {g : List Int} (k : GsI J hs gs) (hg : SlI J h Int inferInstance g) : GsI J (hs ++ [h]) (gs ++ [g]) := by
  refine ⟨by simp [k.1], fun i hi => ?_⟩
  rw [at_nat _ i hi, List.getElem_append, List.getD_eq_getElem?_getD, List.getElem?_append]
  by_cases e : i < hs.length
  · rw [dif_pos e, if_pos (by rw [← k.1]; exact e), ← List.getD_eq_getElem?_getD, ← at_nat hs i e]; exact k.2 i e
  · rw [dif_neg e, if_neg (by rw [← k.1]; exact e)]
    have h0 : i - gs.length = 0 := by have := k.1; simp at hi; omega
    rw [h0]; simpa using hg
theorem GsI.app {J : Foot} {hs hs2 : List SV} {gs gs2 : List (List Int)} (k : GsI J hs gs) (k2 : GsI J hs2 gs2) : GsI J (hs ++ hs2) (gs ++ gs2) := by
  refine ⟨by simp [k.1, k2.1], fun i hi => ?_⟩
  rw [at_nat _ i hi, List.getElem_append, List.getD_eq_getElem?_getD, List.getElem?_append]
  by_cases e : i < hs.length
  · rw [dif_pos e, if_pos (by rw [← k.1]; exact e), ← List.getD_eq_getElem?_getD, ← at_nat hs i e]; exact k.2 i e
  · rw [dif_neg e, if_neg (by rw [← k.1]; exact e), ← List.getD_eq_getElem?_getD]
    have h0 : i - gs.length = i - hs.length := by rw [k.1]
    have hl : i - hs.length < hs2.length := by rw [List.length_append] at hi; omega
    rw [h0, ← at_nat hs2 (i - hs.length) hl]
    exact k2.2 _ hl
theorem GsI.sub {J J' : Foot} {hs : List SV} {gs : List (List Int)} (k : GsI J hs gs) [s : SubI J' J] : GsI J' hs gs := ⟨k.1, fun i hi => (k.2 i hi).sub⟩
def eachL (gs : List (List Int)) (n : Int) : List (List Int) := gs.flatMap fun p => gramsL p n
theorem eachL_le {n : Int} {m : Nat} : ∀ {gs : List (List Int)}, (∀ g ∈ gs, g.length ≤ m) → (eachL gs n).length ≤ gs.length * m
  | [], _ => by simp [eachL]
  | g :: gs, h => by
    have h1 := h g (List.mem_cons_self ..)
    have h2 := eachL_le (n := n) (gs := gs) fun x hx => h x (List.mem_cons_of_mem _ hx)
    have h3 := gramN_le g n
    unfold eachL at h2 ⊢
    rw [List.flatMap_cons, List.length_append, gramsL_len, List.length_cons, Nat.add_mul]; omega
section
variable {L L' : List HP} {w0 : World} {I : Foot}
theorem rGrams_tr {s : SV} {p : List Int} {n : Int} [hr : SlI I s Int inferInstance p] (hp : p.length ≤ 1000000) :
    Tr Tryz.prog 62 #[.slice s.a s.n s.cap, .int .i64 n] (SL w0 I L) (fun x : SV × List SV => .slice x.1.a x.1.n x.1.cap) (fun x w => GsI I x.2 (gramsL p n) ∧ SL w0 I (OwnS 42 x.1 x.2 :: L) w) := by
  refine Tr.intro Tryz.func62 rfl Tryz.ntmps62 rfl ?_
  by_cases hn : n < 1
  · have e : gramsL p n = [] := by unfold gramsL gramN; rw [if_pos hn]; rfl
    rw [e]
    repeat' (first | ((first | refine WLA.m rfl rfl ?_ ?_ | refine WLA.st rfl ?_ ?_ | refine WLA.x rfl rfl ?_ (fun x => ?_) | refine WLA.x0 rfl ?_ (fun x => ?_)); first | exact trivial | exact rfl | assumption | omega | (refine ⟨?_, ?_⟩ <;> omega) | (simp only [Room, lenS]; omega) | decide | skip) | (refine Stp.go ?_) | (refine WPA.ifT ?_) | (refine WPA.ifF ?_) | ((first | refine WPA.dec ?_); first | refine .inl ⟨by first | assumption | omega | with_reducible rfl | (refine fun h => h ?_; first | assumption | with_reducible rfl) | (simp only [lenS] <;> omega) | decide, ?_⟩ | refine .inr ⟨by first | assumption | omega | with_reducible rfl | (refine fun h => h ?_; first | assumption | with_reducible rfl) | (simp only [lenS] <;> omega) | decide, ?_⟩) | ((first | refine WPA.ifBt ?_ ?_ | refine WPA.ifBnf ?_ ?_); assumption) | ((first | refine WPA.ifBnt ?_ ?_ | refine WPA.ifBf ?_ ?_); assumption) | ((first | refine WPA.ifs ?_ ?_ | refine WPA.ifB ?_ ?_) <;> intro hc))
    exact QQ.end_ rfl (SV.nil, []) rfl fun w h => ⟨⟨rfl, fun i hi => by simp at hi⟩, h.to⟩
  · skip
    repeat' (first | ((first | refine WLA.m rfl rfl ?_ ?_ | refine WLA.st rfl ?_ ?_ | refine WLA.x rfl rfl ?_ (fun x => ?_) | refine WLA.x0 rfl ?_ (fun x => ?_)); first | exact trivial | exact rfl | assumption | omega | (refine ⟨?_, ?_⟩ <;> omega) | (simp only [Room, lenS]; omega) | decide | skip) | (refine Stp.go ?_) | (refine WPA.ifT ?_) | (refine WPA.ifF ?_) | ((first | refine WPA.dec ?_); first | refine .inl ⟨by first | assumption | omega | with_reducible rfl | (refine fun h => h ?_; first | assumption | with_reducible rfl) | (simp only [lenS] <;> omega) | decide, ?_⟩ | refine .inr ⟨by first | assumption | omega | with_reducible rfl | (refine fun h => h ?_; first | assumption | with_reducible rfl) | (simp only [lenS] <;> omega) | decide, ?_⟩) | ((first | refine WPA.ifBt ?_ ?_ | refine WPA.ifBnf ?_ ?_); assumption) | ((first | refine WPA.ifBnt ?_ ?_ | refine WPA.ifBf ?_ ?_); assumption) | ((first | refine WPA.ifs ?_ ?_ | refine WPA.ifB ?_ ?_) <;> intro hc))
    refine WPA.loopS (σ := Nat × SV × List SV) (fun y => [(0, .slice s.a s.n s.cap), (1, .int .i64 n), (5, .slice y.2.1.a y.2.1.n y.2.1.cap), (6, .int .i64 y.1)])
      (fun y => y.1 ≤ p.length ∧ GsI I y.2.2 ((gramsL p n).take y.1) ∧ y.2.2.length ≤ y.1) (fun y => SL w0 I (OwnS 42 y.2.1 y.2.2 :: L)) (fun y => p.length - y.1) (0, SV.nil, []) ⟨rfl, rfl, rfl, rfl, trivial⟩ ⟨Nat.zero_le _, ⟨rfl, fun i hi => by simp at hi⟩, Nat.le_refl _⟩ (fun w h => h.to) ?_
    rintro ⟨i, r, hs⟩ ρ ⟨hi, hg, hl⟩
    dsimp only at hi hg hl ⊢
    by_cases hlt : i < p.length
    · have hlt' : (i : Int) < p.length := by omega
      by_cases hin : i < gramN p n
      · have hin' : n ≤ (p.length : Int) - i := by unfold gramN at hin; rw [if_neg hn] at hin; omega
        have hb : -9223372036854775808 ≤ (i : Int) + n ∧ (i : Int) + n ≤ 9223372036854775807 := by omega
        repeat' (first | ((first | refine WLA.m rfl rfl ?_ ?_ | refine WLA.st rfl ?_ ?_ | refine WLA.x rfl rfl ?_ (fun x => ?_) | refine WLA.x0 rfl ?_ (fun x => ?_)); first | exact trivial | exact rfl | assumption | omega | (refine ⟨?_, ?_⟩ <;> omega) | (simp only [Room, lenS]; omega) | decide | skip) | (refine Stp.go ?_) | (refine WPA.ifT ?_) | (refine WPA.ifF ?_) | ((first | refine WPA.dec ?_); first | refine .inl ⟨by first | assumption | omega | with_reducible rfl | (refine fun h => h ?_; first | assumption | with_reducible rfl) | (simp only [lenS] <;> omega) | decide, ?_⟩ | refine .inr ⟨by first | assumption | omega | with_reducible rfl | (refine fun h => h ?_; first | assumption | with_reducible rfl) | (simp only [lenS] <;> omega) | decide, ?_⟩) | ((first | refine WPA.ifBt ?_ ?_ | refine WPA.ifBnf ?_ ?_); assumption) | ((first | refine WPA.ifBnt ?_ ?_ | refine WPA.ifBf ?_ ?_); assumption) | ((first | refine WPA.ifs ?_ ?_ | refine WPA.ifB ?_ ?_) <;> intro hc))
        refine QQ.loopS (i + 1, x, hs ++ [s.cut 1 (i : Int) ((i : Int) + n)]) ⟨rfl, rfl, rfl, rfl, trivial⟩ ⟨hlt, ?_, by simp; omega⟩ (by dsimp only; omega) (fun w h => h.to)
        have hgl : i < (gramsL p n).length := by rw [gramsL_len]; exact hin
        dsimp only
        rw [List.take_add_one, List.getElem?_eq_getElem hgl]
        have e : (gramsL p n)[i] = cutL p (i : Int) ((i : Int) + n) := by have := gramsL_get hin; rw [List.getD_eq_getElem?_getD, List.getElem?_eq_getElem hgl] at this; exact this
        rw [Option.toList_some, e]
        exact hg.snoc inferInstance
      · have hin' : ¬ n ≤ (p.length : Int) - i := by unfold gramN at hin; rw [if_neg hn] at hin; omega
        repeat' (first | ((first | refine WLA.m rfl rfl ?_ ?_ | refine WLA.st rfl ?_ ?_ | refine WLA.x rfl rfl ?_ (fun x => ?_) | refine WLA.x0 rfl ?_ (fun x => ?_)); first | exact trivial | exact rfl | assumption | omega | (refine ⟨?_, ?_⟩ <;> omega) | (simp only [Room, lenS]; omega) | decide | skip) | (refine Stp.go ?_) | (refine WPA.ifT ?_) | (refine WPA.ifF ?_) | ((first | refine WPA.dec ?_); first | refine .inl ⟨by first | assumption | omega | with_reducible rfl | (refine fun h => h ?_; first | assumption | with_reducible rfl) | (simp only [lenS] <;> omega) | decide, ?_⟩ | refine .inr ⟨by first | assumption | omega | with_reducible rfl | (refine fun h => h ?_; first | assumption | with_reducible rfl) | (simp only [lenS] <;> omega) | decide, ?_⟩) | ((first | refine WPA.ifBt ?_ ?_ | refine WPA.ifBnf ?_ ?_); assumption) | ((first | refine WPA.ifBnt ?_ ?_ | refine WPA.ifBf ?_ ?_); assumption) | ((first | refine WPA.ifs ?_ ?_ | refine WPA.ifB ?_ ?_) <;> intro hc))
        refine QQ.loopS (i + 1, r, hs) ⟨rfl, rfl, rfl, rfl, trivial⟩ ⟨hlt, ?_, by dsimp only; omega⟩ (by dsimp only; omega) (fun w h => h.to)
        dsimp only
        rw [List.take_of_length_le (by rw [gramsL_len]; omega)] at hg ⊢
        exact hg
    · have hlt' : ¬ (i : Int) < p.length := by omega
      rw [List.take_of_length_le (by rw [gramsL_len]; have := gramN_le p n; omega)] at hg
      repeat' (first | ((first | refine WLA.m rfl rfl ?_ ?_ | refine WLA.st rfl ?_ ?_ | refine WLA.x rfl rfl ?_ (fun x => ?_) | refine WLA.x0 rfl ?_ (fun x => ?_)); first | exact trivial | exact rfl | assumption | omega | (refine ⟨?_, ?_⟩ <;> omega) | (simp only [Room, lenS]; omega) | decide | skip) | (refine Stp.go ?_) | (refine WPA.ifT ?_) | (refine WPA.ifF ?_) | ((first | refine WPA.dec ?_); first | refine .inl ⟨by first | assumption | omega | with_reducible rfl | (refine fun h => h ?_; first | assumption | with_reducible rfl) | (simp only [lenS] <;> omega) | decide, ?_⟩ | refine .inr ⟨by first | assumption | omega | with_reducible rfl | (refine fun h => h ?_; first | assumption | with_reducible rfl) | (simp only [lenS] <;> omega) | decide, ?_⟩) | ((first | refine WPA.ifBt ?_ ?_ | refine WPA.ifBnf ?_ ?_); assumption) | ((first | refine WPA.ifBnt ?_ ?_ | refine WPA.ifBf ?_ ?_); assumption) | ((first | refine WPA.ifs ?_ ?_ | refine WPA.ifB ?_ ?_) <;> intro hc))
      exact QQ.end_ rfl (r, hs) rfl fun w h => ⟨hg, h.to⟩
theorem rGrams_trS {s : SV} {p : List Int} {n : Int} [hr : SlI I s Int inferInstance p] (hp : p.length ≤ 1000000) :
    Tr Tryz.prog 62 #[.slice s.a s.n s.cap, .int .i64 n] (SL w0 I L) (fun x : { y : SV × List SV // GsI I y.2 (gramsL p n) } => .slice x.1.1.a x.1.1.n x.1.1.cap) (fun x => SL w0 I (OwnS 42 x.1.1 x.1.2 :: L)) :=
  (rGrams_tr hp).conv (fun _ h => h) fun x w hb => ⟨⟨x, hb.1⟩, rfl, hb.2⟩
theorem rEach_tr {s : SV} {hs : List SV} {gs : List (List Int)} {n : Int} [hr : SlI I s SV inferInstance hs] (hg : GsI I hs gs) (hn : hs.length ≤ 1000) (hl : ∀ g ∈ gs, g.length ≤ 1000) :
    Tr Tryz.prog 28 #[.slice s.a s.n s.cap, .int .i64 n] (SL w0 I L) (fun x : { y : SV × List SV // GsI I y.2 (eachL gs n) } => .slice x.1.1.a x.1.1.n x.1.1.cap) (fun x => SL w0 I (OwnS 42 x.1.1 x.1.2 :: L)) := by
  refine Tr.intro Tryz.func28 rfl Tryz.ntmps28 rfl ?_
  repeat' (first | ((first | refine WLA.m rfl rfl ?_ ?_ | refine WLA.st rfl ?_ ?_ | refine WLA.x rfl rfl ?_ (fun x => ?_) | refine WLA.x0 rfl ?_ (fun x => ?_)); first | exact trivial | exact rfl | assumption | omega | (refine ⟨?_, ?_⟩ <;> omega) | (simp only [Room, lenS]; omega) | decide | skip) | (refine Stp.go ?_) | (refine WPA.ifT ?_) | (refine WPA.ifF ?_) | ((first | refine WPA.dec ?_); first | refine .inl ⟨by first | assumption | omega | with_reducible rfl | (refine fun h => h ?_; first | assumption | with_reducible rfl) | (simp only [lenS] <;> omega) | decide, ?_⟩ | refine .inr ⟨by first | assumption | omega | with_reducible rfl | (refine fun h => h ?_; first | assumption | with_reducible rfl) | (simp only [lenS] <;> omega) | decide, ?_⟩) | ((first | refine WPA.ifBt ?_ ?_ | refine WPA.ifBnf ?_ ?_); assumption) | ((first | refine WPA.ifBnt ?_ ?_ | refine WPA.ifBf ?_ ?_); assumption) | ((first | refine WPA.ifs ?_ ?_ | refine WPA.ifB ?_ ?_) <;> intro hc))
  refine WPA.loopS (σ := Nat × SV × List SV) (fun y => [(0, .slice s.a s.n s.cap), (1, .int .i64 n), (5, .slice y.2.1.a y.2.1.n y.2.1.cap), (6, .int .i64 y.1)])
    (fun y => y.1 ≤ hs.length ∧ GsI I y.2.2 (eachL (gs.take y.1) n)) (fun y => SL w0 I (OwnS 42 y.2.1 y.2.2 :: L)) (fun y => hs.length - y.1) (0, SV.nil, []) ⟨rfl, rfl, rfl, rfl, trivial⟩ ⟨Nat.zero_le _, ⟨rfl, fun i hi => by simp at hi⟩⟩ (fun w h => h.to) ?_
  rintro ⟨i, r, os⟩ ρ ⟨hi, ho⟩
  dsimp only at hi ho ⊢
  by_cases hlt : i < hs.length
  · have hlt' : (i : Int) < hs.length := by omega
    have hgi := hg.2 i hlt
    have hig : i < gs.length := by have := hg.1; omega
    have hgl : (gs.getD i []).length ≤ 1000000 := by
      rw [List.getD_eq_getElem?_getD, List.getElem?_eq_getElem hig]; have := hl _ (List.getElem_mem hig); simp only [Option.getD_some]; omega
    have e : eachL (gs.take (i + 1)) n = eachL (gs.take i) n ++ gramsL (gs.getD i []) n := by
      unfold eachL
      rw [List.take_add_one, List.getElem?_eq_getElem hig, List.flatMap_append]
      simp [List.getD_eq_getElem?_getD, hig]
    have hol : os.length ≤ 1000000 := by
      have h1 := ho.1
      have h2 := eachL_le (n := n) (gs := gs.take i) (m := 1000) fun x hx => hl x (List.mem_of_mem_take hx)
      have h3 : (gs.take i).length ≤ 1000 := by rw [List.length_take]; have := hg.1; omega
      omega
    have hgn := gramN_le (gs.getD i []) n
    have hgll := gramsL_len (gs.getD i []) n
    repeat' (first | ((first | refine WLA.m rfl rfl ?_ ?_ | refine WDQ.m rfl rfl ?_ ?_ | refine WDP.m rfl rfl ?_ ?_ | refine WLA.st rfl ?_ ?_ | refine WLA.x rfl rfl ?_ (fun x => ?_) | refine WLA.x0 rfl ?_ (fun x => ?_) | refine WDW.x rfl rfl ?_ (fun x => ?_) | refine WDW.st rfl ?_ ?_); first | exact trivial | exact rfl | assumption | omega | (refine ⟨?_, ?_⟩ <;> omega) | (simp only [Room, lenS]; omega) | decide | skip) | (refine Stp.go ?_) | (guard_target =~ WLA _ _ _ _ _ (⟨_, .call ⟨.value (.func 62), _, _⟩, _, _, _, _⟩ :: _) _ _; refine WLA.call rfl rfl (rGrams_trS hgl) ?_; rintro ⟨⟨r2, os2⟩, hg2⟩; dsimp only at hg2 ⊢; have hos2 := hg2.1) | (refine WPA.ifT ?_) | (refine WPA.ifF ?_) | ((first | refine WPA.dec ?_); first | refine .inl ⟨by first | assumption | omega | with_reducible rfl | (refine fun h => h ?_; first | assumption | with_reducible rfl) | (simp only [lenS] <;> omega) | decide, ?_⟩ | refine .inr ⟨by first | assumption | omega | with_reducible rfl | (refine fun h => h ?_; first | assumption | with_reducible rfl) | (simp only [lenS] <;> omega) | decide, ?_⟩) | ((first | refine WPA.ifBt ?_ ?_ | refine WPA.ifBnf ?_ ?_); assumption) | ((first | refine WPA.ifBnt ?_ ?_ | refine WPA.ifBf ?_ ?_); assumption) | ((first | refine WPA.ifs ?_ ?_ | refine WPA.ifB ?_ ?_) <;> intro hc) | (guard_target =~ WPA _ _ _ (.region 5 _ true) _ _ _; refine WPA.drawT 8 (.p 1 (.p 3 (.p 4 (.p 5 (.p 6 (.p 7 (.e 0 (.w 2 .fin)))))))) mixed ?_ ?_; kernel_rfl) | (refine WDA.finish (tl := [⟨_, _, _, _, _, _⟩, ⟨_, _, _, _, _, _⟩, ⟨_, _, _, _, _, _⟩]) rfl ?_) | (refine WDQ.see rfl ?_) | (refine WDP.see rfl ?_) | (refine WDW.see rfl ?_) | (refine WDE.see rfl ?_) | (refine WDE.alloc rfl rfl (fun w h => h) (fun x => ?_)) | (refine WDE.stE rfl ?_) | (refine WDE.x rfl rfl ?_ ?_ (fun x => ?_); rotate_left 1; (intro x w h; first | exact h | exact Ent.drop1.sl h | exact SL.unI h | exact SL.to h); rotate_left 1; first | exact trivial | exact rfl | assumption | omega | (refine ⟨?_, ?_⟩ <;> omega) | (simp only [Room, lenS]; omega) | decide | skip) | (guard_target =~ WDE _ _ _ _ _ _ _ ⟨_, .call ⟨.value (.func 62), _, _⟩, _, _, _, _⟩ _ _ _; refine WDE.call rfl rfl (rGrams_trS hgl) ?_ ?_; (intro x w h; first | exact h | exact Ent.drop1.sl h | exact SL.unI h | exact SL.to h); rintro ⟨⟨r2, os2⟩, hg2⟩; dsimp only at hg2 ⊢; have hos2 := hg2.1) | (guard_target =~ WDW _ _ _ _ _ _ _ ⟨_, .call ⟨.value (.func 62), _, _⟩, _, _, _, _⟩ _ _ _; refine WDW.call rfl rfl (rGrams_trS hgl) ?_; rintro ⟨⟨r2, os2⟩, hg2⟩; dsimp only at hg2 ⊢; have hos2 := hg2.1))
    exact QQ.loopS (i + 1, x, os ++ os2) ⟨rfl, rfl, rfl, rfl, trivial⟩ ⟨hlt, by dsimp only; rw [e]; exact ho.app hg2⟩ (by dsimp only; omega) (fun w h => h.to)
  · have hlt' : ¬ (i : Int) < hs.length := by omega
    rw [List.take_of_length_le (by have := hg.1; omega)] at ho
    repeat' (first | ((first | refine WLA.m rfl rfl ?_ ?_ | refine WDQ.m rfl rfl ?_ ?_ | refine WDP.m rfl rfl ?_ ?_ | refine WLA.st rfl ?_ ?_ | refine WLA.x rfl rfl ?_ (fun x => ?_) | refine WLA.x0 rfl ?_ (fun x => ?_) | refine WDW.x rfl rfl ?_ (fun x => ?_) | refine WDW.st rfl ?_ ?_); first | exact trivial | exact rfl | assumption | omega | (refine ⟨?_, ?_⟩ <;> omega) | (simp only [Room, lenS]; omega) | decide | skip) | (refine Stp.go ?_) | (refine WPA.ifT ?_) | (refine WPA.ifF ?_) | ((first | refine WPA.dec ?_); first | refine .inl ⟨by first | assumption | omega | with_reducible rfl | (refine fun h => h ?_; first | assumption | with_reducible rfl) | (simp only [lenS] <;> omega) | decide, ?_⟩ | refine .inr ⟨by first | assumption | omega | with_reducible rfl | (refine fun h => h ?_; first | assumption | with_reducible rfl) | (simp only [lenS] <;> omega) | decide, ?_⟩) | ((first | refine WPA.ifBt ?_ ?_ | refine WPA.ifBnf ?_ ?_); assumption) | ((first | refine WPA.ifBnt ?_ ?_ | refine WPA.ifBf ?_ ?_); assumption) | ((first | refine WPA.ifs ?_ ?_ | refine WPA.ifB ?_ ?_) <;> intro hc) | (guard_target =~ WPA _ _ _ (.region 5 _ true) _ _ _; refine WPA.drawT 8 (.p 1 (.p 3 (.p 4 (.p 5 (.p 6 (.p 7 (.e 0 (.w 2 .fin)))))))) mixed ?_ ?_; kernel_rfl) | (refine WDA.finish (tl := [⟨_, _, _, _, _, _⟩, ⟨_, _, _, _, _, _⟩, ⟨_, _, _, _, _, _⟩]) rfl ?_) | (refine WDQ.see rfl ?_) | (refine WDP.see rfl ?_) | (refine WDW.see rfl ?_) | (refine WDE.see rfl ?_) | (refine WDE.alloc rfl rfl (fun w h => h) (fun x => ?_)) | (refine WDE.stE rfl ?_) | (refine WDE.x rfl rfl ?_ ?_ (fun x => ?_); rotate_left 1; (intro x w h; first | exact h | exact Ent.drop1.sl h | exact SL.unI h | exact SL.to h); rotate_left 1; first | exact trivial | exact rfl | assumption | omega | (refine ⟨?_, ?_⟩ <;> omega) | (simp only [Room, lenS]; omega) | decide | skip))
    exact QQ.end_ rfl ⟨(r, os), ho⟩ rfl fun w h => h.to
end
end Go.Proofs.YtamnobjdgjbmbaaGreat
namespace Go.Proofs.YtamnobjdgjbmbaaGreat
open Go Go.Fw Go.RowKit
set_option linter.unusedVariables false
set_option linter.unusedSimpArgs false
set_option maxRecDepth 100000
set_option maxHeartbeats 16000000
set_option synthInstance.maxHeartbeats 200000
set_option synthInstance.maxSize 100000
attribute [local irreducible] WPA WLA WDA WDQ WDE QQ seqQ blockQ loopQ fnQ OpP OpT Tr TrP SL SLd OwnS LitS Bk BkE Ob
def GrI (J : Foot) (v : Value) (p : List Int) (n : Int) : Prop := ∃ (bn bo : Nat) (own : SV), v = .func (.func 108) #[] #[.pointer (some ⟨bn, 0, none⟩), .pointer (some ⟨bo, 0, none⟩)] ∧ InI J bn 3 [.int .i64 n] ∧ InI J bo 42 [.slice own.a own.n own.cap] ∧ SlI J own Int inferInstance p
theorem InI.sub {J J' : Foot} {b : Nat} {t : TypeId} {cs : List Value} (h : InI J b t cs) [hs : SubI J' J] : InI J' b t cs := ⟨hs.out h.out⟩
theorem GrI.sub {J J' : Foot} {v : Value} {p : List Int} {n : Int} (h : GrI J v p n) [hs : SubI J' J] : GrI J' v p n := by
  obtain ⟨bn, bo, own, h1, h2, h3, h4⟩ := h
  exact ⟨bn, bo, own, h1, InI.sub h2, InI.sub h3, h4.sub⟩
theorem WPA.to {ro : Option Nat} {P : Program} {n : Nat} {c : Code} {Q : Hnd} {ρ : Env} {w0 : World} {I : Foot} {L L' : List HP} [e : EntC L L'] (k : WPA ro P n c Q ρ (SL w0 I L')) : WPA ro P n c Q ρ (SL w0 I L) := WPA.ent e.out k
section
variable {L L' : List HP} {w0 : World} {I : Foot}
theorem Grams_tr {s : SV} {p : List Int} {n : Int} [hr : RdS I L s Int inferInstance p] (hp : p.length ≤ 1000000) :
    Tr Tryz.prog 90 #[.slice s.a s.n s.cap, .int .i64 n] (SL w0 I L) (fun x : Value × Foot => x.1) (fun x w => GrI x.2 x.1 p n ∧ SL w0 (x.2 ++ I) L w) := by
  refine Tr.intro Tryz.func90 rfl Tryz.ntmps90 rfl ?_
  repeat' ((fail_if_success (guard_target =~ WPA _ _ _ (.region 2 _ _) _ _ _)); first | ((first | refine WLA.m rfl rfl ?_ ?_ | refine WLA.st rfl ?_ ?_ | refine WLA.x rfl rfl ?_ (fun x => ?_) | refine WLA.x0 rfl ?_ (fun x => ?_)); first | exact trivial | exact rfl | assumption | omega | (refine ⟨?_, ?_⟩ <;> omega) | (simp only [Room, lenS]; omega) | decide | skip) | (refine Stp.go ?_) | (guard_target =~ WLA _ _ _ _ _ (⟨_, .call ⟨.value (.func 46), _, _⟩, _, _, _, _⟩ :: _) _ _; refine WLA.call rfl rfl (Clone_tr hp) ?_; rintro own) | (refine WPA.ifT ?_) | (refine WPA.ifF ?_) | ((first | refine WPA.dec ?_); first | refine .inl ⟨by first | assumption | omega | with_reducible rfl | (refine fun h => h ?_; first | assumption | with_reducible rfl) | (simp only [lenS] <;> omega) | decide, ?_⟩ | refine .inr ⟨by first | assumption | omega | with_reducible rfl | (refine fun h => h ?_; first | assumption | with_reducible rfl) | (simp only [lenS] <;> omega) | decide, ?_⟩) | ((first | refine WPA.ifBt ?_ ?_ | refine WPA.ifBnf ?_ ?_); assumption) | ((first | refine WPA.ifBnt ?_ ?_ | refine WPA.ifBf ?_ ?_); assumption) | ((first | refine WPA.ifs ?_ ?_ | refine WPA.ifB ?_ ?_) <;> intro hc))
  rename_i bn
  revert x; intro bo
  refine WPA.to (L' := Bk bn 3 [.int .i64 n] :: Bk bo 42 [.slice own.a own.n own.cap] :: OwnS 3 own p :: L) ?_
  refine WPA.freeze fun R1 h1 => ?_
  refine WPA.freeze fun R2 h2 => ?_
  refine WPA.freeze fun R3 h3 => ?_
  repeat' (first | ((first | refine WLA.m rfl rfl ?_ ?_ | refine WLA.st rfl ?_ ?_ | refine WLA.x rfl rfl ?_ (fun x => ?_) | refine WLA.x0 rfl ?_ (fun x => ?_)); first | exact trivial | exact rfl | assumption | omega | (refine ⟨?_, ?_⟩ <;> omega) | (simp only [Room, lenS]; omega) | decide | skip) | (refine Stp.go ?_) | (refine WPA.ifT ?_) | (refine WPA.ifF ?_) | ((first | refine WPA.dec ?_); first | refine .inl ⟨by first | assumption | omega | with_reducible rfl | (refine fun h => h ?_; first | assumption | with_reducible rfl) | (simp only [lenS] <;> omega) | decide, ?_⟩ | refine .inr ⟨by first | assumption | omega | with_reducible rfl | (refine fun h => h ?_; first | assumption | with_reducible rfl) | (simp only [lenS] <;> omega) | decide, ?_⟩) | ((first | refine WPA.ifBt ?_ ?_ | refine WPA.ifBnf ?_ ?_); assumption) | ((first | refine WPA.ifBnt ?_ ?_ | refine WPA.ifBf ?_ ?_); assumption) | ((first | refine WPA.ifs ?_ ?_ | refine WPA.ifB ?_ ?_) <;> intro hc))
  refine QQ.end_ rfl (.func (.func 108) #[] #[.pointer (some ⟨bn, 0, none⟩), .pointer (some ⟨bo, 0, none⟩)], R3 ++ (R2 ++ R1)) rfl fun w h => ⟨⟨bn, bo, own, rfl, ?_, ?_, ?_⟩, by simpa only [List.append_assoc] using h⟩
  · rw [h1.froz]; exact ⟨by simp [BkI]⟩
  · rw [h2.froz]; exact ⟨by simp [BkI]⟩
  · have := SlI.ofOwn h3
    show SlI (R3 ++ (R2 ++ R1)) own Int inferInstance p
    exact SlI.left
theorem Grams1_tr {bn bo lb : Nat} {own : SV} {p : List Int} {n : Int} {τ ω : Type} (Lk : τ → List HP) (ix : τ → Nat) (C : τ → Prop) (B : ω → World → Prop) (hp : p.length ≤ 1000000) (hnb : n ≤ 9223372036854775807) [h1 : InI I bn 3 [.int .i64 n]] [h2 : InI I bo 42 [.slice own.a own.n own.cap]] [h3 : SlI I own Int inferInstance p]
    (hix : ∀ x, C x → ix x ≤ gramN p n)
    (hy : ∀ (g : SV) (x : τ), C x → ix x < gramN p n → YTr Tryz.prog lb #[.int .i64 (ix x), .slice g.a g.n g.cap] (SL w0 I (OwnS 3 g (gramA p n (ix x)) :: Lk x)) (fun y : τ ⊕ ω => .bool y.isLeft)
      (fun y w => match y with | .inl x' => (C x' ∧ ix x' = ix x + 1) ∧ SL w0 I (Lk x') w | .inr z => B z w))
    (x0 : τ) (hC : C x0) (h0 : ix x0 = 0) :
    Tr Tryz.prog 108 #[.func (.yield lb) #[] #[], .pointer (some ⟨bn, 0, none⟩), .pointer (some ⟨bo, 0, none⟩)] (SL w0 I (Lk x0)) (fun _ : τ ⊕ ω => .tuple #[])
      (fun y w => match y with | .inl x' => (C x' ∧ ix x' = gramN p n) ∧ SL w0 I (Lk x') w | .inr z => B z w) := by
  refine Tr.intro Tryz.func108 rfl Tryz.ntmps108 rfl ?_
  repeat' (first | ((first | refine WLA.m rfl rfl ?_ ?_ | refine WLA.st rfl ?_ ?_ | refine WLA.x rfl rfl ?_ (fun x => ?_) | refine WLA.x0 rfl ?_ (fun x => ?_)); first | exact trivial | exact rfl | assumption | omega | (refine ⟨?_, ?_⟩ <;> omega) | (simp only [Room, lenS]; omega) | decide | skip) | (refine Stp.go ?_) | (refine WPA.ifT ?_) | (refine WPA.ifF ?_) | ((first | refine WPA.dec ?_); first | refine .inl ⟨by first | assumption | omega | with_reducible rfl | (refine fun h => h ?_; first | assumption | with_reducible rfl) | (simp only [lenS] <;> omega) | decide, ?_⟩ | refine .inr ⟨by first | assumption | omega | with_reducible rfl | (refine fun h => h ?_; first | assumption | with_reducible rfl) | (simp only [lenS] <;> omega) | decide, ?_⟩) | ((first | refine WPA.ifBt ?_ ?_ | refine WPA.ifBnf ?_ ?_); assumption) | ((first | refine WPA.ifBnt ?_ ?_ | refine WPA.ifBf ?_ ?_); assumption) | ((first | refine WPA.ifs ?_ ?_ | refine WPA.ifB ?_ ?_) <;> intro hc))
  refine WPA.loopS (σ := τ) (fun x => [(0, .func (.yield lb) #[] #[]), (1, .pointer (some ⟨bn, 0, none⟩)), (2, .pointer (some ⟨bo, 0, none⟩)), (4, .int .i64 (ix x))]) C
    (fun x => SL w0 I (Lk x)) (fun x => gramN p n - ix x) x0 ⟨rfl, rfl, rfl, by rw [h0]; rfl, trivial⟩ hC (fun w h => h) ?_
  intro x ρ hCx
  have hxl := hix x hCx
  by_cases hn : 0 < n
  · by_cases hlt : ix x < gramN p n
    · have hg : (ix x : Int) ≤ (p.length : Int) - n := by unfold gramN at hlt; rw [if_neg (by omega)] at hlt; omega
      have hcl : (cutL p (ix x : Int) ((ix x : Int) + n)).length ≤ 1000000 := by have := gramA_len hlt; unfold gramA at this; omega
      repeat' (first | ((first | refine WLA.m rfl rfl ?_ ?_ | refine WLA.st rfl ?_ ?_ | refine WLA.x rfl rfl ?_ (fun x => ?_) | refine WLA.x0 rfl ?_ (fun x => ?_)); first | exact trivial | exact rfl | assumption | omega | (refine ⟨?_, ?_⟩ <;> omega) | (simp only [Room, lenS]; omega) | decide | skip) | (refine Stp.go ?_) | (guard_target =~ WLA _ _ _ _ _ (⟨_, .call ⟨.value (.func 46), _, _⟩, _, _, _, _⟩ :: _) _ _; refine WLA.call rfl rfl (Clone_tr hcl) ?_; rintro g) | (guard_target =~ WLA _ _ _ _ _ (⟨_, .call ⟨.value (.tmp _), _, _⟩, _, _, _, _⟩ :: _) _ _; refine WLA.yield rfl rfl ((hy g x hCx hlt).ent) ?_; rintro (x' | z)) | (refine WPA.ifT ?_) | (refine WPA.ifF ?_) | (refine WLA.no rfl rfl ?_) | ((first | refine WPA.dec ?_ | ((fail_if_success (guard_target =~ WLA _ _ _ _ _ _ (put1 _ _ (.bool true)) _)); (fail_if_success (guard_target =~ WLA _ _ _ _ _ _ (put1 _ _ (.bool false)) _)); refine WLA.dec rfl rfl ?_) | refine WLA.pk ?_); first | refine .inl ⟨by first | assumption | omega | with_reducible rfl | (refine fun h => h ?_; first | assumption | with_reducible rfl) | (simp only [lenS] <;> omega) | decide, ?_⟩ | refine .inr ⟨by first | assumption | omega | with_reducible rfl | (refine fun h => h ?_; first | assumption | with_reducible rfl) | (simp only [lenS] <;> omega) | decide, ?_⟩) | ((first | refine WPA.ifBt ?_ ?_ | refine WPA.ifBnf ?_ ?_); assumption) | ((first | refine WPA.ifBnt ?_ ?_ | refine WPA.ifBf ?_ ?_); assumption) | ((first | refine WPA.ifs ?_ ?_ | refine WPA.ifB ?_ ?_) <;> intro hc) | ((fail_if_success (guard_target =~ WLA _ _ _ _ _ _ (put1 _ _ (.bool true)) _)); (fail_if_success (guard_target =~ WLA _ _ _ _ _ _ (put1 _ _ (.bool false)) _)); (first | refine WLA.both rfl rfl ?_ ?_ | refine WLA.bothB rfl rfl ?_ ?_) <;> intro hg))
      · refine QQ.pre fun hC' => ?_
        exact QQ.loopS x' ⟨rfl, rfl, rfl, by rw [hC'.2]; rfl, trivial⟩ hC'.1 (by have := hC'.2; omega) (fun w h => h)
      · exact QQ.end_ rfl (.inr z) rfl fun w h => h
    · have hg : ¬ (ix x : Int) ≤ (p.length : Int) - n := by unfold gramN at hlt; rw [if_neg (by omega)] at hlt; omega
      repeat' (first | ((first | refine WLA.m rfl rfl ?_ ?_ | refine WLA.st rfl ?_ ?_ | refine WLA.x rfl rfl ?_ (fun x => ?_) | refine WLA.x0 rfl ?_ (fun x => ?_)); first | exact trivial | exact rfl | assumption | omega | (refine ⟨?_, ?_⟩ <;> omega) | (simp only [Room, lenS]; omega) | decide | skip) | (refine Stp.go ?_) | (refine WPA.ifT ?_) | (refine WPA.ifF ?_) | (refine WLA.no rfl rfl ?_) | ((first | refine WPA.dec ?_ | ((fail_if_success (guard_target =~ WLA _ _ _ _ _ _ (put1 _ _ (.bool true)) _)); (fail_if_success (guard_target =~ WLA _ _ _ _ _ _ (put1 _ _ (.bool false)) _)); refine WLA.dec rfl rfl ?_) | refine WLA.pk ?_); first | refine .inl ⟨by first | assumption | omega | with_reducible rfl | (refine fun h => h ?_; first | assumption | with_reducible rfl) | (simp only [lenS] <;> omega) | decide, ?_⟩ | refine .inr ⟨by first | assumption | omega | with_reducible rfl | (refine fun h => h ?_; first | assumption | with_reducible rfl) | (simp only [lenS] <;> omega) | decide, ?_⟩) | ((first | refine WPA.ifBt ?_ ?_ | refine WPA.ifBnf ?_ ?_); assumption) | ((first | refine WPA.ifBnt ?_ ?_ | refine WPA.ifBf ?_ ?_); assumption) | ((first | refine WPA.ifs ?_ ?_ | refine WPA.ifB ?_ ?_) <;> intro hc) | ((fail_if_success (guard_target =~ WLA _ _ _ _ _ _ (put1 _ _ (.bool true)) _)); (fail_if_success (guard_target =~ WLA _ _ _ _ _ _ (put1 _ _ (.bool false)) _)); (first | refine WLA.both rfl rfl ?_ ?_ | refine WLA.bothB rfl rfl ?_ ?_) <;> intro hg))
      exact QQ.endn rfl (.inl x) rfl fun w h => ⟨⟨hCx, by omega⟩, h⟩
  · have hz : gramN p n = 0 := by unfold gramN; rw [if_pos (by omega)]
    repeat' (first | ((first | refine WLA.m rfl rfl ?_ ?_ | refine WLA.st rfl ?_ ?_ | refine WLA.x rfl rfl ?_ (fun x => ?_) | refine WLA.x0 rfl ?_ (fun x => ?_)); first | exact trivial | exact rfl | assumption | omega | (refine ⟨?_, ?_⟩ <;> omega) | (simp only [Room, lenS]; omega) | decide | skip) | (refine Stp.go ?_) | (refine WPA.ifT ?_) | (refine WPA.ifF ?_) | (refine WLA.no rfl rfl ?_) | ((first | refine WPA.dec ?_ | ((fail_if_success (guard_target =~ WLA _ _ _ _ _ _ (put1 _ _ (.bool true)) _)); (fail_if_success (guard_target =~ WLA _ _ _ _ _ _ (put1 _ _ (.bool false)) _)); refine WLA.dec rfl rfl ?_) | refine WLA.pk ?_); first | refine .inl ⟨by first | assumption | omega | with_reducible rfl | (refine fun h => h ?_; first | assumption | with_reducible rfl) | (simp only [lenS] <;> omega) | decide, ?_⟩ | refine .inr ⟨by first | assumption | omega | with_reducible rfl | (refine fun h => h ?_; first | assumption | with_reducible rfl) | (simp only [lenS] <;> omega) | decide, ?_⟩) | ((first | refine WPA.ifBt ?_ ?_ | refine WPA.ifBnf ?_ ?_); assumption) | ((first | refine WPA.ifBnt ?_ ?_ | refine WPA.ifBf ?_ ?_); assumption) | ((first | refine WPA.ifs ?_ ?_ | refine WPA.ifB ?_ ?_) <;> intro hc) | ((fail_if_success (guard_target =~ WLA _ _ _ _ _ _ (put1 _ _ (.bool true)) _)); (fail_if_success (guard_target =~ WLA _ _ _ _ _ _ (put1 _ _ (.bool false)) _)); (first | refine WLA.both rfl rfl ?_ ?_ | refine WLA.bothB rfl rfl ?_ ?_) <;> intro hg))
    exact QQ.endn rfl (.inl x) rfl fun w h => ⟨⟨hCx, by omega⟩, h⟩
end
end Go.Proofs.YtamnobjdgjbmbaaGreat
namespace Go.Proofs.YtamnobjdgjbmbaaGreat
open Go Go.Fw Go.RowKit
set_option linter.unusedVariables false
set_option linter.unusedSimpArgs false
set_option maxRecDepth 100000
set_option maxHeartbeats 16000000
set_option synthInstance.maxHeartbeats 200000
set_option synthInstance.maxSize 100000
attribute [local irreducible] WPA WLA WDA WDQ WDE QQ seqQ blockQ loopQ fnQ OpP OpT Tr TrP SL SLd OwnS LitS Bk BkE Ob
def anyF (f : Fn) (x y : Array Value) : Any := ⟨.func f x y, rfl⟩
instance {f : Fn} {x y : Array Value} : Dec Any [.func f x y] (anyF f x y) := ⟨rfl⟩
def anyN : Any := ⟨.nilFunc, rfl⟩
instance : Dec Any [.nilFunc] anyN := ⟨rfl⟩
def EaI (J : Foot) (b : Nat) (gs : List (List Int)) (n : Int) : Prop := ∃ (own : SV) (fs : List Any), InI J b 167 [.slice own.a own.n own.cap] ∧ SlI J own Any inferInstance fs ∧ fs.length = gs.length ∧ ∀ k : Nat, k < fs.length → GrI J (at_ fs (k : Int)).1 (gs.getD k []) n
instance SubI.hereW {R I : Foot} : SubI (R ++ I) R := ⟨fun _ h => List.mem_append_left _ h⟩
section
variable {L L' : List HP} {w0 : World} {I : Foot}
theorem Grams_trS {s : SV} {p : List Int} {n : Int} [hr : RdS I L s Int inferInstance p] (hp : p.length ≤ 1000000) :
    Tr Tryz.prog 90 #[.slice s.a s.n s.cap, .int .i64 n] (SL w0 I L) (fun x : { y : Nat × Nat × Foot // GrI y.2.2 (.func (.func 108) #[] #[.pointer (some ⟨y.1, 0, none⟩), .pointer (some ⟨y.2.1, 0, none⟩)]) p n } => .func (.func 108) #[] #[.pointer (some ⟨x.1.1, 0, none⟩), .pointer (some ⟨x.1.2.1, 0, none⟩)])
      (fun x => SL w0 (x.1.2.2 ++ I) L) :=
  (Grams_tr hp).conv (fun _ h => h) fun x w hb => by
    obtain ⟨bn, bo, own, h1, h2, h3, h4⟩ := hb.1
    exact ⟨⟨(bn, bo, x.2), ⟨bn, bo, own, rfl, h2, h3, h4⟩⟩, h1, hb.2⟩
structure EW where
  j : Nat
  r : SV
  fs : List Any
  J : Foot
theorem Each_tr {s : SV} {hs : List SV} {gs : List (List Int)} {n : Int} [hr : RdS I L s SV inferInstance hs] (hg : GsI I hs gs) (hn : hs.length ≤ 1000) (hl : ∀ g ∈ gs, g.length ≤ 1000000) :
    Tr Tryz.prog 59 #[.slice s.a s.n s.cap, .int .i64 n] (SL w0 I L) (fun x : { y : Nat × Foot // EaI y.2 y.1 gs n } => .func (.func 91) #[] #[.pointer (some ⟨x.1.1, 0, none⟩)]) (fun x => SL w0 (x.1.2 ++ I) L) := by
  refine Tr.intro Tryz.func59 rfl Tryz.ntmps59 rfl ?_
  repeat' (first | ((first | refine WLA.m rfl rfl ?_ ?_ | refine WLA.st rfl ?_ ?_ | refine WLA.x rfl rfl ?_ (fun x => ?_) | refine WLA.x0 rfl ?_ (fun x => ?_)); first | exact trivial | exact rfl | assumption | omega | (refine ⟨?_, ?_⟩ <;> omega) | (simp only [Room, lenS]; omega) | decide | skip) | (refine Stp.go ?_) | (refine WPA.ifT ?_) | (refine WPA.ifF ?_) | ((first | refine WPA.dec ?_); first | refine .inl ⟨by first | assumption | omega | with_reducible rfl | (refine fun h => h ?_; first | assumption | with_reducible rfl) | (simp only [lenS] <;> omega) | decide, ?_⟩ | refine .inr ⟨by first | assumption | omega | with_reducible rfl | (refine fun h => h ?_; first | assumption | with_reducible rfl) | (simp only [lenS] <;> omega) | decide, ?_⟩) | ((first | refine WPA.ifBt ?_ ?_ | refine WPA.ifBnf ?_ ?_); assumption) | ((first | refine WPA.ifBnt ?_ ?_ | refine WPA.ifBf ?_ ?_); assumption) | ((first | refine WPA.ifs ?_ ?_ | refine WPA.ifB ?_ ?_) <;> intro hc))
  rename_i x0
  revert x; intro t5
  refine WPA.loopS (σ := EW) (fun y => [(0, .slice s.a s.n s.cap), (1, .int .i64 n), (5, .pointer (some ⟨t5, 0, none⟩)), (11, .slice s.a s.n s.cap), (12, .int .i64 hs.length), (13, .int .i64 y.j)])
    (fun y => (y.j ≤ hs.length ∧ y.fs.length = y.j) ∧ ∀ k : Nat, k < y.fs.length → GrI y.J (at_ y.fs (k : Int)).1 (gs.getD k []) n) (fun y => SL w0 (y.J ++ I) (Bk t5 167 [.slice y.r.a y.r.n y.r.cap] :: OwnS 169 y.r y.fs :: L)) (fun y => hs.length - y.j) ⟨0, x0, [], []⟩ ⟨rfl, rfl, rfl, rfl, rfl, rfl, trivial⟩ ⟨⟨Nat.zero_le _, rfl⟩, fun k hk => by simp at hk⟩ (fun w h => ?_) ?_
  · have e : List.replicate (Int.toNat 0) anyN = ([] : List Any) := rfl
    rw [e] at h
    exact h.to
  rintro ⟨j, r, fs, J⟩ ρ ⟨⟨hj, hfl⟩, hf⟩
  dsimp only at hj hfl hf ⊢
  by_cases hlt : j < hs.length
  · have hlt' : (j : Int) < hs.length := by omega
    have hgj := (hg.2 j hlt).sub (I' := J ++ I)
    have hgl : (gs.getD j []).length ≤ 1000000 := by
      have := hg.1
      rw [List.getD_eq_getElem?_getD, List.getElem?_eq_getElem (by omega)]; exact hl _ (List.getElem_mem _)
    repeat' (first | ((first | refine WLA.m rfl rfl ?_ ?_ | refine WDQ.m rfl rfl ?_ ?_ | refine WLA.st rfl ?_ ?_ | refine WLA.x rfl rfl ?_ (fun x => ?_) | refine WLA.x0 rfl ?_ (fun x => ?_)); first | exact trivial | exact rfl | assumption | omega | (refine ⟨?_, ?_⟩ <;> omega) | (simp only [Room, lenS]; omega) | decide | skip) | (refine Stp.go ?_) | (guard_target =~ WLA _ _ _ _ _ (⟨_, .call ⟨.value (.func 90), _, _⟩, _, _, _, _⟩ :: _) _ _; refine WLA.call rfl rfl (Grams_trS hgl) ?_; rintro ⟨⟨bn, bo, R⟩, hG⟩; dsimp only at hG ⊢) | (refine WPA.ifT ?_) | (refine WPA.ifF ?_) | ((first | refine WPA.dec ?_); first | refine .inl ⟨by first | assumption | omega | with_reducible rfl | (refine fun h => h ?_; first | assumption | with_reducible rfl) | (simp only [lenS] <;> omega) | decide, ?_⟩ | refine .inr ⟨by first | assumption | omega | with_reducible rfl | (refine fun h => h ?_; first | assumption | with_reducible rfl) | (simp only [lenS] <;> omega) | decide, ?_⟩) | ((first | refine WPA.ifBt ?_ ?_ | refine WPA.ifBnf ?_ ?_); assumption) | ((first | refine WPA.ifBnt ?_ ?_ | refine WPA.ifBf ?_ ?_); assumption) | ((first | refine WPA.ifs ?_ ?_ | refine WPA.ifB ?_ ?_) <;> intro hc) | (guard_target =~ WPA _ _ _ (.region 5 _ true) _ _ _; refine WPA.drawT 5 (.q 0 (.q 1 (.q 2 (.e 3 (.e 4 .fin))))) mixed ?_ ?_; kernel_rfl) | (refine WDA.finish (tl := [⟨_, _, _, _, _, _⟩, ⟨_, _, _, _, _, _⟩]) rfl ?_) | (refine WDQ.see rfl ?_) | (refine WDE.see rfl ?_) | (refine WDE.alloc rfl rfl (fun w h => h) (fun x => ?_)) | (refine WDE.stE rfl ?_) | (refine WDE.x rfl rfl ?_ ?_ (fun x => ?_); rotate_left 1; (intro x w h; first | exact h | exact Ent.drop1.sl h | exact SL.unI h | exact SL.to h); rotate_left 1; first | exact trivial | exact rfl | assumption | omega | (refine ⟨?_, ?_⟩ <;> omega) | (simp only [Room, lenS]; omega) | decide | skip) | (guard_target =~ WDE _ _ _ _ _ _ _ ⟨_, .call ⟨.value (.func 90), _, _⟩, _, _, _, _⟩ _ _ _; refine WDE.call rfl rfl (Grams_trS hgl) ?_ ?_; (intro x w h; first | exact h | exact Ent.drop1.sl h | exact SL.unI h | exact SL.to h); rintro ⟨⟨bn, bo, R⟩, hG⟩; dsimp only at hG ⊢) | (guard_target =~ WDW _ _ _ _ _ _ _ ⟨_, .call ⟨.value (.func 90), _, _⟩, _, _, _, _⟩ _ _ _; refine WDW.call rfl rfl (Grams_trS hgl) ?_; rintro ⟨⟨bn, bo, R⟩, hG⟩; dsimp only at hG ⊢))
    refine QQ.loopS ⟨j + 1, x, fs ++ [anyF (.func 108) #[] #[.pointer (some ⟨bn, 0, none⟩), .pointer (some ⟨bo, 0, none⟩)]], R ++ J⟩ ⟨rfl, rfl, rfl, rfl, rfl, rfl, trivial⟩ ⟨⟨hlt, by simp; omega⟩, fun k hk => ?_⟩ (by dsimp only; omega) (fun w h => by dsimp only; rw [List.append_assoc]; exact h.to)
    dsimp only at hk ⊢
    rw [at_nat _ k hk, List.getElem_append]
    by_cases e : k < fs.length
    · rw [dif_pos e, ← at_nat fs k e]; exact (hf k e).sub
    · rw [dif_neg e]
      have e2 : k = j := by rw [List.length_append, List.length_singleton] at hk; omega
      subst e2
      simp only [List.getElem_singleton]
      exact hG.sub
  · have hlt' : ¬ (j : Int) < hs.length := by omega
    repeat' ((fail_if_success (guard_target =~ WPA _ _ _ (.region 7 _ _) _ _ _)); first | ((first | refine WLA.m rfl rfl ?_ ?_ | refine WDQ.m rfl rfl ?_ ?_ | refine WDP.m rfl rfl ?_ ?_ | refine WLA.st rfl ?_ ?_ | refine WLA.x rfl rfl ?_ (fun x => ?_) | refine WLA.x0 rfl ?_ (fun x => ?_) | refine WDW.x rfl rfl ?_ (fun x => ?_) | refine WDW.st rfl ?_ ?_); first | exact trivial | exact rfl | assumption | omega | (refine ⟨?_, ?_⟩ <;> omega) | (simp only [Room, lenS]; omega) | decide | skip) | (refine Stp.go ?_) | (refine WPA.ifT ?_) | (refine WPA.ifF ?_) | ((first | refine WPA.dec ?_); first | refine .inl ⟨by first | assumption | omega | with_reducible rfl | (refine fun h => h ?_; first | assumption | with_reducible rfl) | (simp only [lenS] <;> omega) | decide, ?_⟩ | refine .inr ⟨by first | assumption | omega | with_reducible rfl | (refine fun h => h ?_; first | assumption | with_reducible rfl) | (simp only [lenS] <;> omega) | decide, ?_⟩) | ((first | refine WPA.ifBt ?_ ?_ | refine WPA.ifBnf ?_ ?_); assumption) | ((first | refine WPA.ifBnt ?_ ?_ | refine WPA.ifBf ?_ ?_); assumption) | ((first | refine WPA.ifs ?_ ?_ | refine WPA.ifB ?_ ?_) <;> intro hc) | (guard_target =~ WPA _ _ _ (.region 5 _ true) _ _ _; refine WPA.drawT 5 (.p 0 (.p 1 (.p 2 (.w 3 (.e 4 .fin))))) mixed ?_ ?_; kernel_rfl) | (refine WDA.finish (tl := [⟨_, _, _, _, _, _⟩, ⟨_, _, _, _, _, _⟩]) rfl ?_) | (refine WDQ.see rfl ?_) | (refine WDP.see rfl ?_) | (refine WDW.see rfl ?_) | (refine WDE.see rfl ?_) | (refine WDE.alloc rfl rfl (fun w h => h) (fun x => ?_)) | (refine WDE.stE rfl ?_) | (refine WDE.x rfl rfl ?_ ?_ (fun x => ?_); rotate_left 1; (intro x w h; first | exact h | exact Ent.drop1.sl h | exact SL.unI h | exact SL.to h); rotate_left 1; first | exact trivial | exact rfl | assumption | omega | (refine ⟨?_, ?_⟩ <;> omega) | (simp only [Room, lenS]; omega) | decide | skip))
    refine WPA.freeze fun R1 h1 => ?_
    refine WPA.freeze fun R2 h2 => ?_
    repeat' (first | ((first | refine WLA.m rfl rfl ?_ ?_ | refine WLA.st rfl ?_ ?_ | refine WLA.x rfl rfl ?_ (fun x => ?_) | refine WLA.x0 rfl ?_ (fun x => ?_)); first | exact trivial | exact rfl | assumption | omega | (refine ⟨?_, ?_⟩ <;> omega) | (simp only [Room, lenS]; omega) | decide | skip) | (refine Stp.go ?_) | (refine WPA.ifT ?_) | (refine WPA.ifF ?_) | ((first | refine WPA.dec ?_); first | refine .inl ⟨by first | assumption | omega | with_reducible rfl | (refine fun h => h ?_; first | assumption | with_reducible rfl) | (simp only [lenS] <;> omega) | decide, ?_⟩ | refine .inr ⟨by first | assumption | omega | with_reducible rfl | (refine fun h => h ?_; first | assumption | with_reducible rfl) | (simp only [lenS] <;> omega) | decide, ?_⟩) | ((first | refine WPA.ifBt ?_ ?_ | refine WPA.ifBnf ?_ ?_); assumption) | ((first | refine WPA.ifBnt ?_ ?_ | refine WPA.ifBf ?_ ?_); assumption) | ((first | refine WPA.ifs ?_ ?_ | refine WPA.ifB ?_ ?_) <;> intro hc))
    refine QQ.end_ rfl ⟨(t5, R2 ++ (R1 ++ J)), r, fs, ?_, ?_, ?_, fun k hk => (hf k hk).sub⟩ rfl fun w h => by simpa only [List.append_assoc] using h
    · have : InI (R1 ++ J) t5 167 [.slice r.a r.n r.cap] := by rw [h1.froz]; infer_instance
      exact InI.sub this
    · have := SlI.ofOwn h2
      exact SlI.left
    · have := hg.1; omega
end
end Go.Proofs.YtamnobjdgjbmbaaGreat
