/- Texts that TallyStats_law leans on, part 14. Conditions: none. -/
import Derived.Shelf.SlSortCmp.NoneTotal
import Derived.Shelf.SlLaysF0
import Derived.Test.YtamnobjdgjbmbaaGreatProg
import Derived.Test.YtamnobjdgjbmbaaGreatQs13
namespace Go.Fw
open Go Go.RowKit
set_option linter.unusedVariables false
theorem SL.borrow {w0 : World} {I : Foot} {p : HP} {L : List HP} {w : World} (h : SL w0 I (p :: L) w) : ∃ R, p R ∧ SL w0 (R ++ I) L w ∧ ∀ L' w', SL w0 (R ++ I) L' w' → SL w0 I (p :: L') w' := by
  obtain ⟨H, R, Rs, h1, hp, h2, h3⟩ := h.uncons
  refine ⟨R, hp, ?_, fun L' w' h' => ?_⟩
  · have key : ∀ (R : Foot) (H : HeapP) (I : Foot), (∀ b o, (b, o) ∈ I → H b = some o) → St w0 H (R ++ Rs.flatten) w → ∃ H', (∀ b o, (b, o) ∈ R ++ I → H' b = some o) ∧ St w0 H' Rs.flatten w := by
      intro R
      induction R with
      | nil => intro H I h1 h3; exact ⟨H, h1, h3⟩
      | cons q R ih =>
        intro H I h1 h3
        obtain ⟨H1, hle, hb, h4⟩ := St.freeze (b := q.1) (o := q.2) h3
        obtain ⟨H2, h5, h6⟩ := ih H1 ((q.1, q.2) :: I) (fun b o hm => by
          rcases List.mem_cons.1 hm with e | hm
          · cases e; exact hb
          · exact hle _ _ (h1 b o hm)) h4
        refine ⟨H2, fun b o hm => h5 b o ?_, h6⟩
        simp only [List.cons_append, List.mem_cons, List.mem_append] at hm ⊢
        rcases hm with e | hm | hm
        · exact .inr (.inl e)
        · exact .inl hm
        · exact .inr (.inr hm)
    obtain ⟨H', h4, h5⟩ := key R H I h1 h3
    exact ⟨H', Rs, h4, h2, h5⟩
  · obtain ⟨H', Rs', a1, a2, a3⟩ := h'
    classical
    have hR : ∀ q ∈ R, H q.1 = none ∧ w0.heap.size ≤ q.1 := fun q hq => (h3.own q (List.mem_append_left _ hq)).2
    have hR2 : ∀ q ∈ R, H' q.1 = some q.2 := fun q hq => a1 q.1 q.2 (List.mem_append_left _ hq)
    have hn := h3.nodup
    rw [List.map_append, List.nodup_append] at hn
    refine SL.cons (H := fun b => if b ∈ R.map (·.1) then none else H' b) (fun b o hb => ?_) hp a2 ⟨a3.below, fun b o hb => ?_, fun q hq => ?_, ?_, a3.drw⟩
    · have hnb : ¬ b ∈ R.map (·.1) := fun hm => by
        obtain ⟨q, hq, rfl⟩ := List.mem_map.1 hm
        have := h1 _ _ hb
        rw [(hR q hq).1] at this; cases this
      simp only [hnb, if_false]
      exact a1 b o (List.mem_append_right _ hb)
    · by_cases hm : b ∈ R.map (·.1)
      · simp only [hm, if_true] at hb; cases hb
      · simp only [hm, if_false] at hb; exact a3.imm b o hb
    · rcases List.mem_append.1 hq with hq | hq
      · have hm : q.1 ∈ R.map (·.1) := List.mem_map_of_mem hq
        exact ⟨a3.imm _ _ (hR2 q hq), by simp only [hm, if_true], (hR q hq).2⟩
      · obtain ⟨g1, g2, g3⟩ := a3.own q hq
        refine ⟨g1, ?_, g3⟩
        show (if q.1 ∈ R.map (·.1) then none else H' q.1) = none
        split
        · rfl
        · exact g2
    · rw [List.map_append, List.nodup_append]
      refine ⟨hn.1, a3.nodup, fun a ha b hb e => ?_⟩
      obtain ⟨q, hq, rfl⟩ := List.mem_map.1 ha
      obtain ⟨r, hr, rfl⟩ := List.mem_map.1 hb
      have := hR2 q hq
      rw [e, (a3.own r hr).2.1] at this; cases this
theorem Tr.ap {P : Program} {f : FuncId} {args : Array Value} {A : World → Prop} {τ : Type} {val : τ → Value} {B : τ → World → Prop} (h : Tr P f args A val B) {w : World} (hw : A w) : Calls P f args w fun e w' => ∃ x, e = .returned (val x) ∧ B x w' := h w hw
theorem Tr.mk {P : Program} {f : FuncId} {args : Array Value} {A : World → Prop} {τ : Type} {val : τ → Value} {B : τ → World → Prop} (h : ∀ w, A w → Calls P f args w fun e w' => ∃ x, e = .returned (val x) ∧ B x w') : Tr P f args A val B := h
end Go.Fw
namespace Go.Proofs.YtamnobjdgjbmbaaGreat
open Go Go.Fw Go.RowKit
set_option linter.unusedVariables false
set_option linter.unusedSimpArgs false
set_option maxRecDepth 100000
set_option maxHeartbeats 16000000
set_option synthInstance.maxHeartbeats 200000
set_option synthInstance.maxSize 100000
attribute [local irreducible] WPA WLA WDA WDQ WDE QQ seqQ blockQ loopQ fnQ OpP OpT Tr TrP SL SLd OwnS LitS Bk BkE Ob
attribute [local irreducible] vS keyS parL RowH CtsH
theorem remL_start {kg : SV → List Int} {tp : SV → List Pe} : ∀ hs : List SV, remL kg tp (hs.map fun h => (h, 0)) = (hs.flatMap tp).map (moP kg)
  | [] => rfl
  | h :: hs => by
    have e : remL kg tp ((h :: hs).map fun h => (h, 0)) = remC kg tp (h, 0) ++ remL kg tp (hs.map fun h => (h, 0)) := rfl
    rw [e, remL_start hs, List.flatMap_cons, List.map_append]; rfl
theorem fold_fst {kg : SV → List Int} {G : SV → Prop} : ∀ {ps a : List Pe}, (∀ p ∈ ps, G p.1) → (∀ p ∈ a, G p.1) → ∀ p ∈ ps.foldl (putL kg) a, G p.1
  | [], a, _, ha => ha
  | x :: ps, a, hp, ha => by
    rw [List.foldl_cons]
    exact fold_fst (fun p h => hp p (List.mem_cons_of_mem _ h)) (putL_grg ha (hp x (List.mem_cons_self ..)))
def LsI (J : Foot) (vs : List SV) (ls : List (List Ct)) : Prop := vs.length = ls.length ∧ ∀ j : Nat, j < ls.length → LstI J (at_ vs (j : Int)) (ls.getD j [])
theorem LsI.good {J : Foot} {vs : List SV} {ls : List (List Ct)} (h : LsI J vs ls) (hg : ∀ ms ∈ ls, Ris id ms ∧ ∀ m ∈ ms, m.1.length ≤ 1000000) {w0 : World} {L : List HP} {w : World} (hw : SL w0 J L w) :
    (∀ v ∈ vs, GoodL J (rd Int J) (rd Pe J) v) ∧ (vs.flatMap (rd Pe J)).map (moP (rd Int J)) = ls.flatten := by
  have hl := h.1
  have key : ∀ j (hj : j < vs.length), SlI J vs[j] Pe inferInstance (rd Pe J vs[j]) ∧ GrG J (rd Int J) (rd Pe J vs[j]) ∧ (rd Pe J vs[j]).map (ctP (rd Int J)) = ls[j]'(by omega) := fun j hj => by
    have h1 := (h.2 j (by omega)).good hw
    rw [at_nat vs j hj, List.getD_eq_getElem?_getD, List.getElem?_eq_getElem (show j < ls.length by omega), Option.getD_some] at h1
    exact h1
  constructor
  · intro v hv
    obtain ⟨j, hj, rfl⟩ := List.getElem_of_mem hv
    obtain ⟨k1, k2, k3⟩ := key j hj
    have hgj := hg _ (List.getElem_mem (show j < ls.length by omega))
    rw [← k3] at hgj
    refine ⟨k1, fun p hp => ⟨k2 p hp, ?_⟩, ?_⟩
    · exact hgj.2 _ (List.mem_map.2 ⟨p, hp, rfl⟩)
    · have := hgj.1
      unfold Ris at this ⊢
      rw [List.pairwise_map] at this
      exact this
  · have e : vs.map (fun v => (rd Pe J v).map (ctP (rd Int J))) = ls := List.ext_getElem (by simp [hl]) fun j j1 j2 => by
      rw [List.getElem_map]; exact (key j (by rw [List.length_map] at j1; exact j1)).2.2
    rw [← e]
    clear e key hg hl h
    induction vs with
    | nil => rfl
    | cons v vs ih => rw [List.flatMap_cons, List.map_append, ih, List.map_cons, List.flatten_cons]; rfl
section
variable {L L' : List HP} {w0 : World} {I : Foot}
theorem Lists_trC {s : SV} {vs : List SV} {ls : List (List Ct)} [hr : RdS I L s SV inferInstance vs] (hv : LsI I vs ls) (hg : ∀ ms ∈ ls, Ris id ms ∧ ∀ m ∈ ms, m.1.length ≤ 1000000) (hn : ls.length + ls.flatten.length ≤ 50000) :
    Tr Tryz.prog 36 #[.slice s.a s.n s.cap] (SL w0 I L) (fun x : SV => .slice x.a x.n x.cap) (fun x => SL w0 I (CtsH x (mrg ls.flatten) :: L)) := by
  refine Tr.mk fun w hw => ?_
  obtain ⟨h1, h2⟩ := hv.good hg hw
  have hl := hv.1
  have he := remL_start (kg := rd Int I) (tp := rd Pe I) vs
  rw [h2] at he
  have := Lists_tr (s := s) (L := L) (w0 := w0) h1 (by rw [he]; omega)
  rw [he] at this
  refine (this.conv (fun _ h => h) fun x w h => ?_).ap hw
  exact ⟨x.1, rfl, (CtsH.fold (x := x.1) h.1).sl h.2⟩
theorem rLists_trC {s : SV} {vs : List SV} {ls : List (List Ct)} [hr : SlI I s SV inferInstance vs] (hv : LsI I vs ls) (hg : ∀ ms ∈ ls, Ris id ms ∧ ∀ m ∈ ms, m.1.length ≤ 1000000) (hn : ls.length + ls.flatten.length ≤ 50000) :
    Tr Tryz.prog 20 #[.slice s.a s.n s.cap] (SL w0 I L) (fun x : SV × Foot => .slice x.1.a x.1.n x.1.cap) (fun x w => (SubI x.2 I ∧ LstI x.2 x.1 (mrg ls.flatten)) ∧ SL w0 x.2 L w) := by
  refine Tr.mk fun w hw => ?_
  obtain ⟨h1, h2⟩ := hv.good hg hw
  have hl := hv.1
  have hlen := congrArg List.length h2
  rw [List.length_map] at hlen
  refine ((rLists_tr (s := s) (L := L) (w0 := w0) h1 (by omega) (by omega)).conv (fun _ h => h) fun x w h => ?_).ap hw
  obtain ⟨R, hR, h3⟩ := h.freeze
  refine ⟨(x, R ++ I), rfl, ⟨inferInstance, ?_⟩, h3⟩
  have hf := fold_fst (kg := rd Int I) (G := fun g => SlI I g Int inferInstance (rd Int I g)) (ps := vs.flatMap (rd Pe I)) (a := []) (fun p hp => by
    obtain ⟨v, hv, hp⟩ := List.mem_flatMap.1 hp
    exact ((h1 v hv).el p hp).1) (by simp)
  have hc := fold_cell (kg := rd Int I) (vs.flatMap (rd Pe I)) []
  rw [h2] at hc
  have hms : mrg ls.flatten = ((vs.flatMap (rd Pe I)).foldl (putL (rd Int I)) []).map (ctP (rd Int I)) := hc.symm
  rw [hms]
  have sx : SlI (R ++ I) x Pe inferInstance ((vs.flatMap (rd Pe I)).foldl (putL (rd Int I)) []) := by have := SlI.ofOwn hR; exact SlI.left
  exact LstI.ofMap sx fun p hp => (hf p hp).sub
section
variable {s : SV} {ms : List Ct}
theorem runWrite_trI {S : Nat} {m m' : BS} {o e a b : Int} {ids : List Int} [h : FindK L StoreR S m L'] (ok : m.Ok) (hs : LstI I s ms) (hl : ∀ m ∈ ms, m.1.length ≤ 1000) (hn : ms.length ≤ 1000000) (he : e = errW o ms m) (hx : WrX o ms m e a b m' ids) :
    Tr Tryz.prog 22 #[.pointer (some ⟨S, 0, none⟩), .int .i64 o, .slice s.a s.n s.cap] (SL w0 I L) (fun r : SV => .tuple #[.agg #[.int .i64 a, .int .i64 b, .slice r.a r.n r.cap], .int .i64 e]) (fun r => SL w0 I (OwnS 3 r ids :: StoreR S m' :: L')) := by
  refine Tr.mk fun w hw => ?_
  obtain ⟨h1, h2, h3⟩ := hs.good hw
  rw [← h3] at he hx hl hn
  rw [List.length_map] at hn
  exact (runWrite_tr ok h1 h2 (fun p hp => hl _ (List.mem_map.2 ⟨p, hp, rfl⟩)) hn he hx).ap hw
theorem Wrong_trI {o : Int} (hs : LstI I s ms) (hl : ∀ m ∈ ms, m.1.length ≤ 1000000) (hn : ms.length ≤ 1000000) :
    Tr Tryz.prog 10 #[.int .i64 o, .slice s.a s.n s.cap] (SL w0 I L) (fun _ : Unit => .int .i64 (wrong o ms)) (fun _ => SL w0 I L) := by
  refine Tr.mk fun w hw => ?_
  obtain ⟨h1, h2, h3⟩ := hs.good hw
  have := Wrong_tr (w0 := w0) (L := L) (o := o) h1 h2 (fun p hp => by rw [← h3] at hl; exact hl _ (List.mem_map.2 ⟨p, hp, rfl⟩)) (by rw [← h3, List.length_map] at hn; exact hn)
  rw [h3] at this
  exact this.ap hw
theorem rBytes_trI {o : Int} (hs : LstI I s ms) (hw0 : wrong o ms = 0) (hn : ms.length ≤ 1000000) :
    Tr Tryz.prog 11 #[.slice s.a s.n s.cap] (SL w0 I L) (fun _ : Unit => .string (byS ms)) (fun _ => SL w0 I L) := by
  refine Tr.mk fun w hw => ?_
  obtain ⟨h1, h2, h3⟩ := hs.good hw
  have hg := wrong_good hw0
  have ho := (wrong_zero hw0).1
  have := rBytes_tr (w0 := w0) (L := L) h1 h2 (fun p hp => by
    rw [← h3] at hg
    have k := hg _ (List.mem_map.2 ⟨p, hp, rfl⟩)
    have k1 : ((rd Int I p.1).length : Int) = o := k.1
    have k2 : 1 ≤ p.2 := k.2.2.1
    exact ⟨k.2.1, by omega, by omega, k.2.2.2⟩) (by rw [← h3, List.length_map] at hn; exact hn)
  rw [h3] at this
  exact this.ap hw
end
end
theorem wrong_len8 {o : Int} {ms : List Ct} (h : wrong o ms = 0) : ∀ m ∈ ms, m.1.length ≤ 8 := fun m hm => by
  have h1 := (wrong_good h m hm).1
  have h2 := (wrong_zero h).1
  omega
theorem free_step {o : Int} {m m1 : BS} {new : List Int} {u : ByteArray} {a g b : List PR} (h : RInv o m (a ++ (g ++ b))) (F : Filled m m1 new u) {i : Nat} (hi : i < g.length) :
    ((idsF (g.take i)).foldl BS.free m1).Ok ∧ Right ((idsF (g.take i)).foldl BS.free m1) (g.getD i ([], [])).1 ∧ (idsF (g.take (i + 1))).foldl BS.free m1 = ((g.getD i ([], [])).1).foldl BS.free ((idsF (g.take i)).foldl BS.free m1) := by
  have hn := h.nodup
  have hh := h.has
  rw [idsF, List.flatMap_append, List.flatMap_append] at hn hh
  have hg : (g.flatMap Prod.fst).Nodup := (List.nodup_append.1 (List.nodup_append.1 hn).2.1).1
  have hG : ∀ i ∈ g.flatMap Prod.fst, Has m1.tk i := fun i hi => (F.keep i (hh i (List.mem_append_right _ (List.mem_append_left _ hi)))).1
  have e : g = g.take i ++ (g.getD i ([], []) :: g.drop (i + 1)) := by
    rw [List.getD_eq_getElem?_getD, List.getElem?_eq_getElem hi, Option.getD_some, List.getElem_cons_drop, List.take_append_drop]
  have e1 : g.take (i + 1) = g.take i ++ [g.getD i ([], [])] := by rw [List.take_add_one, List.getElem?_eq_getElem hi, List.getD_eq_getElem?_getD, List.getElem?_eq_getElem hi]; rfl
  have e2 : g.flatMap Prod.fst = (g.take i).flatMap Prod.fst ++ ((g.getD i ([], [])).1 ++ (g.drop (i + 1)).flatMap Prod.fst) := by
    conv => lhs; rw [e]
    rw [List.flatMap_append, List.flatMap_cons]
  rw [e2] at hg hG
  rw [e1]
  have g1 := List.nodup_append.1 hg
  have g2 := List.nodup_append.1 g1.2.1
  have D := frees ((g.take i).flatMap Prod.fst) F.ok g1.1 fun j hj => hG j (List.mem_append_left _ hj)
  refine ⟨D.ok, ⟨fun j hj => (D.keep j (hG j (List.mem_append_right _ (List.mem_append_left _ hj))) fun hk => g1.2.2 j hk j (List.mem_append_left _ hj) rfl).1, g2.1⟩, ?_⟩
  rw [idsF, List.flatMap_append, List.foldl_append, List.flatMap_singleton]
end Go.Proofs.YtamnobjdgjbmbaaGreat
namespace Go.Proofs.YtamnobjdgjbmbaaGreat
open Go Go.Fw Go.RowKit
set_option linter.unusedVariables false
set_option linter.unusedSimpArgs false
set_option maxRecDepth 100000
set_option maxHeartbeats 16000000
set_option synthInstance.maxHeartbeats 200000
set_option synthInstance.maxSize 100000
attribute [local irreducible] WPA WLA WDA WDQ WDE QQ seqQ blockQ loopQ fnQ OpP OpT Tr TrP SL SLd OwnS LitS Bk BkE Ob
def one (g : List Int) : Ct := (g, 1)
def totN (l : List Ct) : Int := (l.map Prod.snd).sum
theorem totN_cons (x : Ct) (l : List Ct) : totN (x :: l) = x.2 + totN l := rfl
theorem totN_app (a b : List Ct) : totN (a ++ b) = totN a + totN b := by unfold totN; rw [List.map_append, List.sum_append]
def Pos (l : List Ct) : Prop := ∀ x ∈ l, 1 ≤ x.2
theorem totN_len {l : List Ct} (h : Pos l) : (l.length : Int) ≤ totN l := by
  induction l with
  | nil => exact Int.le_refl 0
  | cons x l ih =>
    have h1 := ih fun y hy => h y (List.mem_cons_of_mem _ hy)
    have h2 := h x (List.mem_cons_self ..)
    rw [totN_cons, List.length_cons]; omega
theorem totN_mem {l : List Ct} (h : Pos l) {x : Ct} (hx : x ∈ l) : x.2 ≤ totN l := by
  induction l with
  | nil => cases hx
  | cons y l ih =>
    have hp : Pos l := fun y hy => h y (List.mem_cons_of_mem _ hy)
    have h1 := totN_len hp
    have h2 := h y (List.mem_cons_self ..)
    rw [totN_cons]
    rcases List.mem_cons.1 hx with rfl | hx
    · omega
    · have := ih hp hx; omega
theorem addN_small {a b : Int} (h : -9223372036854775808 ≤ a + b ∧ a + b ≤ 9223372036854775807) : addN a b = a + b := by
  obtain ⟨k, h1, h2, h3⟩ := addN_mod a b
  omega
theorem put_tot {x : Ct} (hx : 1 ≤ x.2) : ∀ {l : List Ct}, Pos l → totN l + x.2 ≤ 1000000 → Pos (putM l x) ∧ totN (putM l x) = totN l + x.2
  | [], _, _ => ⟨fun y hy => by rw [List.mem_singleton.1 hy]; exact hx, by show totN [x] = _; rw [totN_cons]; show x.2 + 0 = 0 + x.2; omega⟩
  | y :: l, hp, ht => by
    have hpl : Pos l := fun z hz => hp z (List.mem_cons_of_mem _ hz)
    have hy := hp y (List.mem_cons_self ..)
    have hl := totN_len hpl
    rw [totN_cons] at ht
    show Pos (putL id (y :: l) x) ∧ totN (putL id (y :: l) x) = _
    rw [putL]
    split
    · refine ⟨fun z hz => ?_, by rw [totN_cons, totN_cons]; omega⟩
      rcases List.mem_cons.1 hz with rfl | hz
      · exact hx
      · exact hp z hz
    · split
      · have e := addN_small (a := y.2) (b := x.2) (by omega)
        refine ⟨fun z hz => ?_, by rw [totN_cons, totN_cons, e]; omega⟩
        rcases List.mem_cons.1 hz with rfl | hz
        · show 1 ≤ addN y.2 x.2; omega
        · exact hpl z hz
      · have ih := put_tot hx hpl (by omega)
        refine ⟨fun z hz => ?_, by rw [totN_cons, totN_cons]; have := ih.2; unfold putM at this; omega⟩
        rcases List.mem_cons.1 hz with rfl | hz
        · exact hy
        · exact ih.1 z hz
theorem fold_tot : ∀ {l a : List Ct}, Pos l → Pos a → totN a + totN l ≤ 1000000 → Pos (l.foldl putM a) ∧ totN (l.foldl putM a) = totN a + totN l
  | [], a, _, ha, _ => ⟨ha, by show totN a = totN a + 0; omega⟩
  | x :: l, a, hl, ha, ht => by
    have hx := hl x (List.mem_cons_self ..)
    have hll : Pos l := fun z hz => hl z (List.mem_cons_of_mem _ hz)
    have h0 := totN_len hll
    rw [totN_cons] at ht
    have h1 := put_tot hx ha (by omega)
    have h2 := fold_tot hll h1.1 (by rw [h1.2]; omega)
    rw [List.foldl_cons, totN_cons]
    exact ⟨h2.1, by rw [h2.2, h1.2]; omega⟩
theorem mrg_tot {l : List Ct} (hl : Pos l) (ht : totN l ≤ 1000000) : Pos (mrg l) ∧ totN (mrg l) = totN l := by
  have := fold_tot (a := []) hl (fun x hx => by cases hx) (by show 0 + totN l ≤ _; omega)
  refine ⟨this.1, this.2.trans ?_⟩
  show 0 + totN l = _; omega
theorem one_tot : ∀ gs : List (List Int), Pos (gs.map one) ∧ totN (gs.map one) = gs.length
  | [] => ⟨fun x hx => (by cases hx), rfl⟩
  | g :: gs => by
    have ih := one_tot gs
    rw [List.map_cons]
    refine ⟨fun x hx => ?_, by rw [totN_cons, ih.2, List.length_cons]; show (1 : Int) + _ = _; omega⟩
    rcases List.mem_cons.1 hx with rfl | hx
    · exact Int.le_refl 1
    · exact ih.1 x hx
def KeysO (o : Int) (l : List Ct) : Prop := ∀ x ∈ l, (x.1.length : Int) = o ∧ okKey x.1
theorem chk1_ok {o N : Int} {pl : Option (List Int)} {g : List Int} (h1 : (g.length : Int) = o) (h2 : okKey g) (h3 : 1 ≤ N ∧ N ≤ 1099511627776) (h4 : ∀ p, pl = some p → ltL p g) : chk1 o pl g N = 0 := by
  unfold chk1
  rw [if_neg (fun h => h h1), if_neg (fun h => h h2), if_neg (by omega)]
  cases pl with
  | none => rfl
  | some p =>
    have := h4 p rfl
    unfold ltL at this
    rw [if_neg (by show ¬ 0 ≤ cmpL p g; omega)]
theorem chk1_key {o N : Int} {pl : Option (List Int)} {g : List Int} (h1 : (g.length : Int) = o) (h2 : ¬ okKey g) : chk1 o pl g N = 8 := by
  unfold chk1
  rw [if_neg (fun h => h h1), if_pos h2]
theorem prv_ris {ms : List Ct} (hr : Ris id ms) {i : Nat} (hi : i < ms.length) : ∀ p, prvG ms i = some p → ltL p (ms.getD i ([], 0)).1 := fun p hp => by
  unfold prvG at hp
  by_cases h0 : i = 0
  · rw [if_pos h0] at hp; cases hp
  · rw [if_neg h0] at hp
    have hp := Option.some.inj hp
    rw [← hp, List.getD_eq_getElem?_getD, List.getElem?_eq_getElem (by omega), List.getD_eq_getElem?_getD, List.getElem?_eq_getElem hi]
    exact List.pairwise_iff_getElem.1 hr (i - 1) i (by omega) hi (by omega)
theorem wrong_ok {o : Int} {ms : List Ct} (ho : 1 ≤ o ∧ o ≤ 8) (hk : KeysO o ms) (hp : Pos ms) (ht : totN ms ≤ 1000000) (hr : Ris id ms) : wrong o ms = 0 := by
  unfold wrong
  rw [if_neg (by omega)]
  have : ∀ n, n ≤ ms.length → fstN (wrE o ms) n = 0 := by
    intro n
    induction n with
    | zero => intro _; rfl
    | succ n ih =>
      intro hn
      rw [fstN_succ (ih (by omega))]
      have hm : ms.getD n ([], 0) ∈ ms := by rw [List.getD_eq_getElem?_getD, List.getElem?_eq_getElem (by omega)]; exact List.getElem_mem _
      have h1 := hk _ hm
      have h2 := hp _ hm
      have h3 := totN_mem hp hm
      exact chk1_ok h1.1 h1.2 (by omega) (prv_ris hr (by omega))
  exact this _ (Nat.le_refl _)
theorem wrong_key {o : Int} {ms : List Ct} (ho : 1 ≤ o ∧ o ≤ 8) (hl : ∀ x ∈ ms, (x.1.length : Int) = o) (hb : ∃ x ∈ ms, ¬ okKey x.1) (hp : Pos ms) (ht : totN ms ≤ 1000000) (hr : Ris id ms) : wrong o ms = 8 := by
  unfold wrong
  rw [if_neg (by omega)]
  have h0 : ∀ n, n ≤ ms.length → (fstN (wrE o ms) n = 0 ∧ ∀ i, i < n → okKey (ms.getD i ([], 0)).1) ∨ fstN (wrE o ms) n = 8 := by
    intro n
    induction n with
    | zero => intro _; exact .inl ⟨rfl, fun i hi => absurd hi (Nat.not_lt_zero i)⟩
    | succ n ih =>
      intro hn
      rcases ih (by omega) with ⟨h1, h2⟩ | h1
      · have hm : ms.getD n ([], 0) ∈ ms := by rw [List.getD_eq_getElem?_getD, List.getElem?_eq_getElem (by omega)]; exact List.getElem_mem _
        rw [fstN_succ h1]
        by_cases hk : okKey (ms.getD n ([], 0)).1
        · refine .inl ⟨chk1_ok (hl _ hm) hk (by have := hp _ hm; have := totN_mem hp hm; omega) (prv_ris hr (by omega)), fun i hi => ?_⟩
          by_cases e : i = n
          · subst e; exact hk
          · exact h2 i (by omega)
        · exact .inr (chk1_key (hl _ hm) hk)
      · refine .inr ?_
        rw [fstN, if_pos (by rw [h1]; decide)]; exact h1
  rcases h0 ms.length (Nat.le_refl _) with ⟨_, h2⟩ | h1
  · obtain ⟨x, hx, hk⟩ := hb
    obtain ⟨i, hi, rfl⟩ := List.mem_iff_getElem.1 hx
    have := h2 i hi
    rw [List.getD_eq_getElem?_getD, List.getElem?_eq_getElem hi] at this
    exact absurd this hk
  · exact h1
theorem byS_k {o : Int} {ms : List Ct} (h : wrong o ms = 0) : (byS ms).size ≤ 34 * ms.length := by
  have : ∀ (n : Nat) {ms : List Ct}, ms.length = n → (∀ m ∈ ms, m.1.length ≤ 8 ∧ m.2 ≤ 1099511627776) → (byS ms).size ≤ 34 * n := by
    intro n
    induction n with
    | zero => intro ms h _; rw [List.eq_nil_of_length_eq_zero h]; exact Nat.le_refl 0
    | succ n ih =>
      intro ms h hm
      have hne : ms ≠ [] := by intro e; rw [e] at h; simp at h
      have e : ms = ms.dropLast ++ [ms.getLast hne] := (List.dropLast_concat_getLast hne).symm
      have ih := ih (ms := ms.dropLast) (by rw [List.length_dropLast, h]; rfl) fun m h => hm m (List.dropLast_subset ms h)
      obtain ⟨h1, h2⟩ := hm _ (List.getLast_mem hne)
      have hv := vS_size (n := (ms.getLast hne).2.toNat) (by omega)
      have hk := keyS_size (ms.getLast hne).1
      rw [e, byS_snoc, ByteArray.size_append, ByteArray.size_append]; omega
  exact this ms.length rfl fun m hm => ⟨wrong_len8 h m hm, (wrong_good h m hm).2.2.2⟩
theorem ids_le {z c : Int} {n : Nat} (hz : 1 ≤ z) (h1 : c * z < n + z) : c ≤ n := by
  by_cases h : (n : Int) < c
  · have h4 : (n + 1 : Int) * z ≤ c * z := Int.mul_le_mul_of_nonneg_right (by omega) (by omega)
    rw [Int.add_mul, Int.one_mul] at h4
    have h5 : (n : Int) * 1 ≤ n * z := Int.mul_le_mul_of_nonneg_left hz (by omega)
    omega
  · omega
structure TInv (o : Int) (z : Int) (m : BS) (lp : List PR) : Prop where
  inv : RInv o m lp
  pos : Pos (ctsF lp)
  tot : totN (ctsF lp) ≤ 300
  usd : ∀ r ∈ lp, r.1.length ≤ 34 * r.2.length
  nums : m.size = z ∧ m.most = 1048576
theorem usd_le : ∀ {lp : List PR}, (∀ r ∈ lp, r.1.length ≤ 34 * r.2.length) → (idsF lp).length ≤ 34 * (ctsF lp).length
  | [], _ => Nat.le_refl 0
  | r :: lp, h => by
    have h1 := usd_le (lp := lp) fun x hx => h x (List.mem_cons_of_mem _ hx)
    have h2 := h r (List.mem_cons_self ..)
    have e1 : (idsF (r :: lp)).length = r.1.length + (idsF lp).length := by rw [idsF, List.flatMap_cons, List.length_append]
    have e2 : (ctsF (r :: lp)).length = r.2.length + (ctsF lp).length := by rw [ctsF, List.flatMap_cons, List.length_append]
    omega
theorem TInv.used {o z : Int} {m : BS} {lp : List PR} (h : TInv o z m lp) : m.used ≤ 34 * (ctsF lp).length := by
  have h1 := usd_le h.usd
  have h2 := h.inv.used
  omega
theorem TInv.room {o z : Int} {m : BS} {lp : List PR} (h : TInv o z m lp) {n : Nat} (hn : n ≤ 34 * 300) : ¬ m.size * (m.most - m.used) < n := by
  have h1 := h.used
  have h2 := h.inv.len
  have h3 := h.inv.ok.size
  rw [h.nums.2]
  have h4 : 1 * (1048576 - m.used) ≤ m.size * (1048576 - m.used) := Int.mul_le_mul_of_nonneg_right h3.1 (by omega)
  rw [Int.one_mul] at h4
  omega
theorem TInv.keys {o z : Int} {m : BS} {lp : List PR} (h : TInv o z m lp) : KeysO o (ctsF lp) := fun x hx => by
  obtain ⟨r, hr, hx⟩ := List.mem_flatMap.1 hx
  have := wrong_good (h.inv.wr r hr) x hx
  exact ⟨this.1, this.2.1⟩
theorem TInv.put {o z : Int} {m : BS} {a g b : List PR} {M : List Ct} (h : TInv o z m (a ++ (g ++ b))) (ho : 1 ≤ o ∧ o ≤ 8) (hk : KeysO o M) (hp : Pos M) (hr : Ris id M) (ht : totN (ctsF a) + (totN M + totN (ctsF b)) ≤ 300) :
    errW o M m = 0 ∧ TInv o z ((idsF g).foldl BS.free (fillN (byS M) m [] 0).1) (a ++ ([((fillN (byS M) m [] 0).2, M)] ++ b)) := by
  have hP := h.pos
  rw [ctsF, List.flatMap_append, List.flatMap_append] at hP
  have pa : Pos (ctsF a) := fun x hx => hP x (List.mem_append_left _ hx)
  have pb : Pos (ctsF b) := fun x hx => hP x (List.mem_append_right _ (List.mem_append_right _ hx))
  have la := totN_len pa
  have lb := totN_len pb
  have lm := totN_len hp
  have hw := wrong_ok ho hk hp (by omega) hr
  have hby := byS_k hw
  have hroom := h.room (n := (byS M).size) (by omega)
  have he : errW o M m = 0 := by rw [errW_ok hw, if_neg hroom]
  have F := fill_law h.inv.ok hroom
  have hI := put_law h.inv hw hr (by omega) hroom
  refine ⟨he, hI, ?_, ?_, ?_, ?_⟩
  · rw [ctsF, List.flatMap_append, List.flatMap_append, List.flatMap_singleton]
    intro x hx
    rcases List.mem_append.1 hx with hx | hx
    · exact pa x hx
    · rcases List.mem_append.1 hx with hx | hx
      · exact hp x hx
      · exact pb x hx
  · rw [ctsF, List.flatMap_append, List.flatMap_append, List.flatMap_singleton, totN_app, totN_app]
    exact ht
  · intro r hr
    rcases List.mem_append.1 hr with hr | hr
    · exact h.usd r (List.mem_append_left _ hr)
    · rcases List.mem_append.1 hr with hr | hr
      · rw [List.mem_singleton.1 hr]
        have hc := ids_le h.inv.ok.size.1 F.num.1
        show (fillN (byS M) m [] 0).2.length ≤ 34 * M.length
        omega
      · exact h.usd r (List.mem_append_right _ (List.mem_append_right _ hr))
  · have h1 := frees_nums (idsF g) (fillN (byS M) m [] 0).1
    exact ⟨h1.1.trans (F.sz.1.trans h.nums.1), h1.2.1.trans (F.sz.2.trans h.nums.2)⟩
theorem KeysO.mrg {o : Int} {l : List Ct} (h : KeysO o l) : KeysO o (mrg l) := fun x hx => by
  obtain ⟨y, hy, e⟩ := mrg_key hx
  rw [e]; exact h y hy
theorem TInv.grp {o z : Int} {m : BS} {a g b : List PR} (h : TInv o z m (a ++ (g ++ b))) (ho : 1 ≤ o ∧ o ≤ 8) : (grp o m g).2.2 = 0 ∧ TInv o z (grp o m g).1 (a ++ ([(Go.Proofs.YtamnobjdgjbmbaaGreat.grp o m g).2.1] ++ b)) := by
  by_cases h1 : g.length = 1
  · rw [grp_one h1]
    obtain ⟨r, rfl⟩ := List.length_eq_one_iff.1 h1
    exact ⟨rfl, h⟩
  · have hP := h.pos
    have hT := h.tot
    have hK := h.keys
    rw [ctsF, List.flatMap_append, List.flatMap_append] at hP hT hK
    rw [totN_app, totN_app] at hT
    have pg : Pos (ctsF g) := fun x hx => hP x (List.mem_append_right _ (List.mem_append_left _ hx))
    have pa : Pos (ctsF a) := fun x hx => hP x (List.mem_append_left _ hx)
    have pb : Pos (ctsF b) := fun x hx => hP x (List.mem_append_right _ (List.mem_append_right _ hx))
    have kg : KeysO o (ctsF g) := fun x hx => hK x (List.mem_append_right _ (List.mem_append_left _ hx))
    have la := totN_len pa
    have lb := totN_len pb
    have hT : totN (ctsF a) + (totN (ctsF g) + totN (ctsF b)) ≤ 300 := hT
    have hM := mrg_tot pg (by omega)
    have hp := h.put ho kg.mrg hM.1 (mrg_ris _) (by rw [hM.2]; exact hT)
    rw [grp_go h1 hp.1]
    exact ⟨rfl, hp.2⟩
theorem TInv.pass {o z : Int} {f : Nat} (ho : 1 ≤ o ∧ o ≤ 8) (hf : 1 < f) : ∀ (n : Nat) (l : List PR), l.length = n → ∀ (m : BS) (acc : List PR), TInv o z m (acc ++ l) → (pass o f m acc l).2.2 = 0 ∧ TInv o z (pass o f m acc l).1 (Go.Proofs.YtamnobjdgjbmbaaGreat.pass o f m acc l).2.1 := by
  intro n
  induction n using Nat.strongRecOn with
  | _ n ih =>
    intro l hl m acc h
    by_cases h0 : l = []
    · subst h0; rw [pass_nil]; rw [List.append_nil] at h; exact ⟨rfl, h⟩
    · have hp := List.length_pos_iff.2 h0
      have h' : TInv o z m (acc ++ (l.take f ++ l.drop f)) := by rw [List.take_append_drop]; exact h
      obtain ⟨he, k1⟩ := h'.grp ho
      rw [pass_go h0 (by omega) he]
      rw [← List.append_assoc] at k1
      exact ih _ (by rw [List.length_drop]; omega) (l.drop f) rfl _ _ k1
theorem TInv.runs {o z : Int} {f : Nat} (ho : 1 ≤ o ∧ o ≤ 8) (hf : 1 < f) : ∀ (n : Nat) (l : List PR), l.length = n → ∀ (m : BS) (p : Nat), TInv o z m l → (runsF o f m l p).2.2.2 = 0 := by
  intro n
  induction n using Nat.strongRecOn with
  | _ n ih =>
    intro l hl m p h
    by_cases h1 : 1 < l.length
    · have hle := pass_len (o := o) hf l.length l rfl m []
      simp only [List.length_nil] at hle
      obtain ⟨he, k1⟩ := TInv.pass ho hf l.length l rfl m [] h
      rw [runs_go h1 hf he]
      exact ih _ (by omega) _ rfl _ _ k1
    · rw [runs_end h1]
def chF (o : Int) (B : Nat) (m : BS) (lp : List PR) (all : List (List Int)) : BS × List PR :=
  if h : all ≠ [] ∧ 0 < B then chF o B (fillN (byS (mrg ((all.take B).map one))) m [] 0).1 (lp ++ [((fillN (byS (mrg ((all.take B).map one))) m [] 0).2, mrg ((all.take B).map one))]) (all.drop B)
  else (m, lp)
termination_by all.length
decreasing_by
  have := List.length_pos_iff.2 h.1
  rw [List.length_drop]; omega
theorem chF_nil {o : Int} {B : Nat} {m : BS} {lp : List PR} : chF o B m lp [] = (m, lp) := by rw [chF, dif_neg (fun h => h.1 rfl)]
theorem chF_go {o : Int} {B : Nat} {m : BS} {lp : List PR} {all : List (List Int)} (h : all ≠ []) (hB : 0 < B) : chF o B m lp all = chF o B (fillN (byS (mrg ((all.take B).map one))) m [] 0).1 (lp ++ [((fillN (byS (mrg ((all.take B).map one))) m [] 0).2, mrg ((all.take B).map one))]) (all.drop B) := by rw [chF, dif_pos ⟨h, hB⟩]
def GoodG (o : Int) (all : List (List Int)) : Prop := ∀ g ∈ all, (g.length : Int) = o ∧ okKey g
theorem TInv.flush {o z : Int} {m : BS} {lp : List PR} {held : List (List Int)} (h : TInv o z m lp) (ho : 1 ≤ o ∧ o ≤ 8) (hg : GoodG o held) (ht : totN (ctsF lp) + held.length ≤ 300) :
    (wrong o (mrg (held.map one)) = 0 ∧ errW o (mrg (held.map one)) m = 0) ∧ TInv o z (fillN (byS (mrg (held.map one))) m [] 0).1 (lp ++ [((fillN (byS (mrg (held.map one))) m [] 0).2, mrg (held.map one))]) ∧ totN (ctsF (lp ++ [((fillN (byS (mrg (held.map one))) m [] 0).2, mrg (held.map one))])) = totN (ctsF lp) + held.length := by
  obtain ⟨p1, t1⟩ := one_tot held
  have l0 := totN_len h.pos
  have hM := mrg_tot p1 (by omega)
  have hk : KeysO o (held.map one) := fun x hx => by
    obtain ⟨g, hg', rfl⟩ := List.mem_map.1 hx
    exact hg g hg'
  have h' : TInv o z m (lp ++ ([] ++ [])) := by rw [List.append_nil, List.append_nil]; exact h
  obtain ⟨he, k⟩ := h'.put ho hk.mrg hM.1 (mrg_ris _) (by show totN (ctsF lp) + (_ + 0) ≤ 300; omega)
  rw [List.append_nil] at k
  refine ⟨⟨(errW_zero he).1, he⟩, k, ?_⟩
  rw [ctsF, List.flatMap_append, List.flatMap_singleton, totN_app, hM.2, t1]
theorem chF_law {o z : Int} {B : Nat} (ho : 1 ≤ o ∧ o ≤ 8) (hB : 0 < B) : ∀ (n : Nat) (all : List (List Int)), all.length = n → ∀ (m : BS) (lp : List PR), TInv o z m lp → GoodG o all → totN (ctsF lp) + all.length ≤ 300 →
    TInv o z (chF o B m lp all).1 (chF o B m lp all).2 ∧ mrg (ctsF (chF o B m lp all).2) = mrg (ctsF lp ++ all.map one) ∧ ((chF o B m lp all).2.length : Int) = lp.length + (all.length + B - 1) / B := by
  intro n
  induction n using Nat.strongRecOn with
  | _ n ih =>
    intro all hn m lp h hg ht
    by_cases h0 : all = []
    · subst h0
      rw [chF_nil]
      refine ⟨h, by simp, ?_⟩
      show (lp.length : Int) = lp.length + (((0 : Nat) : Int) + B - 1) / B
      rw [Int.ediv_eq_zero_of_lt (by omega) (by omega)]; omega
    · have hpos := List.length_pos_iff.2 h0
      rw [chF_go h0 hB]
      have htl : (all.take B).length + (all.drop B).length = all.length := by rw [← List.length_append, List.take_append_drop]
      obtain ⟨_, k1, k2⟩ := h.flush (held := all.take B) ho (fun g hg' => hg g (List.mem_of_mem_take hg')) (by omega)
      obtain ⟨j1, j2, j3⟩ := ih (all.drop B).length (by rw [List.length_drop]; omega) (all.drop B) rfl _ _ k1 (fun g hg' => hg g (List.mem_of_mem_drop hg')) (by omega)
      refine ⟨j1, j2.trans ?_, j3.trans ?_⟩
      · rw [ctsF, List.flatMap_append, List.flatMap_singleton, List.append_assoc]
        show mrg (ctsF lp ++ (mrg ((all.take B).map one) ++ (all.drop B).map one)) = _
        rw [mrg_mid, ← List.map_append, List.take_append_drop]
      · rw [List.length_append, List.length_singleton, List.length_drop]
        by_cases hle : all.length ≤ B
        · have e1 : all.length - B = 0 := by omega
          rw [e1]
          have a1 : (((0 : Nat) : Int) + B - 1) / B = 0 := Int.ediv_eq_zero_of_lt (by omega) (by omega)
          have a2 : ((all.length : Int) + B - 1) / B = 1 := by
            have : ((all.length : Int) + B - 1) = (all.length - 1 : Int) + B * 1 := by omega
            rw [this, Int.add_mul_ediv_left _ _ (by omega : (B : Int) ≠ 0), Int.ediv_eq_zero_of_lt (by omega) (by omega)]; rfl
          rw [a1, a2]; push_cast; omega
        · have : ((all.length : Int) + B - 1) = (((all.length - B : Nat) : Int) + B - 1) + B * 1 := by omega
          rw [this, Int.add_mul_ediv_left _ _ (by omega : (B : Int) ≠ 0)]; push_cast; omega
theorem flush_bad {o : Int} {m : BS} {held : List (List Int)} (ho : 1 ≤ o ∧ o ≤ 8) (hl : ∀ g ∈ held, (g.length : Int) = o) (hn : held.length ≤ 300) (hb : ¬ ∀ g ∈ held, okKey g) : errW o (mrg (held.map one)) m = 8 := by
  obtain ⟨p1, t1⟩ := one_tot held
  have hM := mrg_tot p1 (by omega)
  have hw := wrong_key (ms := mrg (held.map one)) ho (fun x hx => by
    obtain ⟨y, hy, e⟩ := mrg_key hx
    obtain ⟨g, hg, rfl⟩ := List.mem_map.1 hy
    rw [e]; exact hl g hg) ?_ hM.1 (by rw [hM.2]; omega) (mrg_ris _)
  · rw [errW_bad (by rw [hw]; decide), hw]
  · obtain ⟨g, hg⟩ := Classical.not_forall.1 hb
    obtain ⟨hg, hk⟩ := Classical.not_imp.1 hg
    have hin : ∀ (l a : List Ct) (x : Ct), (∃ y ∈ a, y.1 = x.1) ∨ x ∈ l → ∃ y ∈ l.foldl putM a, y.1 = x.1 := by
      intro l
      induction l with
      | nil => intro a x h; rcases h with h | h; exact h; cases h
      | cons u l ih =>
        intro a x h
        rw [List.foldl_cons]
        have hput : ∀ (a : List Ct) (v : Ct), (∃ y ∈ putM a u, y.1 = v.1) ∨ ¬ ((∃ y ∈ a, y.1 = v.1) ∨ u = v) := by
          intro a v
          induction a with
          | nil =>
            by_cases e : u = v
            · subst e; exact .inl ⟨u, List.mem_singleton.2 rfl, rfl⟩
            · exact .inr fun h => h.elim (fun ⟨y, hy, _⟩ => by cases hy) e
          | cons w a iha =>
            show (∃ y ∈ putL id (w :: a) u, y.1 = v.1) ∨ _
            rw [putL]
            split
            · by_cases h1 : (∃ y ∈ w :: a, y.1 = v.1) ∨ u = v
              · rcases h1 with ⟨y, hy, e⟩ | rfl
                · exact .inl ⟨y, List.mem_cons_of_mem _ hy, e⟩
                · exact .inl ⟨u, List.mem_cons_self .., rfl⟩
              · exact .inr h1
            · split
              · rename_i hz
                have e0 : w.1 = u.1 := cmp_zero.1 hz
                by_cases h1 : (∃ y ∈ w :: a, y.1 = v.1) ∨ u = v
                · rcases h1 with ⟨y, hy, e⟩ | rfl
                  · rcases List.mem_cons.1 hy with rfl | hy
                    · exact .inl ⟨_, List.mem_cons_self .., e⟩
                    · exact .inl ⟨y, List.mem_cons_of_mem _ hy, e⟩
                  · exact .inl ⟨_, List.mem_cons_self .., e0⟩
                · exact .inr h1
              · by_cases h1 : (∃ y ∈ w :: a, y.1 = v.1) ∨ u = v
                · left
                  rcases iha with ⟨y, hy, e⟩ | hno
                  · exact ⟨y, List.mem_cons_of_mem _ hy, e⟩
                  · rcases h1 with ⟨y, hy, e⟩ | rfl
                    · rcases List.mem_cons.1 hy with rfl | hy
                      · exact ⟨y, List.mem_cons_self .., e⟩
                      · exact absurd (.inl ⟨y, hy, e⟩) hno
                    · exact absurd (.inr rfl) hno
                · exact .inr h1
        refine ih _ x ?_
        rcases h with h | h
        · exact .inl ((hput a x).resolve_right fun k => k (.inl h))
        · rcases List.mem_cons.1 h with rfl | h
          · exact .inl ((hput a x).resolve_right fun k => k (.inr rfl))
          · exact .inr h
    obtain ⟨y, hy, e⟩ := hin (held.map one) [] (one g) (.inr (List.mem_map.2 ⟨g, hg, rfl⟩))
    exact ⟨y, hy, by rw [e]; exact hk⟩
end Go.Proofs.YtamnobjdgjbmbaaGreat
namespace Go.Fw
open Go Go.RowKit Go.Sort
set_option linter.unusedVariables false
set_option linter.unusedSimpArgs false
set_option maxHeartbeats 2000000
theorem St.grown {w0 : World} {H : HeapP} {L : Foot} {w : World} (h : St w0 H L w) (os : Array Obj) : St w0 H L (grow w os) := by
  have hk : ∀ b u, w.heap[b]? = some u → (grow w os).heap[b]? = some u := fun b u e => by
    rw [heap_grow_old w os (Array.getElem?_eq_some_iff.1 e).1]; exact e
  refine ⟨⟨h.below.os, h.below.tape, h.below.output, ?_, fun k hk' => ?_⟩, fun b u e => hk b u (h.imm b u e), fun p hp => ?_, h.nodup, h.drw⟩
  · have := h.below.size; simp only [grow, Array.size_append]; omega
  · rw [heap_grow_old w os (by have := h.below.size; omega)]; exact h.below.block k hk'
  · obtain ⟨h1, h2, h3⟩ := h.own p hp; exact ⟨hk _ _ h1, h2, h3⟩
theorem grown_of_below {u w : World} (h : Below u.heap.size u w) (hd : u.drawn ≤ w.drawn) : ∃ q os, w = grow (u.drewN q) os := by
  refine ⟨w.drawn - u.drawn, w.heap.extract u.heap.size w.heap.size, ?_⟩
  obtain ⟨wh, wt, wd, wo, wp⟩ := w
  obtain ⟨uh, ut, ud, uo, up⟩ := u
  obtain ⟨h1, h2, h3, h4, h5⟩ := h
  simp only at h1 h2 h3 h4 h5 hd
  subst h1 h2 h3
  have e1 : wh = uh ++ wh.extract uh.size wh.size := by
    refine Array.ext_getElem? fun k => ?_
    by_cases hk : k < uh.size
    · rw [Array.getElem?_append_left hk, h5 k hk]
    · rw [Array.getElem?_append_right (by omega)]
      by_cases hk2 : k < wh.size
      · rw [Array.getElem?_extract, if_pos (by omega)]; congr 1; omega
      · rw [Array.getElem?_extract, if_neg (by omega), Array.getElem?_eq_none (by omega)]
  have e2 : wd = ud + (wd - ud) := by omega
  show World.mk _ _ _ _ _ = World.mk (uh ++ wh.extract uh.size wh.size) wt (ud + (wd - ud)) wo wp
  rw [← e1, ← e2]
theorem putCells_take {F c : Array Value} (h : F.size ≤ c.size) : (putCells id 0 F c).toList.take F.size = F.toList ∧ (putCells id 0 F c).size = c.size := by
  refine ⟨List.ext_getElem? fun k => ?_, by simp [putCells]⟩
  by_cases hk : k < F.size
  · rw [List.getElem?_take_of_lt hk]
    simp [putCells, hk, show k < c.size by omega]
  · rw [List.getElem?_take_eq_none (by omega), List.getElem?_eq_none (by simpa using hk)]
theorem SL.reput {α : Type} [Enc α] {w0 : World} {I : Foot} {L : List HP} {w : World} {e : TypeId} {s : SV} {xs ys : List α} {g : Nat} (h : SL w0 I (OwnS e s xs :: L) w) (hs : s.a = some ⟨g, 0, none⟩) (hl : ys.length = xs.length) (n : Nat) (os : Array Obj) {F : Array Value} (hF : F.toList = flat ys) :
    SL w0 I (OwnS e s ys :: L) (grow (putRow id (Sort.ahead w n) g 0 F) os) := by
  obtain ⟨H, R, Rs, h1, hp, h2, h3⟩ := h.uncons
  rcases hp.2 with ⟨q1, q2, q3⟩ | ⟨gb, cap, cur, q1, q2, q3, q4, q5, q6⟩
  · simp only [Value.slice.injEq] at q1
    rw [hs] at q1; exact absurd q1.1 (by simp)
  · simp only [Value.slice.injEq] at q1
    obtain ⟨q1, -, q7⟩ := q1
    rw [hs] at q1
    cases q1
    subst q6
    have hfl := hp.1
    rw [flat_len] at hfl
    have hFs : F.size = s.n * Enc.sz α := by rw [← Array.length_toList, hF, flat_len, hl, hfl]
    have hle : F.size ≤ cur.size := by rw [hFs, q4]; exact Nat.mul_le_mul_right _ q2
    obtain ⟨c1, c2⟩ := putCells_take hle
    have hst : St w0 H ((g, .cells cur e (0, 0)) :: Rs.flatten) (Sort.ahead w n) := h3.drawn (w.drawn + n) (Nat.le_add_right _ _)
    have hput : (putRow id (Sort.ahead w n) g 0 F) = (Sort.ahead w n).setRow g (putCells id 0 F cur) := by
      unfold putRow mapBlock World.setRow
      congr 1
      refine Array.ext_getElem? fun k => ?_
      rw [Array.getElem?_modify, Array.getElem?_modify]
      by_cases hk : g = k
      · subst hk
        rw [if_pos rfl, if_pos rfl, hst.at_ (j := 0) rfl]
        rfl
      · rw [if_neg hk, if_neg hk]
    rw [hput]
    refine SL.cons (R := [(g, .cells (putCells id 0 F cur) e (0, 0))]) h1 ⟨by rw [flat_len, hl, hfl], .inr ⟨g, cap, _, ?_, q2, q3, by rw [c2, q4], ?_, rfl⟩⟩ h2 ((hst.putRow _).grown os)
    · rw [hs, q7]
    · rw [← hFs, c1, hF]
theorem SL.row {α : Type} [Enc α] {w0 : World} {I : Foot} {L : List HP} {w : World} {e : TypeId} {s : SV} {xs : List α} (h : SL w0 I (OwnS e s xs :: L) w) (hn : 0 < xs.length) : ∃ g, s.a = some ⟨g, 0, none⟩ ∧ s.n = xs.length ∧ g < w.heap.size ∧ ∀ F : Array Value, F.toList = flat xs → Holds id w g 0 F := by
  obtain ⟨H, R, Rs, h1, hp, h2, h3⟩ := h.uncons
  have hsn := OwnR.len hp
  rcases hp.2 with ⟨q1, q2, q3⟩ | ⟨gb, cap, cur, q1, q2, q3, q4, q5, q6⟩
  · omega
  · simp only [Value.slice.injEq] at q1
    subst q6
    have hat := h3.at_ (j := 0) rfl
    refine ⟨gb, q1.1, hsn, (Array.getElem?_eq_some_iff.1 hat).1, fun F hF j hj => ⟨?_, ?_⟩⟩
    · have hj' : j < (flat xs).length := by rw [← hF]; simpa using hj
      have hg : (flat xs)[j]? = some (F[j]!) := by
        rw [← hF]; simp [hj]
      rw [← q5, List.getElem?_take] at hg
      split at hg
      · simp only [World.cell?, hat, Nat.zero_add, id]
        simpa using hg
      · cases hg
    · simp only [World.frozen?, hat]
      simp
theorem SL.drw {w0 : World} {I : Foot} {L : List HP} {w : World} (h : SL w0 I L w) : w0.drawn ≤ w.drawn := by
  obtain ⟨H, Rs, _, _, h⟩ := h; exact h.drw
def SortedOf {α : Type} (cf : α → α → Int) (xs : List α) : Type := { ys : List α // xs.Perm ys ∧ ys.Pairwise fun x y => ¬ cf y x < 0 }
theorem sorted_out {α β : Type} [Inhabited α] (f : α → β) (cf : β → β → Int) {d d' : Array α} (hp : PermIn 0 d.size d d') (hs : SortedIn (Go.Proofs.ltOf fun x y => cf (f x) (f y)) 0 d.size d') :
    (d.toList.map f).Perm (d'.toList.map f) ∧ (d'.toList.map f).Pairwise (fun x y => ¬ cf y x < 0) := by
  obtain ⟨h1, _, h3⟩ := hp
  have e1 : d.extract 0 d.size = d := by simp
  have e2 : d'.extract 0 d.size = d' := by rw [← h1]; simp
  rw [e1, e2] at h3
  refine ⟨h3.symm.map f, ?_⟩
  rw [List.pairwise_map]
  refine List.pairwise_iff_getElem.2 fun i j hi hj hij => ?_
  have hj' : j < d'.size := by simpa using hj
  have hi' : i < d'.size := by simpa using hi
  have := hs i j (Nat.zero_le _) hij (by omega)
  rw [getElem!_pos d' j hj', getElem!_pos d' i hi'] at this
  simpa [Go.Proofs.ltOf] using this
theorem flatK_sub {α : Type} [Enc α] {xs : List α} [Inhabited { x // x ∈ xs }] (d : Array { x // x ∈ xs }) : (flatK (fun x : { x // x ∈ xs } => Enc.cells x.1) (Enc.sz α) d).toList = flat (d.toList.map (·.1)) := by
  have hp := Enc.pos (α := α)
  refine List.ext_getElem? fun t => ?_
  by_cases ht : t < d.size * Enc.sz α
  · have hq : t / Enc.sz α < d.size := (Nat.div_lt_iff_lt_mul hp).2 ht
    have hr : t % Enc.sz α < Enc.sz α := Nat.mod_lt _ hp
    have hl : t % Enc.sz α < (Enc.cells (d[t / Enc.sz α]!).1).length := by rw [Enc.len]; exact hr
    have e := flat_get (d.toList.map (·.1)) (t / Enc.sz α) (t % Enc.sz α) ((Enc.cells (d[t / Enc.sz α]!).1)[t % Enc.sz α]) (by simpa using hq) (by
      have hd := getElem!_pos d (t / Enc.sz α) hq
      simp [List.getD_eq_getElem?_getD, hq, hd])
    rw [Nat.div_add_mod' t (Enc.sz α)] at e
    have hsz : t < (flatK (fun x : { x // x ∈ xs } => Enc.cells x.1) (Enc.sz α) d).toList.length := by rw [Array.length_toList, size_flatK]; exact ht
    rw [e, List.getElem?_eq_getElem hsz, Array.getElem_toList]
    have := get_flatK (fun x : { x // x ∈ xs } => Enc.cells x.1) (Enc.sz α) d t ht
    rw [getElem!_pos _ t (by rw [size_flatK]; exact ht)] at this
    rw [this, getElem!_pos (Enc.cells (d[t / Enc.sz α]!).1) (t % Enc.sz α) hl]
  · rw [List.getElem?_eq_none (by rw [Array.length_toList, size_flatK]; omega), List.getElem?_eq_none (by rw [flat_len, List.length_map, Array.length_toList]; omega)]
section
variable {P : Program} {ρ : Go.Shelf.Ren} {w0 : World} {I : Foot} {L : List HP}
theorem SortFuncK_tr {α : Type} [Enc α] (Ly : Go.Proofs.SlLaysF0.n6 P ρ) (aE : ∀ w, (isAgg (ρ.t 24)).run P w = .ok true w) (zE : ∀ w, (Go.sizeOf (ρ.t 24)).run P w = .ok (Enc.sz α) w)
    {e : TypeId} {s : SV} {xs : List α} {g : Nat} {caps : List Value} [hg : Callb P g] (cf : α → α → Int)
    (hO : SWO (Go.Proofs.ltOf fun x y : { x // x ∈ xs } => cf x.1 y.1))
    (hc : ∀ (w1 : World) (J : Foot), I ⊆ J → ∀ x ∈ xs, ∀ y ∈ xs, Tr P g (#[.agg (Enc.cells x).toArray, .agg (Enc.cells y).toArray] ++ caps.toArray) (SL w1 J []) (fun _ : Unit => .int .i64 (cf x y)) (fun _ => SL w1 J []))
    (hn : xs.length ≤ 1000000000) :
    Tr P (ρ.f 6) #[.slice s.a s.n s.cap, .func (.func g) #[] caps.toArray] (SL w0 I (OwnS e s xs :: L)) (fun _ : SortedOf cf xs => .tuple #[]) (fun q => SL w0 I (OwnS e s q.1 :: L)) := by
  intro w hw
  by_cases hx : xs = []
  · subst hx
    have hsn : s.n = 0 := hw.facts.1
    rw [hsn]
    refine (Go.Proofs.AnyF.slices_SortFunc_none Ly s.a s.cap _ w).mono ?_
    rintro e w' ⟨rfl, rfl⟩
    exact ⟨⟨[], List.Perm.refl _, List.Pairwise.nil⟩, rfl, hw⟩
  · have hpos : 0 < xs.length := List.length_pos_iff.2 hx
    obtain ⟨g0, hs, hsn, hblk, hH⟩ := hw.row hpos
    haveI : Inhabited { x // x ∈ xs } := ⟨⟨xs[0], List.getElem_mem _⟩⟩
    have hd : xs.attach.toArray.size = xs.length := by simp
    have hdm : xs.attach.toArray.toList.map (·.1) = xs := by simp
    have hre : ∀ (m : Nat) (os : Array Obj) (dk : Array { x // x ∈ xs }), dk.size = xs.attach.toArray.size → SL w0 I (OwnS e s (dk.toList.map (·.1)) :: L) (Go.Proofs.sortWorldK (fun x : { x // x ∈ xs } => Enc.cells x.1) (Enc.sz α) w g0 0 m dk os) := fun m os dk h => by
      unfold Go.Proofs.sortWorldK putRowK
      exact hw.reput hs (by rw [List.length_map, Array.length_toList, h, hd]) m os (flatK_sub dk)
    have hcl : Go.Proofs.CmpLays P g caps.toArray (fun x : { x // x ∈ xs } => Enc.cells x.1) (Enc.sz α) (fun x y => cf x.1 y.1) g0 0 xs.attach.toArray.size w := by
      intro m os dk h x y
      have hW := hre m os dk h
      refine (hc _ (allB _) (fun p hp => mem_allB.2 (hW.mem p.1 p.2 hp)) x.1 x.2 y.1 y.2 _ (SL.all _)).mono ?_
      rintro e w' ⟨_, rfl, hb⟩
      exact ⟨rfl, grown_of_below hb.below hb.drw⟩
    have key := Go.Proofs.AnyQ.slices_SortFunc Ly (Enc.sz α) aE zE (fun x : { x // x ∈ xs } => Enc.cells x.1) (fun x => Enc.len x.1) (fun x => Enc.one x.1) (fun x y => cf x.1 y.1) hO g caps.toArray g0 0 s.cap xs.attach.toArray w
      (fun args w => run_callFunc hg.out args w) hcl (hH _ (by rw [flatK_sub, hdm])) hblk (by rw [hd]; omega)
    rw [hs, hsn, ← hd]
    refine key.mono ?_
    rintro e w' ⟨rfl, d', n, os, h1, h2, rfl⟩
    have hq := sorted_out (fun x : { x // x ∈ xs } => x.1) cf h1 h2
    rw [hdm] at hq
    exact ⟨⟨_, hq⟩, rfl, hre n os d' h1.1⟩
end
end Go.Fw
namespace Go.Proofs
open Go.Shelf
def Tryz.sortCount_ren : Go.Shelf.Ren := ⟨fun | 6 => 110 | 15 => 121 | 14 => 120 | 28 => 134 | 29 => 135 | 20 => 126 | 21 => 127 | 22 => 128 | 23 => 129 | 24 => 130 | 25 => 131 | 26 => 132 | 27 => 133 | 46 => 145 | 47 => 146 | 48 => 147 | 49 => 148 | 50 => 149 | 57 => 153 | n => n, fun | 22 => 27 | 24 => 84 | 25 => 196 | 3 => 3 | 39 => 163 | 0 => 0 | 53 => 214 | 55 => 90 | 4 => 4 | 46 => 207 | 45 => 206 | 50 => 211 | 5 => 5 | 9 => 9 | 66 => 221 | 70 => 225 | 76 => 229 | 77 => 142 | n => n, fun | n => n⟩
theorem Tryz.sortCount : Go.Proofs.SlLaysF0.n6 Tryz.prog Tryz.sortCount_ren := {
  mixed := by kernel_rfl
  f6 := ⟨Tryz.f110.name, by decide, Tryz.func110.trans (congrArg some (by kernel_rfl))⟩
  f14 := ⟨Tryz.f120.name, by decide, Tryz.func120.trans (congrArg some (by kernel_rfl))⟩
  f15 := Tryz.func121.trans (congrArg some (by kernel_rfl))
  f20 := ⟨Tryz.f126.name, by decide, Tryz.func126.trans (congrArg some (by kernel_rfl))⟩
  f21 := ⟨Tryz.f127.name, by decide, Tryz.func127.trans (congrArg some (by kernel_rfl))⟩
  f22 := ⟨Tryz.f128.name, by decide, Tryz.func128.trans (congrArg some (by kernel_rfl))⟩
  f23 := ⟨Tryz.f129.name, by decide, Tryz.func129.trans (congrArg some (by kernel_rfl))⟩
  f24 := ⟨Tryz.f130.name, by decide, Tryz.func130.trans (congrArg some (by kernel_rfl))⟩
  f25 := ⟨Tryz.f131.name, by decide, Tryz.func131.trans (congrArg some (by kernel_rfl))⟩
  f26 := ⟨Tryz.f132.name, by decide, Tryz.func132.trans (congrArg some (by kernel_rfl))⟩
  f27 := ⟨Tryz.f133.name, by decide, Tryz.func133.trans (congrArg some (by kernel_rfl))⟩
  f28 := Tryz.func134.trans (congrArg some (by kernel_rfl))
  f29 := Tryz.func135.trans (congrArg some (by kernel_rfl))
  f46 := ⟨Tryz.f145.name, by decide, Tryz.func145.trans (congrArg some (by kernel_rfl))⟩
  f47 := Tryz.func146.trans (congrArg some (by kernel_rfl))
  f48 := Tryz.func147.trans (congrArg some (by kernel_rfl))
  f49 := ⟨Tryz.f148.name, by decide, Tryz.func148.trans (congrArg some (by kernel_rfl))⟩
  f50 := ⟨Tryz.f149.name, by decide, Tryz.func149.trans (congrArg some (by kernel_rfl))⟩
  f57 := ⟨Tryz.f153.name, by decide, Tryz.func153.trans (congrArg some (by kernel_rfl))⟩
  t0 := Tryz.underlying0
  a0 := Tryz.isAgg0
  z0 := Tryz.sizeOf0
  v0 := Tryz.zeroValue0
  t3 := Tryz.underlying3
  a3 := Tryz.isAgg3
  z3 := Tryz.sizeOf3
  v3 := Tryz.zeroValue3
  t4 := Tryz.underlying4
  a4 := Tryz.isAgg4
  z4 := Tryz.sizeOf4
  v4 := Tryz.zeroValue4
  t5 := Tryz.underlying5
  a5 := Tryz.isAgg5
  z5 := Tryz.sizeOf5
  v5 := Tryz.zeroValue5
  t9 := Tryz.underlying9
  a9 := Tryz.isAgg9
  z9 := Tryz.sizeOf9
  v9 := Tryz.zeroValue9
  t22 := Tryz.underlying27
  a22 := Tryz.isAgg27
  z22 := Tryz.sizeOf27
  v22 := Tryz.zeroValue27
  t25 := Tryz.underlying196
  a25 := Tryz.isAgg196
  z25 := Tryz.sizeOf196
  v25 := Tryz.zeroValue196
  t39 := Tryz.underlying163
  a39 := Tryz.isAgg163
  z39 := Tryz.sizeOf163
  v39 := Tryz.zeroValue163
  t45 := Tryz.underlying206
  a45 := Tryz.isAgg206
  z45 := Tryz.sizeOf206
  v45 := Tryz.zeroValue206
  t46 := Tryz.underlying207
  a46 := Tryz.isAgg207
  z46 := Tryz.sizeOf207
  v46 := Tryz.zeroValue207
  t50 := Tryz.underlying211
  a50 := Tryz.isAgg211
  z50 := Tryz.sizeOf211
  v50 := Tryz.zeroValue211
  t53 := Tryz.underlying214
  a53 := Tryz.isAgg214
  z53 := Tryz.sizeOf214
  v53 := Tryz.zeroValue214
  t55 := Tryz.underlying90
  a55 := Tryz.isAgg90
  z55 := Tryz.sizeOf90
  v55 := Tryz.zeroValue90
  t66 := Tryz.underlying221
  a66 := Tryz.isAgg221
  z66 := Tryz.sizeOf221
  v66 := Tryz.zeroValue221
  t70 := Tryz.underlying225
  a70 := Tryz.isAgg225
  z70 := Tryz.sizeOf225
  v70 := Tryz.zeroValue225
  t76 := Tryz.underlying229
  a76 := Tryz.isAgg229
  z76 := Tryz.sizeOf229
  v76 := Tryz.zeroValue229
  t77 := Tryz.underlying142
  a77 := Tryz.isAgg142
  z77 := Tryz.sizeOf142
  v77 := Tryz.zeroValue142 }
end Go.Proofs
namespace Go.Proofs.YtamnobjdgjbmbaaGreat
open Go Go.Fw Go.RowKit
set_option linter.unusedVariables false
set_option linter.unusedSimpArgs false
set_option maxRecDepth 100000
set_option maxHeartbeats 16000000
set_option synthInstance.maxHeartbeats 200000
set_option synthInstance.maxSize 100000
attribute [local irreducible] WPA WLA WDA WDQ WDE QQ seqQ blockQ loopQ fnQ OpP OpT Tr TrP SL SLd OwnS LitS Bk BkE Ob
attribute [local irreducible] RowH
theorem CloneC_tr {a : SV} {xs : List (SV × Int)} {L : List HP} {w0 : World} {I : Foot} [ha : RdS I L a (SV × Int) inferInstance xs] (hn : xs.length ≤ 1000000) : Tr Tryz.prog 109 #[.slice a.a a.n a.cap] (SL w0 I L) (fun r : SV => .slice r.a r.n r.cap) (fun r => SL w0 I (OwnS 84 r xs :: L)) := by
  refine Tr.intro Tryz.func109 rfl Tryz.ntmps109 rfl ?_
  repeat' (first | ((first | refine WLA.m rfl rfl ?_ ?_ | refine WLA.st rfl ?_ ?_ | refine WLA.x rfl rfl ?_ (fun x => ?_) | refine WLA.x0 rfl ?_ (fun x => ?_)); first | exact trivial | exact rfl | assumption | omega | (refine ⟨?_, ?_⟩ <;> omega) | (simp only [Room, lenS]; omega) | decide | skip) | (refine Stp.go ?_) | (refine WPA.ifT ?_) | (refine WPA.ifF ?_) | ((first | refine WPA.dec ?_); first | refine .inl ⟨by first | assumption | omega | with_reducible rfl | (refine fun h => h ?_; first | assumption | with_reducible rfl) | (simp only [lenS] <;> omega) | decide, ?_⟩ | refine .inr ⟨by first | assumption | omega | with_reducible rfl | (refine fun h => h ?_; first | assumption | with_reducible rfl) | (simp only [lenS] <;> omega) | decide, ?_⟩) | ((first | refine WPA.ifBt ?_ ?_ | refine WPA.ifBnf ?_ ?_); assumption) | ((first | refine WPA.ifBnt ?_ ?_ | refine WPA.ifBf ?_ ?_); assumption) | ((first | refine WPA.ifs ?_ ?_ | refine WPA.ifB ?_ ?_) <;> intro hc))
  · refine QQ.end_ rfl SV.nil rfl fun w h => ?_
    have hr := ha.out w0 w h
    have h0 : xs = [] := by
      have hn := hr.len
      rcases hr.plain with h0 | ⟨b, o, e⟩
      · exact List.eq_nil_of_length_eq_zero (by omega)
      · rw [e] at hc; cases hc
    rw [h0]
    exact h.to
  · exact QQ.end_ rfl x rfl fun w h => h.to
theorem Sum1_tr {x y : SV × Int} {xs ys : List Int} {L : List HP} {w0 : World} {I : Foot} [hx : SlI I x.1 Int inferInstance xs] [hy : SlI I y.1 Int inferInstance ys] (h1 : xs.length ≤ 1000000000) (h2 : ys.length ≤ 1000000000) :
    Tr Tryz.prog 111 #[.agg #[.slice x.1.a x.1.n x.1.cap, .int .i64 x.2], .agg #[.slice y.1.a y.1.n y.1.cap, .int .i64 y.2]] (SL w0 I L) (fun _ : Unit => .int .i64 (cmpL xs ys)) (fun _ => SL w0 I L) := by
  refine Tr.intro Tryz.func111 rfl Tryz.ntmps111 rfl ?_
  repeat' (first | ((first | refine WLA.m rfl rfl ?_ ?_ | refine WLA.st rfl ?_ ?_ | refine WLA.x rfl rfl ?_ (fun x => ?_) | refine WLA.x0 rfl ?_ (fun x => ?_)); first | exact trivial | exact rfl | assumption | omega | (refine ⟨?_, ?_⟩ <;> omega) | (simp only [Room, lenS]; omega) | decide | skip) | (refine Stp.go ?_) | (guard_target =~ WLA _ _ _ _ _ (⟨_, .call ⟨.value (.func 85), _, _⟩, _, _, _, _⟩ :: _) _ _; refine WLA.cq rfl rfl (gCompare_tr h1 h2) ?_) | (refine WPA.ifT ?_) | (refine WPA.ifF ?_) | ((first | refine WPA.dec ?_); first | refine .inl ⟨by first | assumption | omega | with_reducible rfl | (refine fun h => h ?_; first | assumption | with_reducible rfl) | (simp only [lenS] <;> omega) | decide, ?_⟩ | refine .inr ⟨by first | assumption | omega | with_reducible rfl | (refine fun h => h ?_; first | assumption | with_reducible rfl) | (simp only [lenS] <;> omega) | decide, ?_⟩) | ((first | refine WPA.ifBt ?_ ?_ | refine WPA.ifBnf ?_ ?_); assumption) | ((first | refine WPA.ifBnt ?_ ?_ | refine WPA.ifBf ?_ ?_); assumption) | ((first | refine WPA.ifs ?_ ?_ | refine WPA.ifB ?_ ?_) <;> intro hc))
  exact QQ.end_ rfl () rfl fun w h => h.to
theorem swo_cmpL {α : Type} (f : α → List Int) : Go.Sort.SWO (Go.Proofs.ltOf fun x y : α => cmpL (f x) (f y)) where
  irrefl x := by simp [Go.Proofs.ltOf, cmpL_refl]
  trans x y z h1 h2 := by simp only [Go.Proofs.ltOf, decide_eq_true_eq] at *; exact cmpL_tt h1 h2
  ntrans x y z h1 h2 := by
    simp only [Go.Proofs.ltOf, decide_eq_false_iff_not] at *
    exact leL_tr (a := f z) (b := f y) (c := f x) h2 h1
section
variable {kg : SV → List Int} {L : List HP} {w0 : World} {I : Foot}
theorem sortC_tr {s : SV} {ps : List (SV × Int)} (hg : GrG I kg ps) (hl : ∀ p ∈ ps, (kg p.1).length ≤ 1000000) (hn : ps.length ≤ 100000) :
    Tr Tryz.prog 110 #[.slice s.a s.n s.cap, .func (.func 111) #[] #[]] (SL w0 I (OwnS 84 s ps :: L)) (fun _ : SortedOf (fun p q : SV × Int => cmpL (kg p.1) (kg q.1)) ps => .tuple #[]) (fun q => SL w0 I (OwnS 84 s q.1 :: L)) :=
  SortFuncK_tr (α := SV × Int) (ρ := Tryz.sortCount_ren) (caps := []) Tryz.sortCount Tryz.isAgg84 Tryz.sizeOf84 (fun p q : SV × Int => cmpL (kg p.1) (kg q.1)) (swo_cmpL fun x : { x // x ∈ ps } => kg x.1.1) (fun w1 J hJ x hx y hy => by
    haveI : SubI J I := ⟨hJ⟩
    haveI := (hg x hx).sub (I' := J)
    haveI := (hg y hy).sub (I' := J)
    have h1 := hl x hx
    have h2 := hl y hy
    exact Sum1_tr (by omega) (by omega)) (by omega)
structure GSm where
  i : Nat
  out : SV
  cs : List (SV × Int)
  ms : List Ct
theorem gSum_tr {s : SV} {ps : List (SV × Int)} [hr : RdS I L s (SV × Int) inferInstance ps] (hg : GrG I kg ps) (hl : ∀ p ∈ ps, (kg p.1).length ≤ 1000000) (hn : ps.length ≤ 100000) :
    Tr Tryz.prog 92 #[.slice s.a s.n s.cap] (SL w0 I L) (fun x : SV × List (SV × Int) => .slice x.1.a x.1.n x.1.cap)
      (fun x w => x.2.map Prod.snd = (((ps.map (moP kg)).foldl putM []).map Prod.snd) ∧ SL w0 I (OwnS 84 x.1 x.2 :: RowH 3 (x.2.map Prod.fst) (((ps.map (moP kg)).foldl putM []).map Prod.fst) :: L) w) := by
  refine Tr.intro Tryz.func92 rfl Tryz.ntmps92 rfl ?_
  repeat' (first | ((first | refine WLA.m rfl rfl ?_ ?_ | refine WLA.st rfl ?_ ?_ | refine WLA.x rfl rfl ?_ (fun x => ?_) | refine WLA.x0 rfl ?_ (fun x => ?_)); first | exact trivial | exact rfl | assumption | omega | (refine ⟨?_, ?_⟩ <;> omega) | (simp only [Room, lenS]; omega) | decide | skip) | (refine Stp.go ?_) | (guard_target =~ WLA _ _ _ _ _ (⟨_, .call ⟨.value (.func 109), _, _⟩, _, _, _, _⟩ :: _) _ _; refine WLA.call rfl rfl (CloneC_tr (by omega)) ?_; rintro own) | (guard_target =~ WLA _ _ _ _ _ (⟨_, .call ⟨.value (.func 110), _, _⟩, _, _, _, _⟩ :: _) _ _; refine WLA.call rfl rfl (sortC_tr hg hl hn) ?_; rintro ⟨qs, hq1, hq2⟩; have hql := hq1.length_eq; dsimp only) | (refine WPA.ifT ?_) | (refine WPA.ifF ?_) | ((first | refine WPA.dec ?_); first | refine .inl ⟨by first | assumption | omega | with_reducible rfl | (refine fun h => h ?_; first | assumption | with_reducible rfl) | (simp only [lenS] <;> omega) | decide, ?_⟩ | refine .inr ⟨by first | assumption | omega | with_reducible rfl | (refine fun h => h ?_; first | assumption | with_reducible rfl) | (simp only [lenS] <;> omega) | decide, ?_⟩) | ((first | refine WPA.ifBt ?_ ?_ | refine WPA.ifBnf ?_ ?_); assumption) | ((first | refine WPA.ifBnt ?_ ?_ | refine WPA.ifBf ?_ ?_); assumption) | ((first | refine WPA.ifs ?_ ?_ | refine WPA.ifB ?_ ?_) <;> intro hc))
  revert x; intro out0
  have hfold : (qs.map (moP kg)).foldl putM [] = (ps.map (moP kg)).foldl putM [] := (foldl_perm (hq1.map (moP kg)) List.Pairwise.nil).symm
  rw [← hfold]
  refine WPA.loopS (σ := GSm) (fun y => [(4, .slice y.out.a y.out.n y.out.cap), (15, .slice own.a own.n own.cap), (16, .int .i64 qs.length), (17, .int .i64 y.i)])
    (fun y => (y.i ≤ qs.length ∧ y.ms.length ≤ y.i) ∧ (y.cs.map Prod.snd = y.ms.map Prod.snd ∧ Ris id y.ms ∧ ∀ m ∈ y.ms, m.1.length ≤ 1000000) ∧ ((qs.drop y.i).map (moP kg)).foldl putM y.ms = (qs.map (moP kg)).foldl putM [] ∧ ∀ m ∈ y.ms, ∀ q ∈ qs.drop y.i, ¬ ltL (kg q.1) m.1)
    (fun y => SL w0 I (OwnS 84 y.out y.cs :: RowH 3 (y.cs.map Prod.fst) (y.ms.map Prod.fst) :: OwnS 84 own qs :: L)) (fun y => qs.length - y.i) ⟨0, out0, [], []⟩ ⟨rfl, rfl, rfl, rfl, trivial⟩ ⟨⟨Nat.zero_le _, Nat.le_refl _⟩, ⟨rfl, List.Pairwise.nil, by simp⟩, rfl, by simp⟩ (fun w h => ?_) ?_
  · have e : List.replicate (Int.toNat 0) ((SV.nil, 0) : SV × Int) = [] := rfl
    rw [e] at h
    have h2 := (RowH.nil (α := Int) (e := 3)).sl h
    show SL w0 I (OwnS 84 out0 ([] : List (SV × Int)) :: RowH 3 [] ([] : List (List Int)) :: OwnS 84 own qs :: L) w
    exact h2.to
  rintro ⟨i, out, cs, ms⟩ ρ ⟨⟨hi, hmi0⟩, ⟨h5, h6, h6b⟩, h7, h8⟩
  dsimp only at hi hmi0 h5 h6 h6b h7 h8 ⊢
  have hcl : cs.length = ms.length := by have := congrArg List.length h5; simpa using this
  by_cases hlt : i < qs.length
  · have hlt' : (i : Int) < qs.length := by omega
    have ei := at_nat qs i hlt
    have hmq : at_ qs (i : Int) ∈ ps := hq1.mem_iff.2 (by rw [ei]; exact List.getElem_mem _)
    have hxs := hg _ hmq
    have hxl := hl _ hmq
    have hdr : qs.drop i = at_ qs (i : Int) :: qs.drop (i + 1) := by rw [ei]; exact List.drop_eq_getElem_cons hlt
    rw [hdr, List.map_cons, List.foldl_cons] at h7
    have hmx : ∀ m ∈ ms, ¬ ltL (kg (at_ qs (i : Int)).1) m.1 := fun m hm => h8 m hm _ (by rw [hdr]; exact List.mem_cons_self ..)
    have hpl := put_last (x := moP kg (at_ qs (i : Int))) h6 hmx
    have hafter : ∀ q ∈ qs.drop (i + 1), ¬ ltL (kg q.1) (kg (at_ qs (i : Int)).1) := by
      have := List.pairwise_cons.1 (hdr ▸ hq2.sublist (List.drop_sublist i qs))
      exact fun q hq => this.1 q hq
    have hris' : Ris id (putM ms (moP kg (at_ qs (i : Int)))) := putL_ris h6
    have hlen' : (putM ms (moP kg (at_ qs (i : Int)))).length ≤ ms.length + 1 := putL_len ms
    have hms' : ∀ m ∈ putM ms (moP kg (at_ qs (i : Int))), m.1.length ≤ 1000000 ∧ ∀ q ∈ qs.drop (i + 1), ¬ ltL (kg q.1) m.1 := by
      intro m hm
      rcases putL_mem m hm with e | ⟨z, hz, e⟩
      · have e : m.1 = kg (at_ qs (i : Int)).1 := e
        rw [e]; exact ⟨hxl, hafter⟩
      · have e : m.1 = z.1 := e
        rw [e]; exact ⟨h6b z hz, fun q hq => h8 z hz q (by rw [hdr]; exact List.mem_cons_of_mem _ hq)⟩
    have hfin : ∀ (cs' : List (SV × Int)), cs'.map Prod.snd = (putM ms (moP kg (at_ qs (i : Int)))).map Prod.snd → ((i + 1 ≤ qs.length ∧ (putM ms (moP kg (at_ qs (i : Int)))).length ≤ i + 1) ∧ (cs'.map Prod.snd = (putM ms (moP kg (at_ qs (i : Int)))).map Prod.snd ∧ Ris id (putM ms (moP kg (at_ qs (i : Int)))) ∧ ∀ m ∈ putM ms (moP kg (at_ qs (i : Int))), m.1.length ≤ 1000000) ∧ ((qs.drop (i + 1)).map (moP kg)).foldl putM (putM ms (moP kg (at_ qs (i : Int)))) = (qs.map (moP kg)).foldl putM [] ∧ ∀ m ∈ putM ms (moP kg (at_ qs (i : Int))), ∀ q ∈ qs.drop (i + 1), ¬ ltL (kg q.1) m.1) :=
      fun cs' h => ⟨⟨hlt, by omega⟩, ⟨h, hris', fun m hm => (hms' m hm).1⟩, h7, fun m hm => (hms' m hm).2⟩
    clear hms' hafter hris' hlen' h7
    have hm2 : moP kg (at_ qs (i : Int)) = (kg (at_ qs (i : Int)).1, (at_ qs (i : Int)).2) := rfl
    rw [hm2] at hpl hfin
    generalize hX : at_ qs (i : Int) = x at hxs hxl hpl hfin hmx
    obtain ⟨xg, xn⟩ := x
    dsimp only at hxs hxl hpl hfin hmx
    have hxl2 : (kg xg).length ≤ 1000000000 := by omega
    by_cases hz : cs.length = 0
    · have hz0 : ¬ (0 : Int) < cs.length := by omega
      have hms0 : ms = [] := List.eq_nil_of_length_eq_zero (by omega)
      rw [dif_neg (fun h => h.1 hms0)] at hpl
      rw [hpl] at hfin
      repeat' (first | ((rw [hX]; dsimp only)) | ((first | refine WLA.m rfl rfl ?_ ?_ | refine WDQ.m rfl rfl ?_ ?_ | refine WLA.st rfl ?_ ?_ | refine WLA.x rfl rfl ?_ (fun x => ?_) | refine WLA.x0 rfl ?_ (fun x => ?_)); first | exact trivial | exact rfl | assumption | omega | (refine ⟨?_, ?_⟩ <;> omega) | (simp only [Room, lenS]; omega) | decide | skip) | (refine Stp.go ?_) | (guard_target =~ WLA _ _ _ _ _ (⟨_, .call ⟨.value (.func 68), _, _⟩, _, _, _, _⟩ :: _) _ _; refine WLA.cq rfl rfl (Equal_tr (by assumption)) ?_) | (guard_target =~ WLA _ _ _ _ _ (⟨_, .call ⟨.value (.func 46), _, _⟩, _, _, _, _⟩ :: _) _ _; refine WLA.call rfl rfl (Clone_tr (by assumption)) ?_; rintro g') | (refine WPA.ifT ?_) | (refine WPA.ifF ?_) | (refine WLA.no rfl rfl ?_) | (refine WDQ.no rfl rfl ?_) | ((first | refine WPA.dec ?_ | ((fail_if_success (guard_target =~ WLA _ _ _ _ _ _ (put1 _ _ (.bool true)) _)); (fail_if_success (guard_target =~ WLA _ _ _ _ _ _ (put1 _ _ (.bool false)) _)); refine WLA.dec rfl rfl ?_) | refine WLA.pk ?_ | refine WDQ.dec rfl rfl ?_); first | refine .inl ⟨by first | assumption | omega | with_reducible rfl | (refine fun h => h ?_; first | assumption | with_reducible rfl) | (simp only [lenS] <;> omega) | decide, ?_⟩ | refine .inr ⟨by first | assumption | omega | with_reducible rfl | (refine fun h => h ?_; first | assumption | with_reducible rfl) | (simp only [lenS] <;> omega) | decide, ?_⟩) | ((first | refine WPA.ifBt ?_ ?_ | refine WPA.ifBnf ?_ ?_); assumption) | ((first | refine WPA.ifBnt ?_ ?_ | refine WPA.ifBf ?_ ?_); assumption) | ((first | refine WPA.ifs ?_ ?_ | refine WPA.ifB ?_ ?_) <;> intro hc) | ((fail_if_success (guard_target =~ WLA _ _ _ _ _ _ (put1 _ _ (.bool true)) _)); (fail_if_success (guard_target =~ WLA _ _ _ _ _ _ (put1 _ _ (.bool false)) _)); (first | refine WLA.both rfl rfl ?_ ?_ | refine WLA.bothB rfl rfl ?_ ?_) <;> intro hg) | (guard_target =~ WPA _ _ _ (.region 8 _ true) _ _ _; refine WPA.drawT 11 (.q 0 (.q 1 (.q 2 (.q 3 (.q 4 (.q 5 (.q 6 (.q 7 (.q 8 (.q 9 (.q 10 .fin))))))))))) mixed ?_ ?_; kernel_rfl) | (guard_target =~ WPA _ _ _ (.region 9 _ true) _ _ _; refine WPA.drawT 8 (.q 0 (.q 1 (.q 2 (.q 3 (.q 4 (.q 5 (.q 6 (.q 7 .fin)))))))) mixed ?_ ?_; kernel_rfl) | (guard_target =~ WPA _ _ _ (.region 10 _ true) _ _ _; refine WPA.drawT 8 (.q 0 (.q 1 (.q 2 (.q 4 (.q 5 (.e 3 (.q 6 (.e 7 .fin)))))))) mixed ?_ ?_; kernel_rfl) | (refine WDA.finish (tl := [⟨_, _, _, _, _, _⟩, ⟨_, _, _, _, _, _⟩]) rfl ?_) | (refine WDA.finish (tl := [⟨_, _, _, _, _, _⟩, ⟨_, _, _, _, _, _⟩, ⟨_, _, _, _, _, _⟩, ⟨_, _, _, _, _, _⟩]) rfl ?_) | (refine WDQ.see rfl ?_) | (refine WDE.see rfl ?_) | (refine WDE.alloc rfl rfl (fun w h => h) (fun x => ?_)) | (refine WDE.stE rfl ?_) | (refine WDE.x rfl rfl ?_ ?_ (fun x => ?_); rotate_left 1; (intro x w h; first | exact h | exact Ent.drop1.sl h | exact SL.unI h | exact SL.to h); rotate_left 1; first | exact trivial | exact rfl | assumption | omega | (refine ⟨?_, ?_⟩ <;> omega) | (simp only [Room, lenS]; omega) | decide | skip) | (guard_target =~ WDQ _ _ _ _ _ _ _ ⟨_, .call ⟨.value (.func 68), _, _⟩, _, _, _, _⟩ _ _ _; refine WDQ.cq rfl rfl (Equal_tr (by assumption)) ?_) | (guard_target =~ WDE _ _ _ _ _ _ _ ⟨_, .call ⟨.value (.func 46), _, _⟩, _, _, _, _⟩ _ _ _; refine WDE.call rfl rfl (Clone_tr (by assumption)) ?_ ?_; (intro x w h; first | exact h | exact Ent.drop1.sl h | exact SL.unI h | exact SL.to h); rintro g') | (guard_target =~ WDW _ _ _ _ _ _ _ ⟨_, .call ⟨.value (.func 46), _, _⟩, _, _, _, _⟩ _ _ _; refine WDW.call rfl rfl (Clone_tr (by assumption)) ?_; rintro g') | ((first | refine WDQ.both rfl rfl ?_ ?_) <;> intro hg))
      have hsn : (cs.map Prod.fst).length = (ms.map Prod.fst).length := by rw [List.length_map, List.length_map, hcl]
      have hcs2 : (cs ++ [(g', xn)]).map Prod.snd = (ms ++ [(kg xg, xn)]).map Prod.snd := by rw [List.map_append, List.map_append, h5]; rfl
      refine QQ.loopS ⟨i + 1, x, cs ++ [(g', xn)], ms ++ [(kg xg, xn)]⟩ ⟨rfl, rfl, rfl, rfl, trivial⟩ (hfin _ hcs2) (by dsimp only; omega) (fun w h => ?_)
      have h2 := (RowH.snoc hsn).sl ((EntC.out (L' := OwnS 3 g' (kg xg) :: RowH 3 (cs.map Prod.fst) (ms.map Prod.fst) :: OwnS 84 x (cs ++ [(g', xn)]) :: OwnS 84 own qs :: L)).sl h)
      dsimp only
      simp only [List.map_append, List.map_cons, List.map_nil]
      exact h2.to
    · have hz0 : (0 : Int) < cs.length := by omega
      have hmi : ms.length - 1 < ms.length := by omega
      have hlast : ms.getD (ms.length - 1) ([], 0) = ms[ms.length - 1] := by simp [List.getD_eq_getElem?_getD, hmi]
      have hci : (cs.length : Int) - 1 = ((ms.length - 1 : Nat) : Int) := by omega
      have hcat : at_ cs ((cs.length : Int) - 1) = cs[ms.length - 1] := by rw [hci]; exact at_nat _ _ (by omega)
      rw [hlast] at hpl
      have hlb := h6b _ (List.getElem_mem hmi)
      have hsnd : (at_ cs ((cs.length : Int) - 1)).2 = ms[ms.length - 1].2 := by
        rw [hcat]
        have := congrArg (fun l => l[ms.length - 1]?) h5
        simp only [List.getElem?_map, List.getElem?_eq_getElem hmi, List.getElem?_eq_getElem (show ms.length - 1 < cs.length by omega), Option.map_some] at this
        injection this
      have hmne : ms ≠ [] := fun e => by rw [e] at hmi; simp at hmi
      haveI hrow : IsRow (cs.map Prod.fst) (ms.map Prod.fst) (at_ cs ((cs.length : Int) - 1)).1 ms[ms.length - 1].1 := ⟨⟨ms.length - 1, by rw [List.length_map]; omega, by rw [List.length_map]; omega, by
        rw [hcat, List.getD_eq_getElem?_getD, List.getElem?_map, List.getElem?_eq_getElem (by omega)]; rfl, by
        rw [List.getD_eq_getElem?_getD, List.getElem?_map, List.getElem?_eq_getElem hmi]; rfl⟩⟩
      have hlb' : ms[ms.length - 1].1.length ≤ 1000000000 := by omega
      by_cases heq : ms[ms.length - 1].1 = kg xg
      · rw [dif_pos ⟨hmne, heq⟩] at hpl
        rw [hpl] at hfin
        have hnat : ((cs.length : Int) - 1).toNat = ms.length - 1 := by omega
        have hf1 : (cs.set ((cs.length : Int) - 1).toNat ((at_ cs ((cs.length : Int) - 1)).1, IntKind.i64.wrap ((at_ cs ((cs.length : Int) - 1)).2 + xn))).map Prod.fst = cs.map Prod.fst := map_set_fst fun y hy => by
          rw [hnat, List.getElem?_eq_getElem (by omega)] at hy; injection hy with hy; show y.1 = (at_ cs ((cs.length : Int) - 1)).1; rw [hcat, ← hy]
        have hf2 : (ms.set (ms.length - 1) (kg xg, addN ms[ms.length - 1].2 xn)).map Prod.fst = ms.map Prod.fst := map_set_fst fun y hy => by
          rw [List.getElem?_eq_getElem hmi] at hy; injection hy with hy; show y.1 = kg xg; rw [← heq, ← hy]
        have hcs2 : (cs.set ((cs.length : Int) - 1).toNat ((at_ cs ((cs.length : Int) - 1)).1, IntKind.i64.wrap ((at_ cs ((cs.length : Int) - 1)).2 + xn))).map Prod.snd = (ms.set (ms.length - 1) (kg xg, addN ms[ms.length - 1].2 xn)).map Prod.snd := by
          rw [hnat]; exact map_set_snd h5 (by rw [hsnd])
        repeat' (first | ((rw [hX]; dsimp only)) | ((first | refine WLA.m rfl rfl ?_ ?_ | refine WDQ.m rfl rfl ?_ ?_ | refine WLA.st rfl ?_ ?_ | refine WLA.x rfl rfl ?_ (fun x => ?_) | refine WLA.x0 rfl ?_ (fun x => ?_)); first | exact trivial | exact rfl | assumption | omega | (refine ⟨?_, ?_⟩ <;> omega) | (simp only [Room, lenS]; omega) | decide | skip) | (refine Stp.go ?_) | (guard_target =~ WLA _ _ _ _ _ (⟨_, .call ⟨.value (.func 68), _, _⟩, _, _, _, _⟩ :: _) _ _; refine WLA.cq rfl rfl (Equal_tr (by assumption)) ?_) | (refine WPA.ifT ?_) | (refine WPA.ifF ?_) | (refine WLA.no rfl rfl ?_) | (refine WDQ.no rfl rfl ?_) | ((first | refine WPA.dec ?_ | ((fail_if_success (guard_target =~ WLA _ _ _ _ _ _ (put1 _ _ (.bool true)) _)); (fail_if_success (guard_target =~ WLA _ _ _ _ _ _ (put1 _ _ (.bool false)) _)); refine WLA.dec rfl rfl ?_) | refine WLA.pk ?_ | refine WDQ.dec rfl rfl ?_); first | refine .inl ⟨by first | assumption | omega | with_reducible rfl | (refine fun h => h ?_; first | assumption | with_reducible rfl) | (simp only [lenS] <;> omega) | decide, ?_⟩ | refine .inr ⟨by first | assumption | omega | with_reducible rfl | (refine fun h => h ?_; first | assumption | with_reducible rfl) | (simp only [lenS] <;> omega) | decide, ?_⟩) | ((first | refine WPA.ifBt ?_ ?_ | refine WPA.ifBnf ?_ ?_); assumption) | ((first | refine WPA.ifBnt ?_ ?_ | refine WPA.ifBf ?_ ?_); assumption) | ((first | refine WPA.ifs ?_ ?_ | refine WPA.ifB ?_ ?_) <;> intro hc) | ((fail_if_success (guard_target =~ WLA _ _ _ _ _ _ (put1 _ _ (.bool true)) _)); (fail_if_success (guard_target =~ WLA _ _ _ _ _ _ (put1 _ _ (.bool false)) _)); (first | refine WLA.both rfl rfl ?_ ?_ | refine WLA.bothB rfl rfl ?_ ?_) <;> intro hg) | (guard_target =~ WPA _ _ _ (.region 8 _ true) _ _ _; refine WPA.drawT 11 (.q 0 (.q 1 (.q 2 (.q 3 (.q 4 (.q 5 (.q 6 (.q 7 (.q 8 (.q 9 (.q 10 .fin))))))))))) mixed ?_ ?_; kernel_rfl) | (refine WDA.finish (tl := [⟨_, _, _, _, _, _⟩, ⟨_, _, _, _, _, _⟩]) rfl ?_) | (refine WDQ.see rfl ?_) | (guard_target =~ WDQ _ _ _ _ _ _ _ ⟨_, .call ⟨.value (.func 68), _, _⟩, _, _, _, _⟩ _ _ _; refine WDQ.cq rfl rfl (Equal_tr (by assumption)) ?_) | ((first | refine WDQ.both rfl rfl ?_ ?_) <;> intro hg))
        repeat' ((fail_if_success (guard_target =~ WPA _ _ _ (.region 11 _ _) _ _ _)); first | (guard_target =~ WLA _ _ _ _ _ (⟨_, .binOp .add _ _ _ _, _, _, _, _⟩ :: _) _ _; refine WLA.m (h := addW) rfl rfl trivial ?_) | (guard_target =~ WDQ _ _ _ _ _ _ _ ⟨_, .binOp .add _ _ _ _, _, _, _, _⟩ _ _ _; refine WDQ.m (h := addW) rfl rfl trivial ?_) | (guard_target =~ WDP _ _ _ _ _ _ _ ⟨_, .binOp .add _ _ _ _, _, _, _, _⟩ _ _ _; refine WDP.m (h := addW) rfl rfl trivial ?_) | ((first | refine WLA.m rfl rfl ?_ ?_ | refine WDQ.m rfl rfl ?_ ?_ | refine WLA.st rfl ?_ ?_ | refine WLA.x rfl rfl ?_ (fun x => ?_) | refine WLA.x0 rfl ?_ (fun x => ?_)); first | exact trivial | exact rfl | assumption | omega | (refine ⟨?_, ?_⟩ <;> omega) | (simp only [Room, lenS]; omega) | decide | skip) | (refine Stp.go ?_) | (refine WPA.ifT ?_) | (refine WPA.ifF ?_) | ((first | refine WPA.dec ?_); first | refine .inl ⟨by first | assumption | omega | with_reducible rfl | (refine fun h => h ?_; first | assumption | with_reducible rfl) | (simp only [lenS] <;> omega) | decide, ?_⟩ | refine .inr ⟨by first | assumption | omega | with_reducible rfl | (refine fun h => h ?_; first | assumption | with_reducible rfl) | (simp only [lenS] <;> omega) | decide, ?_⟩) | ((first | refine WPA.ifBt ?_ ?_ | refine WPA.ifBnf ?_ ?_); assumption) | ((first | refine WPA.ifBnt ?_ ?_ | refine WPA.ifBf ?_ ?_); assumption) | ((first | refine WPA.ifs ?_ ?_ | refine WPA.ifB ?_ ?_) <;> intro hc) | (guard_target =~ WPA _ _ _ (.region 9 _ true) _ _ _; refine WPA.drawT 8 (.q 0 (.q 1 (.q 2 (.q 3 (.q 4 (.q 5 (.q 6 (.q 7 .fin)))))))) mixed ?_ ?_; kernel_rfl) | (refine WDA.finish (tl := [⟨_, _, _, _, _, _⟩, ⟨_, _, _, _, _, _⟩, ⟨_, _, _, _, _, _⟩, ⟨_, _, _, _, _, _⟩]) rfl ?_) | (refine WDQ.see rfl ?_))
        repeat' (first | ((first | refine WLA.m rfl rfl ?_ ?_ | refine WLA.st rfl ?_ ?_ | refine WLA.x rfl rfl ?_ (fun x => ?_) | refine WLA.x0 rfl ?_ (fun x => ?_)); first | exact trivial | exact rfl | assumption | omega | (refine ⟨?_, ?_⟩ <;> omega) | (simp only [Room, lenS]; omega) | decide | skip) | (refine Stp.go ?_) | (refine WPA.ifT ?_) | (refine WPA.ifF ?_) | ((first | refine WPA.dec ?_); first | refine .inl ⟨by first | assumption | omega | with_reducible rfl | (refine fun h => h ?_; first | assumption | with_reducible rfl) | (simp only [lenS] <;> omega) | decide, ?_⟩ | refine .inr ⟨by first | assumption | omega | with_reducible rfl | (refine fun h => h ?_; first | assumption | with_reducible rfl) | (simp only [lenS] <;> omega) | decide, ?_⟩) | ((first | refine WPA.ifBt ?_ ?_ | refine WPA.ifBnf ?_ ?_); assumption) | ((first | refine WPA.ifBnt ?_ ?_ | refine WPA.ifBf ?_ ?_); assumption) | ((first | refine WPA.ifs ?_ ?_ | refine WPA.ifB ?_ ?_) <;> intro hc))
        refine QQ.loopS ⟨i + 1, out, _, _⟩ ⟨rfl, rfl, rfl, rfl, trivial⟩ (hfin _ hcs2) (by dsimp only; omega) (fun w h => ?_)
        dsimp only
        rw [hf1, hf2]
        exact h.to
      · rw [dif_neg (fun h => heq h.2)] at hpl
        rw [hpl] at hfin
        repeat' (first | ((rw [hX]; dsimp only)) | ((first | refine WLA.m rfl rfl ?_ ?_ | refine WDQ.m rfl rfl ?_ ?_ | refine WLA.st rfl ?_ ?_ | refine WLA.x rfl rfl ?_ (fun x => ?_) | refine WLA.x0 rfl ?_ (fun x => ?_)); first | exact trivial | exact rfl | assumption | omega | (refine ⟨?_, ?_⟩ <;> omega) | (simp only [Room, lenS]; omega) | decide | skip) | (refine Stp.go ?_) | (guard_target =~ WLA _ _ _ _ _ (⟨_, .call ⟨.value (.func 68), _, _⟩, _, _, _, _⟩ :: _) _ _; refine WLA.cq rfl rfl (Equal_tr (by assumption)) ?_) | (guard_target =~ WLA _ _ _ _ _ (⟨_, .call ⟨.value (.func 46), _, _⟩, _, _, _, _⟩ :: _) _ _; refine WLA.call rfl rfl (Clone_tr (by assumption)) ?_; rintro g') | (refine WPA.ifT ?_) | (refine WPA.ifF ?_) | (refine WLA.no rfl rfl ?_) | (refine WDQ.no rfl rfl ?_) | ((first | refine WPA.dec ?_ | ((fail_if_success (guard_target =~ WLA _ _ _ _ _ _ (put1 _ _ (.bool true)) _)); (fail_if_success (guard_target =~ WLA _ _ _ _ _ _ (put1 _ _ (.bool false)) _)); refine WLA.dec rfl rfl ?_) | refine WLA.pk ?_ | refine WDQ.dec rfl rfl ?_); first | refine .inl ⟨by first | assumption | omega | with_reducible rfl | (refine fun h => h ?_; first | assumption | with_reducible rfl) | (simp only [lenS] <;> omega) | decide, ?_⟩ | refine .inr ⟨by first | assumption | omega | with_reducible rfl | (refine fun h => h ?_; first | assumption | with_reducible rfl) | (simp only [lenS] <;> omega) | decide, ?_⟩) | ((first | refine WPA.ifBt ?_ ?_ | refine WPA.ifBnf ?_ ?_); assumption) | ((first | refine WPA.ifBnt ?_ ?_ | refine WPA.ifBf ?_ ?_); assumption) | ((first | refine WPA.ifs ?_ ?_ | refine WPA.ifB ?_ ?_) <;> intro hc) | ((fail_if_success (guard_target =~ WLA _ _ _ _ _ _ (put1 _ _ (.bool true)) _)); (fail_if_success (guard_target =~ WLA _ _ _ _ _ _ (put1 _ _ (.bool false)) _)); (first | refine WLA.both rfl rfl ?_ ?_ | refine WLA.bothB rfl rfl ?_ ?_) <;> intro hg) | (guard_target =~ WPA _ _ _ (.region 8 _ true) _ _ _; refine WPA.drawT 11 (.q 0 (.q 1 (.q 2 (.q 3 (.q 4 (.q 5 (.q 6 (.q 7 (.q 8 (.q 9 (.q 10 .fin))))))))))) mixed ?_ ?_; kernel_rfl) | (guard_target =~ WPA _ _ _ (.region 9 _ true) _ _ _; refine WPA.drawT 8 (.q 0 (.q 1 (.q 2 (.q 3 (.q 4 (.q 5 (.q 6 (.q 7 .fin)))))))) mixed ?_ ?_; kernel_rfl) | (guard_target =~ WPA _ _ _ (.region 10 _ true) _ _ _; refine WPA.drawT 8 (.q 0 (.q 1 (.q 2 (.q 4 (.q 5 (.e 3 (.q 6 (.e 7 .fin)))))))) mixed ?_ ?_; kernel_rfl) | (refine WDA.finish (tl := [⟨_, _, _, _, _, _⟩, ⟨_, _, _, _, _, _⟩]) rfl ?_) | (refine WDA.finish (tl := [⟨_, _, _, _, _, _⟩, ⟨_, _, _, _, _, _⟩, ⟨_, _, _, _, _, _⟩, ⟨_, _, _, _, _, _⟩]) rfl ?_) | (refine WDQ.see rfl ?_) | (refine WDE.see rfl ?_) | (refine WDE.alloc rfl rfl (fun w h => h) (fun x => ?_)) | (refine WDE.stE rfl ?_) | (refine WDE.x rfl rfl ?_ ?_ (fun x => ?_); rotate_left 1; (intro x w h; first | exact h | exact Ent.drop1.sl h | exact SL.unI h | exact SL.to h); rotate_left 1; first | exact trivial | exact rfl | assumption | omega | (refine ⟨?_, ?_⟩ <;> omega) | (simp only [Room, lenS]; omega) | decide | skip) | (guard_target =~ WDQ _ _ _ _ _ _ _ ⟨_, .call ⟨.value (.func 68), _, _⟩, _, _, _, _⟩ _ _ _; refine WDQ.cq rfl rfl (Equal_tr (by assumption)) ?_) | (guard_target =~ WDE _ _ _ _ _ _ _ ⟨_, .call ⟨.value (.func 46), _, _⟩, _, _, _, _⟩ _ _ _; refine WDE.call rfl rfl (Clone_tr (by assumption)) ?_ ?_; (intro x w h; first | exact h | exact Ent.drop1.sl h | exact SL.unI h | exact SL.to h); rintro g') | (guard_target =~ WDW _ _ _ _ _ _ _ ⟨_, .call ⟨.value (.func 46), _, _⟩, _, _, _, _⟩ _ _ _; refine WDW.call rfl rfl (Clone_tr (by assumption)) ?_; rintro g') | ((first | refine WDQ.both rfl rfl ?_ ?_) <;> intro hg))
        have hsn : (cs.map Prod.fst).length = (ms.map Prod.fst).length := by rw [List.length_map, List.length_map, hcl]
        have hcs2 : (cs ++ [(g', xn)]).map Prod.snd = (ms ++ [(kg xg, xn)]).map Prod.snd := by rw [List.map_append, List.map_append, h5]; rfl
        refine QQ.loopS ⟨i + 1, x, cs ++ [(g', xn)], ms ++ [(kg xg, xn)]⟩ ⟨rfl, rfl, rfl, rfl, trivial⟩ (hfin _ hcs2) (by dsimp only; omega) (fun w h => ?_)
        have h2 := (RowH.snoc hsn).sl ((EntC.out (L' := OwnS 3 g' (kg xg) :: RowH 3 (cs.map Prod.fst) (ms.map Prod.fst) :: OwnS 84 x (cs ++ [(g', xn)]) :: OwnS 84 own qs :: L)).sl h)
        dsimp only
        simp only [List.map_append, List.map_cons, List.map_nil]
        exact h2.to
  · have hlt' : ¬ (i : Int) < qs.length := by omega
    rw [List.drop_of_length_le (by omega)] at h7
    repeat' (first | ((first | refine WLA.m rfl rfl ?_ ?_ | refine WLA.st rfl ?_ ?_ | refine WLA.x rfl rfl ?_ (fun x => ?_) | refine WLA.x0 rfl ?_ (fun x => ?_)); first | exact trivial | exact rfl | assumption | omega | (refine ⟨?_, ?_⟩ <;> omega) | (simp only [Room, lenS]; omega) | decide | skip) | (refine Stp.go ?_) | (refine WPA.ifT ?_) | (refine WPA.ifF ?_) | ((first | refine WPA.dec ?_); first | refine .inl ⟨by first | assumption | omega | with_reducible rfl | (refine fun h => h ?_; first | assumption | with_reducible rfl) | (simp only [lenS] <;> omega) | decide, ?_⟩ | refine .inr ⟨by first | assumption | omega | with_reducible rfl | (refine fun h => h ?_; first | assumption | with_reducible rfl) | (simp only [lenS] <;> omega) | decide, ?_⟩) | ((first | refine WPA.ifBt ?_ ?_ | refine WPA.ifBnf ?_ ?_); assumption) | ((first | refine WPA.ifBnt ?_ ?_ | refine WPA.ifBf ?_ ?_); assumption) | ((first | refine WPA.ifs ?_ ?_ | refine WPA.ifB ?_ ?_) <;> intro hc))
    refine QQ.end_ rfl (out, cs) rfl fun w h => ⟨?_, ?_⟩
    · rw [h5, ← h7]; rfl
    · rw [← h7]
      show SL w0 I (OwnS 84 out cs :: RowH 3 (cs.map Prod.fst) (ms.map Prod.fst) :: L) w
      exact h.to
end
end Go.Proofs.YtamnobjdgjbmbaaGreat
