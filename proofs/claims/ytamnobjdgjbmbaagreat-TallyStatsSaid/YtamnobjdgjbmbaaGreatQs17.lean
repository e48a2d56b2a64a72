/- Texts that TallyStats_law leans on, part 17. Conditions: none. -/
import Derived.Test.YtamnobjdgjbmbaaGreatQs16
namespace Go.Proofs.YtamnobjdgjbmbaaGreat
open Go Go.Fw Go.RowKit
set_option linter.unusedVariables false
set_option linter.unusedSimpArgs false
set_option maxRecDepth 100000
set_option maxHeartbeats 16000000
set_option synthInstance.maxHeartbeats 200000
set_option synthInstance.maxSize 100000
attribute [local irreducible] WPA WLA WDA WDQ WDE QQ seqQ blockQ loopQ fnQ OpP OpT Tr TrP SL SLd OwnS LitS Bk BkE Ob
attribute [local irreducible] vS keyS parL RowH CtsH mrg
section
variable {L L' : List HP} {w0 : World} {I : Foot}
theorem rClone_tr {a : SV} {es : List RE} [ha : RdS I L a RE inferInstance es] (hn : es.length ≤ 100000) : Tr Tryz.prog 43 #[.slice a.a a.n a.cap] (SL w0 I L) (fun r : SV => .slice r.a r.n r.cap) (fun r => SL w0 I (OwnS 44 r es :: L)) := by
  refine Tr.intro Tryz.func43 rfl Tryz.ntmps43 rfl ?_
  repeat' (first | ((first | refine WLA.m rfl rfl ?_ ?_ | refine WLA.st rfl ?_ ?_ | refine WLA.x rfl rfl ?_ (fun x => ?_) | refine WLA.x0 rfl ?_ (fun x => ?_)); first | exact trivial | exact rfl | assumption | omega | (refine ⟨?_, ?_⟩ <;> omega) | (simp only [Room, lenS]; omega) | decide | skip) | (refine Stp.go ?_) | (refine WPA.ifT ?_) | (refine WPA.ifF ?_) | ((first | refine WPA.dec ?_); first | refine .inl ⟨by first | assumption | omega | with_reducible rfl | (refine fun h => h ?_; first | assumption | with_reducible rfl) | (simp only [lenS] <;> omega) | decide, ?_⟩ | refine .inr ⟨by first | assumption | omega | with_reducible rfl | (refine fun h => h ?_; first | assumption | with_reducible rfl) | (simp only [lenS] <;> omega) | decide, ?_⟩) | ((first | refine WPA.ifBt ?_ ?_ | refine WPA.ifBnf ?_ ?_); assumption) | ((first | refine WPA.ifBnt ?_ ?_ | refine WPA.ifBf ?_ ?_); assumption) | ((first | refine WPA.ifs ?_ ?_ | refine WPA.ifB ?_ ?_) <;> intro hc))
  · refine QQ.end_ rfl SV.nil rfl fun w h => ?_
    have hr := ha.out w0 w h
    have h0 : es = [] := by
      have hn := hr.len
      rcases hr.plain with h0 | ⟨b, o, e⟩
      · exact List.eq_nil_of_length_eq_zero (by omega)
      · rw [e] at hc; cases hc
    rw [h0]
    exact h.to
  · exact QQ.end_ rfl x rfl fun w h => h.to
theorem Chunk_tr {s : SV} {n : Int} (hn : 1 ≤ n) : Tr Tryz.prog 44 #[.slice s.a s.n s.cap, .int .i64 n] (SL w0 I L) (fun q : Nat × Nat => .func (.func 71) #[] #[.pointer (some ⟨q.1, 0, none⟩), .pointer (some ⟨q.2, 0, none⟩)]) (fun q => SL w0 I (Bk q.1 38 [.slice s.a s.n s.cap] :: Bk q.2 3 [.int .i64 n] :: L)) := by
  refine Tr.intro Tryz.func44 rfl Tryz.ntmps44 rfl ?_
  have hn' : ¬ n < 1 := by omega
  repeat' (first | ((first | refine WLA.m rfl rfl ?_ ?_ | refine WLA.st rfl ?_ ?_ | refine WLA.x rfl rfl ?_ (fun x => ?_) | refine WLA.x0 rfl ?_ (fun x => ?_)); first | exact trivial | exact rfl | assumption | omega | (refine ⟨?_, ?_⟩ <;> omega) | (simp only [Room, lenS]; omega) | decide | skip) | (refine Stp.go ?_) | (refine WPA.ifT ?_) | (refine WPA.ifF ?_) | ((first | refine WPA.dec ?_); first | refine .inl ⟨by first | assumption | omega | with_reducible rfl | (refine fun h => h ?_; first | assumption | with_reducible rfl) | (simp only [lenS] <;> omega) | decide, ?_⟩ | refine .inr ⟨by first | assumption | omega | with_reducible rfl | (refine fun h => h ?_; first | assumption | with_reducible rfl) | (simp only [lenS] <;> omega) | decide, ?_⟩) | ((first | refine WPA.ifBt ?_ ?_ | refine WPA.ifBnf ?_ ?_); assumption) | ((first | refine WPA.ifBnt ?_ ?_ | refine WPA.ifBf ?_ ?_); assumption) | ((first | refine WPA.ifs ?_ ?_ | refine WPA.ifB ?_ ?_) <;> intro hc))
  revert x; intro X2
  revert x; intro X1
  exact QQ.end_ rfl (X1, X2) rfl fun w h => h.to
theorem Chunk1_tr {ca cb lb : Nat} {s : SV} {es : List RE} {f : Nat} {τ ω : Type} (Lk : τ → List HP) (J : τ → Foot) (ix : τ → Nat) (C : τ → Prop) (Bz : ω → World → Prop)
    (hf : 1 ≤ f ∧ (f : Int) ≤ 9223372036854775807) (hs : ∀ x, C x → SlI (J x) s RE inferInstance es) (hn : es.length ≤ 1000000) (hix : ∀ x, C x → ix x = 0 ∨ f ≤ ix x)
    (hy : ∀ x, C x → ix x < es.length → ∀ g : SV, SlI (J x) g RE inferInstance ((es.drop (ix x)).take f) → YTr Tryz.prog lb #[.slice g.a g.n g.cap] (SL w0 (J x) (Bk ca 38 [.slice s.a s.n s.cap] :: Bk cb 3 [.int .i64 f] :: Lk x)) (fun y : τ ⊕ ω => .bool y.isLeft)
      (fun y w => match y with | .inl x' => (C x' ∧ ix x' = ix x + f) ∧ SL w0 (J x') (Bk ca 38 [.slice s.a s.n s.cap] :: Bk cb 3 [.int .i64 f] :: Lk x') w | .inr z => Bz z w))
    (x0 : τ) (hC : C x0) (h0 : ix x0 = 0) :
    Tr Tryz.prog 71 #[.func (.yield lb) #[] #[], .pointer (some ⟨ca, 0, none⟩), .pointer (some ⟨cb, 0, none⟩)] (SL w0 (J x0) (Bk ca 38 [.slice s.a s.n s.cap] :: Bk cb 3 [.int .i64 f] :: Lk x0)) (fun _ : τ ⊕ ω => .tuple #[])
      (fun y w => match y with | .inl x' => (C x' ∧ es.length ≤ ix x') ∧ SL w0 (J x') (Bk ca 38 [.slice s.a s.n s.cap] :: Bk cb 3 [.int .i64 f] :: Lk x') w | .inr z => Bz z w) := by
  refine Tr.intro Tryz.func71 rfl Tryz.ntmps71 rfl ?_
  repeat' (first | ((first | refine WLA.m rfl rfl ?_ ?_ | refine WLA.st rfl ?_ ?_ | refine WLA.x rfl rfl ?_ (fun x => ?_) | refine WLA.x0 rfl ?_ (fun x => ?_)); first | exact trivial | exact rfl | assumption | omega | (refine ⟨?_, ?_⟩ <;> omega) | (simp only [Room, lenS]; omega) | decide | skip) | (refine Stp.go ?_) | (refine WPA.ifT ?_) | (refine WPA.ifF ?_) | ((first | refine WPA.dec ?_); first | refine .inl ⟨by first | assumption | omega | with_reducible rfl | (refine fun h => h ?_; first | assumption | with_reducible rfl) | (simp only [lenS] <;> omega) | decide, ?_⟩ | refine .inr ⟨by first | assumption | omega | with_reducible rfl | (refine fun h => h ?_; first | assumption | with_reducible rfl) | (simp only [lenS] <;> omega) | decide, ?_⟩) | ((first | refine WPA.ifBt ?_ ?_ | refine WPA.ifBnf ?_ ?_); assumption) | ((first | refine WPA.ifBnt ?_ ?_ | refine WPA.ifBf ?_ ?_); assumption) | ((first | refine WPA.ifs ?_ ?_ | refine WPA.ifB ?_ ?_) <;> intro hc))
  refine WPA.loopS (σ := τ) (fun x => [(0, .func (.yield lb) #[] #[]), (1, .pointer (some ⟨ca, 0, none⟩)), (2, .pointer (some ⟨cb, 0, none⟩)), (4, .int .i64 (ix x))]) C
    (fun x => SL w0 (J x) (Bk ca 38 [.slice s.a s.n s.cap] :: Bk cb 3 [.int .i64 f] :: Lk x)) (fun x => es.length - ix x) x0 ⟨rfl, rfl, rfl, by rw [h0]; rfl, trivial⟩ hC (fun w h => h) ?_
  intro x ρ hCx
  have hsx := hs x hCx
  by_cases hlt : ix x < es.length
  · have hlt' : (ix x : Int) < es.length := by omega
    have hix' := hix x hCx
    have hcl : (cutL es (ix x : Int) (es.length : Int)).length = es.length - ix x := by
      unfold cutL; rw [if_pos (by omega), List.length_take, List.length_drop]; omega
    have hmin : min (f : Int) (((cutL es (ix x : Int) (es.length : Int)).length : Nat) : Int) = ((min f (es.length - ix x) : Nat) : Int) := by rw [hcl]; omega
    have hct := cutL_take (xs := es) (i := ix x) (f := f) (by omega)
    have hyx := hy x hCx hlt (clipV (s.cut 3 (ix x : Int) ((ix x : Int) + ((min f (es.length - ix x) : Nat) : Int)))) (by rw [← hct]; infer_instance)
    have hm1 : 1 ≤ min f (es.length - ix x) ∧ min f (es.length - ix x) ≤ es.length - ix x := by omega
    generalize min f (es.length - ix x) = c at hmin hyx hm1
    have hcr : (0 : Int) ≤ (ix x : Int) ∧ (ix x : Int) < (ix x : Int) + c := by omega
    have hcr2 : (ix x : Int) + c ≤ es.length := by omega
    repeat' (first | ((rw [hmin])) | ((first | refine WLA.m rfl rfl ?_ ?_ | refine WDQ.m rfl rfl ?_ ?_ | refine WLA.st rfl ?_ ?_ | refine WLA.x rfl rfl ?_ (fun x => ?_) | refine WLA.x0 rfl ?_ (fun x => ?_)); first | exact trivial | exact rfl | assumption | omega | (refine ⟨?_, ?_⟩ <;> omega) | (simp only [Room, lenS]; omega) | decide | skip) | (refine Stp.go ?_) | (guard_target =~ WLA _ _ _ _ _ (⟨_, .call ⟨.value (.tmp _), _, _⟩, _, _, _, _⟩ :: _) _ _; refine WLA.yield rfl rfl (hyx.ent) ?_; rintro (x' | z); dsimp only; refine WLA.pure fun hC' => ?_) | (refine WPA.ifT ?_) | (refine WPA.ifF ?_) | ((first | refine WPA.dec ?_); first | refine .inl ⟨by first | assumption | omega | with_reducible rfl | (refine fun h => h ?_; first | assumption | with_reducible rfl) | (simp only [lenS] <;> omega) | decide, ?_⟩ | refine .inr ⟨by first | assumption | omega | with_reducible rfl | (refine fun h => h ?_; first | assumption | with_reducible rfl) | (simp only [lenS] <;> omega) | decide, ?_⟩) | ((first | refine WPA.ifBt ?_ ?_ | refine WPA.ifBnf ?_ ?_); assumption) | ((first | refine WPA.ifBnt ?_ ?_ | refine WPA.ifBf ?_ ?_); assumption) | ((first | refine WPA.ifs ?_ ?_ | refine WPA.ifB ?_ ?_) <;> intro hc) | (guard_target =~ WPA _ _ _ (.region 3 _ true) _ _ _; refine WPA.drawT 5 (.q 0 (.q 1 (.q 2 (.q 3 (.q 4 .fin))))) mixed ?_ ?_; kernel_rfl) | (refine WDA.finish (tl := [⟨_, _, _, _, _, _⟩, ⟨_, _, _, _, _, _⟩]) rfl ?_) | (refine WDQ.see rfl ?_))
    · exact QQ.loopS x' ⟨rfl, rfl, rfl, by rw [hC'.2]; rfl, trivial⟩ hC'.1 (by have := hC'.2; omega) (fun w h => h)
    · exact QQ.end_ rfl (.inr z) rfl fun w h => h
  · have hlt' : ¬ (ix x : Int) < es.length := by omega
    repeat' (first | ((first | refine WLA.m rfl rfl ?_ ?_ | refine WLA.st rfl ?_ ?_ | refine WLA.x rfl rfl ?_ (fun x => ?_) | refine WLA.x0 rfl ?_ (fun x => ?_)); first | exact trivial | exact rfl | assumption | omega | (refine ⟨?_, ?_⟩ <;> omega) | (simp only [Room, lenS]; omega) | decide | skip) | (refine Stp.go ?_) | (refine WPA.ifT ?_) | (refine WPA.ifF ?_) | ((first | refine WPA.dec ?_); first | refine .inl ⟨by first | assumption | omega | with_reducible rfl | (refine fun h => h ?_; first | assumption | with_reducible rfl) | (simp only [lenS] <;> omega) | decide, ?_⟩ | refine .inr ⟨by first | assumption | omega | with_reducible rfl | (refine fun h => h ?_; first | assumption | with_reducible rfl) | (simp only [lenS] <;> omega) | decide, ?_⟩) | ((first | refine WPA.ifBt ?_ ?_ | refine WPA.ifBnf ?_ ?_); assumption) | ((first | refine WPA.ifBnt ?_ ?_ | refine WPA.ifBf ?_ ?_); assumption) | ((first | refine WPA.ifs ?_ ?_ | refine WPA.ifB ?_ ?_) <;> intro hc))
    exact QQ.endn rfl (.inl x) rfl fun w h => ⟨⟨hCx, by omega⟩, h⟩
structure GW where
  i : Nat
  vs : List SV
  J : Foot
theorem group_tr {S : Nat} {m m' : BS} {o e : Int} {g : SV} {es : List RE} {a l b : List PR} {r : PR} [h : FindK L StoreR S m L'] (hs : SlI I g RE inferInstance es) (hR : Rows (PRunI I o) es l) (hI : RInv o m (a ++ (l ++ b))) (hl : l ≠ []) (hn : l.length ≤ 1000) (hG : grp o m l = (m', r, e)) :
    Tr Tryz.prog 45 #[.pointer (some ⟨S, 0, none⟩), .int .i64 o, .slice g.a g.n g.cap] (SL w0 I L) (fun x : RE × Foot => .tuple #[.agg #[.int .i64 x.1.1, .int .i64 x.1.2.1, .slice x.1.2.2.a x.1.2.2.n x.1.2.2.cap], .int .i64 e])
      (fun x w => (SubI x.2 I ∧ (e = 0 → PRunI x.2 o x.1 r)) ∧ SL w0 x.2 (StoreR S m' :: L') w) := by
  refine Tr.at h.out ?_
  refine Tr.intro Tryz.func45 rfl Tryz.ntmps45 rfl ?_
  have hel := hR.1
  have hmem : ∀ {i : Nat}, i < l.length → l.getD i ([], []) ∈ a ++ (l ++ b) := fun {i} hi => by
    rw [List.getD_eq_getElem?_getD, List.getElem?_eq_getElem hi]
    exact List.mem_append_right _ (List.mem_append_left _ (List.getElem_mem _))
  have hpos := List.length_pos_iff.2 hl
  by_cases h1 : l.length = 1
  · rw [grp_one h1] at hG
    simp only [Prod.mk.injEq] at hG
    obtain ⟨rfl, rfl, rfl⟩ := hG
    have hr0 : PRunI I o (at_ es 0) (l.getD 0 ([], [])) := hR.2 0 (by omega)
    obtain ⟨q, hq⟩ : ∃ q, at_ es 0 = q := ⟨_, rfl⟩
    rw [hq] at hr0
    have he1 : (es.length : Int) = 1 := by omega
    have hir : (0 : Int) ≤ 0 ∧ (0 : Int) < es.length := by omega
    repeat' (first | ((rw [hq])) | ((first | refine WLA.m rfl rfl ?_ ?_ | refine WLA.st rfl ?_ ?_ | refine WLA.x rfl rfl ?_ (fun x => ?_) | refine WLA.x0 rfl ?_ (fun x => ?_)); first | exact trivial | exact rfl | assumption | omega | (refine ⟨?_, ?_⟩ <;> omega) | (simp only [Room, lenS]; omega) | decide | skip) | (refine Stp.go ?_) | (refine WPA.ifT ?_) | (refine WPA.ifF ?_) | ((first | refine WPA.dec ?_); first | refine .inl ⟨by first | assumption | omega | with_reducible rfl | (refine fun h => h ?_; first | assumption | with_reducible rfl) | (simp only [lenS] <;> omega) | decide, ?_⟩ | refine .inr ⟨by first | assumption | omega | with_reducible rfl | (refine fun h => h ?_; first | assumption | with_reducible rfl) | (simp only [lenS] <;> omega) | decide, ?_⟩) | ((first | refine WPA.ifBt ?_ ?_ | refine WPA.ifBnf ?_ ?_); assumption) | ((first | refine WPA.ifBnt ?_ ?_ | refine WPA.ifBf ?_ ?_); assumption) | ((first | refine WPA.ifs ?_ ?_ | refine WPA.ifB ?_ ?_) <;> intro hc))
    exact QQ.endc rfl (q, I) rfl fun w h => ⟨⟨inferInstance, fun _ => hr0⟩, h.to⟩
  have he1 : ¬ (es.length : Int) = 1 := by omega
  have ho := (wrong_zero (hI.wr _ (hmem hpos))).1
  repeat' (first | ((first | refine WLA.m rfl rfl ?_ ?_ | refine WLA.st rfl ?_ ?_ | refine WLA.x rfl rfl ?_ (fun x => ?_) | refine WLA.x0 rfl ?_ (fun x => ?_)); first | exact trivial | exact rfl | assumption | omega | (refine ⟨?_, ?_⟩ <;> omega) | (simp only [Room, lenS]; omega) | decide | skip) | (refine Stp.go ?_) | (refine WPA.ifT ?_) | (refine WPA.ifF ?_) | ((first | refine WPA.dec ?_); first | refine .inl ⟨by first | assumption | omega | with_reducible rfl | (refine fun h => h ?_; first | assumption | with_reducible rfl) | (simp only [lenS] <;> omega) | decide, ?_⟩ | refine .inr ⟨by first | assumption | omega | with_reducible rfl | (refine fun h => h ?_; first | assumption | with_reducible rfl) | (simp only [lenS] <;> omega) | decide, ?_⟩) | ((first | refine WPA.ifBt ?_ ?_ | refine WPA.ifBnf ?_ ?_); assumption) | ((first | refine WPA.ifBnt ?_ ?_ | refine WPA.ifBf ?_ ?_); assumption) | ((first | refine WPA.ifs ?_ ?_ | refine WPA.ifB ?_ ?_) <;> intro hc))
  revert x; intro lv
  revert x; intro R6
  refine WPA.loopS (σ := GW) (fun y => [(0, .pointer (some ⟨S, 0, none⟩)), (1, .int .i64 o), (2, .slice g.a g.n g.cap), (6, .pointer (some ⟨R6, 0, none⟩)), (7, .int .i64 0), (8, .slice lv.a lv.n lv.cap), (24, .slice g.a g.n g.cap), (25, .int .i64 es.length), (26, .int .i64 y.i)])
    (fun y => (y.i ≤ l.length ∧ y.vs.length = l.length) ∧ SubI y.J I ∧ ∀ j : Nat, j < y.i → LstI y.J (at_ y.vs (j : Int)) (l.getD j ([], [])).2)
    (fun y => SL w0 y.J (OwnS 27 lv y.vs :: Bk R6 44 [.int .i64 0, .int .i64 0, .slice none 0 0] :: StoreR S m :: L')) (fun y => l.length - y.i) ⟨0, List.replicate (Int.toNat (es.length : Int)) SV.nil, I⟩ ⟨rfl, rfl, rfl, rfl, rfl, rfl, rfl, rfl, rfl, trivial⟩
    ⟨⟨Nat.zero_le _, by simp [hel]⟩, inferInstance, fun j hj => absurd hj (Nat.not_lt_zero j)⟩ (fun w h => h.to) ?_
  rintro ⟨i, vs, J⟩ ρ ⟨⟨hi, hvl⟩, hJ, hL⟩
  dsimp only at hi hvl hJ hL ⊢
  haveI := hJ
  have hsJ : SlI J g RE inferInstance es := hs.sub
  by_cases hlt : i < l.length
  · have hlt' : (i : Int) < es.length := by omega
    have hir : (0 : Int) ≤ i ∧ (i : Int) < es.length := by omega
    have hirv : (0 : Int) ≤ i ∧ (i : Int) < vs.length := by omega
    have hRi := hR.2 i hlt
    have hm := hmem hlt
    have htx := hI.text hm
    have hbk := hI.back hm
    have hln := hI.idl _ hm
    obtain ⟨q, hq⟩ : ∃ q, at_ es (i : Int) = q := ⟨_, rfl⟩
    rw [hq] at hRi
    obtain ⟨qo, qn, qs⟩ := q
    obtain ⟨⟨hqo, hqn⟩, hqs⟩ := hRi
    dsimp only at hqo hqn hqs
    subst hqo
    generalize hrr : l.getD i ([], []) = rr at hqn hqs hm htx hbk hln
    rw [← hqn] at hbk
    have hrd : ∀ {L L' : List HP} [FindK L StoreR S m L'], Tr Tryz.prog 18 #[.pointer (some ⟨S, 0, none⟩), .agg #[.int .i64 qo, .int .i64 qn, .slice qs.a qs.n qs.cap]] (SL w0 J L) (fun x : SV => .tuple #[.slice x.a x.n x.cap, .int .i64 0]) (fun x => SL w0 J (CtsH x rr.2 :: StoreR S m :: L')) := fun {L L'} _ =>
      runRead_tr (res := some rr.2) ⟨ho, by omega⟩ hqs.sub hI.ok.lens hI.txb hln htx hbk
    repeat' (first | ((rw [hq])) | ((first | refine WLA.m rfl rfl ?_ ?_ | refine WLA.st rfl ?_ ?_ | refine WLA.x rfl rfl ?_ (fun x => ?_) | refine WLA.x0 rfl ?_ (fun x => ?_)); first | exact trivial | exact rfl | assumption | omega | (refine ⟨?_, ?_⟩ <;> omega) | (simp only [Room, lenS]; omega) | decide | skip) | (refine Stp.go ?_) | (guard_target =~ WLA _ _ _ _ _ (⟨_, .call ⟨.value (.func 18), _, _⟩, _, _, _, _⟩ :: _) _ _; refine WLA.call rfl rfl (hrd) ?_; rintro v) | (refine WPA.ifT ?_) | (refine WPA.ifF ?_) | ((first | refine WPA.dec ?_); first | refine .inl ⟨by first | assumption | omega | with_reducible rfl | (refine fun h => h ?_; first | assumption | with_reducible rfl) | (simp only [lenS] <;> omega) | decide, ?_⟩ | refine .inr ⟨by first | assumption | omega | with_reducible rfl | (refine fun h => h ?_; first | assumption | with_reducible rfl) | (simp only [lenS] <;> omega) | decide, ?_⟩) | ((first | refine WPA.ifBt ?_ ?_ | refine WPA.ifBnf ?_ ?_); assumption) | ((first | refine WPA.ifBnt ?_ ?_ | refine WPA.ifBf ?_ ?_); assumption) | ((first | refine WPA.ifs ?_ ?_ | refine WPA.ifB ?_ ?_) <;> intro hc))
    rw [Int.toNat_natCast]
    refine QQ.ent (EntC.out (L' := CtsH v rr.2 :: OwnS 27 lv (vs.set i v) :: Bk R6 44 [.int .i64 0, .int .i64 0, .slice none 0 0] :: StoreR S m :: L')) ?_
    refine QQ.freeze fun R hF => ?_
    refine QQ.loopS ⟨i + 1, vs.set i v, R ++ J⟩ ⟨rfl, rfl, rfl, rfl, rfl, rfl, rfl, rfl, rfl, trivial⟩ ⟨⟨hlt, by rw [List.length_set]; exact hvl⟩, inferInstance, fun j hj => ?_⟩ (by dsimp only; omega) (fun w h => h.to)
    dsimp only at hj ⊢
    rw [at_nat _ j (by rw [List.length_set]; omega), List.getElem_set]
    by_cases hji : i = j
    · rw [if_pos hji, ← hji, hrr]; exact (LstI.ofCts hF).sub inferInstance
    · rw [if_neg hji, ← at_nat vs j (by omega)]; exact (hL j (by omega)).sub inferInstance
  · have hlt' : ¬ (i : Int) < es.length := by omega
    have hie : i = l.length := by omega
    subst hie
    have hLs : LsI J vs (l.map Prod.snd) := ⟨by rw [List.length_map]; exact hvl, fun j hj => by
      rw [List.length_map] at hj
      have := hL j hj
      rw [List.getD_eq_getElem?_getD, List.getElem?_eq_getElem hj] at this
      rw [List.getD_eq_getElem?_getD, List.getElem?_map, List.getElem?_eq_getElem hj]
      exact this⟩
    have hgs : ∀ ms ∈ l.map Prod.snd, Ris id ms ∧ ∀ m ∈ ms, m.1.length ≤ 1000000 := fun ms hms => by
      obtain ⟨r, hr, rfl⟩ := List.mem_map.1 hms
      have hr' : r ∈ a ++ (l ++ b) := List.mem_append_right _ (List.mem_append_left _ hr)
      exact ⟨hI.ris r hr', fun x hx => by have := wrong_len8 (hI.wr r hr') x hx; omega⟩
    have hfl : (l.map Prod.snd).flatten = ctsF l := by rw [ctsF, List.flatMap_def]
    have hc3 : (ctsF l).length ≤ 300 := by
      have := hI.len
      rw [ctsF, List.flatMap_append, List.flatMap_append, List.length_append, List.length_append] at this
      show (l.flatMap Prod.snd).length ≤ 300
      omega
    have hLt : ∀ {L : List HP} [RdS J L lv SV inferInstance vs], Tr Tryz.prog 36 #[.slice lv.a lv.n lv.cap] (SL w0 J L) (fun x : SV => .slice x.a x.n x.cap) (fun x => SL w0 J (CtsH x (mrg (ctsF l)) :: L)) := fun {L} _ => by
      have := Lists_trC (s := lv) (L := L) (w0 := w0) hLs hgs (by rw [hfl, List.length_map]; omega)
      rw [hfl] at this
      exact this
    have hml : (mrg (ctsF l)).length ≤ 300 := Nat.le_trans (mrg_len _) hc3
    have hm8 : ∀ m ∈ mrg (ctsF l), m.1.length ≤ 1000 := fun m hm => by
      obtain ⟨y, hy, e⟩ := mrg_key hm
      obtain ⟨r, hr, hyr⟩ := List.mem_flatMap.1 hy
      have := wrong_len8 (hI.wr r (List.mem_append_right _ (List.mem_append_left _ hr))) y hyr
      rw [e]; omega
    by_cases he : errW o (mrg (ctsF l)) m = 0
    case neg =>
      rw [grp_err h1 he] at hG
      simp only [Prod.mk.injEq] at hG
      obtain ⟨rfl, rfl, hee⟩ := hG
      rw [hee] at he
      generalize mrg (ctsF l) = M at hLt hml hm8 hee
      repeat' (first | ((first | refine WLA.m rfl rfl ?_ ?_ | refine WLA.st rfl ?_ ?_ | refine WLA.x rfl rfl ?_ (fun x => ?_) | refine WLA.x0 rfl ?_ (fun x => ?_)); first | exact trivial | exact rfl | assumption | omega | (refine ⟨?_, ?_⟩ <;> omega) | (simp only [Room, lenS]; omega) | decide | skip) | (refine Stp.go ?_) | (guard_target =~ WLA _ _ _ _ _ (⟨_, .call ⟨.value (.func 36), _, _⟩, _, _, _, _⟩ :: _) _ _; refine WLA.call rfl rfl (hLt) ?_; rintro c) | (refine WPA.ifT ?_) | (refine WPA.ifF ?_) | ((first | refine WPA.dec ?_); first | refine .inl ⟨by first | assumption | omega | with_reducible rfl | (refine fun h => h ?_; first | assumption | with_reducible rfl) | (simp only [lenS] <;> omega) | decide, ?_⟩ | refine .inr ⟨by first | assumption | omega | with_reducible rfl | (refine fun h => h ?_; first | assumption | with_reducible rfl) | (simp only [lenS] <;> omega) | decide, ?_⟩) | ((first | refine WPA.ifBt ?_ ?_ | refine WPA.ifBnf ?_ ?_); assumption) | ((first | refine WPA.ifBnt ?_ ?_ | refine WPA.ifBf ?_ ?_); assumption) | ((first | refine WPA.ifs ?_ ?_ | refine WPA.ifB ?_ ?_) <;> intro hc))
      refine WLA.ent (EntC.out (L' := CtsH c M :: Bk R6 44 [.int .i64 0, .int .i64 0, .slice none 0 0] :: StoreR S m :: L')) ?_
      refine WLA.freeze fun R hF => ?_
      have hlst : LstI (R ++ J) c M := (LstI.ofCts hF).sub inferInstance
      have hsub : SubI (R ++ J) I := inferInstance
      clear hF hsJ hL hLs hLt
      generalize R ++ J = K at hlst hsub
      repeat' (first | ((first | refine WLA.m rfl rfl ?_ ?_ | refine WLA.st rfl ?_ ?_ | refine WLA.x rfl rfl ?_ (fun x => ?_) | refine WLA.x0 rfl ?_ (fun x => ?_)); first | exact trivial | exact rfl | assumption | omega | (refine ⟨?_, ?_⟩ <;> omega) | (simp only [Room, lenS]; omega) | decide | skip) | (refine Stp.go ?_) | (guard_target =~ WLA _ _ _ _ _ (⟨_, .call ⟨.value (.func 22), _, _⟩, _, _, _, _⟩ :: _) _ _; refine WLA.call rfl rfl (runWrite_trI (e := e) (m' := m) (ids := []) (a := 0) (b := 0) hI.ok hlst hm8 (by omega) hee.symm (.inl ⟨he, rfl, rfl, rfl, rfl⟩)) ?_; rintro nr) | (refine WPA.ifT ?_) | (refine WPA.ifF ?_) | ((first | refine WPA.dec ?_); first | refine .inl ⟨by first | assumption | omega | with_reducible rfl | (refine fun h => h ?_; first | assumption | with_reducible rfl) | (simp only [lenS] <;> omega) | decide, ?_⟩ | refine .inr ⟨by first | assumption | omega | with_reducible rfl | (refine fun h => h ?_; first | assumption | with_reducible rfl) | (simp only [lenS] <;> omega) | decide, ?_⟩) | ((first | refine WPA.ifBt ?_ ?_ | refine WPA.ifBnf ?_ ?_); assumption) | ((first | refine WPA.ifBnt ?_ ?_ | refine WPA.ifBf ?_ ?_); assumption) | ((first | refine WPA.ifs ?_ ?_ | refine WPA.ifB ?_ ?_) <;> intro hc))
      exact QQ.endc rfl ((0, 0, nr), K) rfl fun w h => ⟨⟨hsub, fun h0 => absurd h0 he⟩, h.to⟩
    rw [grp_go h1 he] at hG
    simp only [Prod.mk.injEq] at hG
    obtain ⟨hm', hr, rfl⟩ := hG
    have hz := errW_zero he
    have F := fill_law hI.ok hz.2
    have hfs := fun {i : Nat} (hi : i < l.length) => free_step hI F hi
    generalize mrg (ctsF l) = M at hLt hml hm8 he hm' hr F hz hfs
    have hx : WrX o M m 0 o M.length (fillN (byS M) m [] 0).1 (fillN (byS M) m [] 0).2 := .inr ⟨rfl, rfl, rfl, rfl, rfl⟩
    generalize (fillN (byS M) m [] 0).1 = m1 at hm' F hfs hx
    generalize (fillN (byS M) m [] 0).2 = new at hr F hfs hx
    subst hr
    repeat' (first | ((first | refine WLA.m rfl rfl ?_ ?_ | refine WLA.st rfl ?_ ?_ | refine WLA.x rfl rfl ?_ (fun x => ?_) | refine WLA.x0 rfl ?_ (fun x => ?_)); first | exact trivial | exact rfl | assumption | omega | (refine ⟨?_, ?_⟩ <;> omega) | (simp only [Room, lenS]; omega) | decide | skip) | (refine Stp.go ?_) | (guard_target =~ WLA _ _ _ _ _ (⟨_, .call ⟨.value (.func 36), _, _⟩, _, _, _, _⟩ :: _) _ _; refine WLA.call rfl rfl (hLt) ?_; rintro c) | (refine WPA.ifT ?_) | (refine WPA.ifF ?_) | ((first | refine WPA.dec ?_); first | refine .inl ⟨by first | assumption | omega | with_reducible rfl | (refine fun h => h ?_; first | assumption | with_reducible rfl) | (simp only [lenS] <;> omega) | decide, ?_⟩ | refine .inr ⟨by first | assumption | omega | with_reducible rfl | (refine fun h => h ?_; first | assumption | with_reducible rfl) | (simp only [lenS] <;> omega) | decide, ?_⟩) | ((first | refine WPA.ifBt ?_ ?_ | refine WPA.ifBnf ?_ ?_); assumption) | ((first | refine WPA.ifBnt ?_ ?_ | refine WPA.ifBf ?_ ?_); assumption) | ((first | refine WPA.ifs ?_ ?_ | refine WPA.ifB ?_ ?_) <;> intro hc))
    refine WLA.ent (EntC.out (L' := CtsH c M :: Bk R6 44 [.int .i64 0, .int .i64 0, .slice none 0 0] :: StoreR S m :: L')) ?_
    refine WLA.freeze fun R hF => ?_
    have hlst : LstI (R ++ J) c M := (LstI.ofCts hF).sub inferInstance
    have hsub : SubI (R ++ J) I := inferInstance
    have hsK : SlI (R ++ J) g RE inferInstance es := inferInstance
    clear hF hsJ hL hLs hLt
    generalize R ++ J = K at hlst hsub hsK
    repeat' (first | ((first | refine WLA.m rfl rfl ?_ ?_ | refine WLA.st rfl ?_ ?_ | refine WLA.x rfl rfl ?_ (fun x => ?_) | refine WLA.x0 rfl ?_ (fun x => ?_)); first | exact trivial | exact rfl | assumption | omega | (refine ⟨?_, ?_⟩ <;> omega) | (simp only [Room, lenS]; omega) | decide | skip) | (refine Stp.go ?_) | (guard_target =~ WLA _ _ _ _ _ (⟨_, .call ⟨.value (.func 22), _, _⟩, _, _, _, _⟩ :: _) _ _; refine WLA.call rfl rfl (runWrite_trI hI.ok hlst hm8 (by omega) he.symm hx) ?_; rintro nr) | (refine WPA.ifT ?_) | (refine WPA.ifF ?_) | ((first | refine WPA.dec ?_); first | refine .inl ⟨by first | assumption | omega | with_reducible rfl | (refine fun h => h ?_; first | assumption | with_reducible rfl) | (simp only [lenS] <;> omega) | decide, ?_⟩ | refine .inr ⟨by first | assumption | omega | with_reducible rfl | (refine fun h => h ?_; first | assumption | with_reducible rfl) | (simp only [lenS] <;> omega) | decide, ?_⟩) | ((first | refine WPA.ifBt ?_ ?_ | refine WPA.ifBnf ?_ ?_); assumption) | ((first | refine WPA.ifBnt ?_ ?_ | refine WPA.ifBf ?_ ?_); assumption) | ((first | refine WPA.ifs ?_ ?_ | refine WPA.ifB ?_ ?_) <;> intro hc))
    revert x; intro X
    refine WPA.ent (EntC.out (L' := OwnS 3 nr new :: Bk X 44 [.int .i64 o, .int .i64 M.length, .slice nr.a nr.n nr.cap] :: Bk R6 44 [.int .i64 0, .int .i64 0, .slice none 0 0] :: StoreR S m1 :: L')) ?_
    refine WPA.freeze fun R2 hF2 => ?_
    have hnr : SlI (R2 ++ K) nr Int inferInstance new := by have := SlI.ofOwn hF2; infer_instance
    have hsub2 : SubI (R2 ++ K) I := inferInstance
    have hs2 : SlI (R2 ++ K) g RE inferInstance es := inferInstance
    clear hF2 hsK hlst
    generalize R2 ++ K = N at hnr hsub2 hs2
    refine WPA.loopS (σ := Nat) (fun i => [(0, .pointer (some ⟨S, 0, none⟩)), (6, .pointer (some ⟨R6, 0, none⟩)), (7, .int .i64 0), (11, .pointer (some ⟨X, 0, none⟩)), (53, .slice g.a g.n g.cap), (54, .int .i64 es.length), (55, .int .i64 i)])
      (fun i => i ≤ l.length) (fun i => SL w0 N (Bk X 44 [.int .i64 o, .int .i64 M.length, .slice nr.a nr.n nr.cap] :: Bk R6 44 [.int .i64 0, .int .i64 0, .slice none 0 0] :: StoreR S ((idsF (l.take i)).foldl BS.free m1) :: L')) (fun i => l.length - i) 0 ⟨rfl, rfl, rfl, rfl, rfl, rfl, rfl, trivial⟩ (Nat.zero_le _) (fun w h => by rw [List.take_zero]; show SL w0 N (Bk X 44 [.int .i64 o, .int .i64 M.length, .slice nr.a nr.n nr.cap] :: Bk R6 44 [.int .i64 0, .int .i64 0, .slice none 0 0] :: StoreR S m1 :: L') w; exact h.to) ?_
    intro i ρ hi
    by_cases hlt : i < l.length
    · have hlt' : (i : Int) < es.length := by omega
      have hir : (0 : Int) ≤ i ∧ (i : Int) < es.length := by omega
      have hRi := hR.2 i hlt
      have hln := hI.idl _ (hmem hlt)
      obtain ⟨f1, f2, f3⟩ := hfs hlt
      obtain ⟨q, hq⟩ : ∃ q, at_ es (i : Int) = q := ⟨_, rfl⟩
      rw [hq] at hRi
      obtain ⟨qo, qn, qs⟩ := q
      have hqs : SlI N qs Int inferInstance (l.getD i ([], [])).1 := hRi.2.sub
      generalize (l.getD i ([], [])).1 = ids at f2 f3 hqs hln
      generalize (idsF (l.take i)).foldl BS.free m1 = mi at f1 f2 f3
      rw [← frees_srt ids] at f3
      repeat' (first | ((rw [hq])) | ((first | refine WLA.m rfl rfl ?_ ?_ | refine WLA.st rfl ?_ ?_ | refine WLA.x rfl rfl ?_ (fun x => ?_) | refine WLA.x0 rfl ?_ (fun x => ?_)); first | exact trivial | exact rfl | assumption | omega | (refine ⟨?_, ?_⟩ <;> omega) | (simp only [Room, lenS]; omega) | decide | skip) | (refine Stp.go ?_) | (guard_target =~ WLA _ _ _ _ _ (⟨_, .call ⟨.value (.func 72), _, _⟩, _, _, _, _⟩ :: _) _ _; refine WLA.call rfl rfl (runFree_ok f1 hqs hln f2) ?_; rintro ⟨⟩) | (refine WPA.ifT ?_) | (refine WPA.ifF ?_) | ((first | refine WPA.dec ?_); first | refine .inl ⟨by first | assumption | omega | with_reducible rfl | (refine fun h => h ?_; first | assumption | with_reducible rfl) | (simp only [lenS] <;> omega) | decide, ?_⟩ | refine .inr ⟨by first | assumption | omega | with_reducible rfl | (refine fun h => h ?_; first | assumption | with_reducible rfl) | (simp only [lenS] <;> omega) | decide, ?_⟩) | ((first | refine WPA.ifBt ?_ ?_ | refine WPA.ifBnf ?_ ?_); assumption) | ((first | refine WPA.ifBnt ?_ ?_ | refine WPA.ifBf ?_ ?_); assumption) | ((first | refine WPA.ifs ?_ ?_ | refine WPA.ifB ?_ ?_) <;> intro hc))
      exact QQ.loopS (i + 1) ⟨rfl, rfl, rfl, rfl, rfl, rfl, rfl, trivial⟩ hlt (by omega) (fun w h => by rw [f3]; exact h.to)
    · have hlt' : ¬ (i : Int) < es.length := by omega
      rw [List.take_of_length_le (by omega), hm']
      repeat' (first | ((first | refine WLA.m rfl rfl ?_ ?_ | refine WLA.st rfl ?_ ?_ | refine WLA.x rfl rfl ?_ (fun x => ?_) | refine WLA.x0 rfl ?_ (fun x => ?_)); first | exact trivial | exact rfl | assumption | omega | (refine ⟨?_, ?_⟩ <;> omega) | (simp only [Room, lenS]; omega) | decide | skip) | (refine Stp.go ?_) | (refine WPA.ifT ?_) | (refine WPA.ifF ?_) | ((first | refine WPA.dec ?_); first | refine .inl ⟨by first | assumption | omega | with_reducible rfl | (refine fun h => h ?_; first | assumption | with_reducible rfl) | (simp only [lenS] <;> omega) | decide, ?_⟩ | refine .inr ⟨by first | assumption | omega | with_reducible rfl | (refine fun h => h ?_; first | assumption | with_reducible rfl) | (simp only [lenS] <;> omega) | decide, ?_⟩) | ((first | refine WPA.ifBt ?_ ?_ | refine WPA.ifBnf ?_ ?_); assumption) | ((first | refine WPA.ifBnt ?_ ?_ | refine WPA.ifBf ?_ ?_); assumption) | ((first | refine WPA.ifs ?_ ?_ | refine WPA.ifB ?_ ?_) <;> intro hc))
      exact QQ.endc rfl ((o, (M.length : Int), nr), N) rfl fun w h => ⟨⟨hsub2, fun _ => ⟨⟨rfl, rfl⟩, hnr⟩⟩, h.to⟩
end
end Go.Proofs.YtamnobjdgjbmbaaGreat
namespace Go.Proofs.YtamnobjdgjbmbaaGreat
open Go Go.Fw Go.RowKit
set_option linter.unusedVariables false
set_option linter.unusedSimpArgs false
set_option maxRecDepth 100000
set_option maxHeartbeats 16000000
set_option synthInstance.maxHeartbeats 200000
set_option synthInstance.maxSize 100000
attribute [local irreducible] WPA WLA WDA WDQ WDE QQ seqQ blockQ loopQ fnQ OpP OpT Tr TrP SL SLd OwnS LitS Bk BkE Ob
attribute [local irreducible] vS keyS parL RowH CtsH mrg MarksH grp
structure RW where
  J : Foot
  now : SV
  es : List RE
  m : BS
  l : List PR
  p : Nat
  ds : List Nat
structure IW where
  ix : Nat
  J : Foot
  m : BS
  acc : List PR
  nx : SV
  nes : List RE
def RunRes (J : Foot) (o : Int) (x : RE) (l : List PR) : Prop := (l = [] ∧ x = (o, 0, SV.nil)) ∨ ∃ r, l = [r] ∧ PRunI J o x r
section
variable {L L' : List HP} {w0 : World} {I : Foot} {S : Nat}
theorem rinv_chkA {o : Int} {m : BS} {es : List RE} {l : List PR} (hR : Rows (PRunI I o) es l) (hI : RInv o m l) : ChkA o es (l.map Prod.fst) :=
  ⟨fun i hi => (hR.2 i (by rw [← hR.1]; exact hi)).1.1, by rw [← List.flatMap_def]; exact hI.nodup⟩
theorem check_ok {m : BS} {o f : Int} {s : SV} {es : List RE} {l : List PR} [h : FindK L StoreR S m L'] (ho : (1 ≤ o ∧ o ≤ 8) ∧ 2 ≤ f) (hs : SlI I s RE inferInstance es) (hR : Rows (PRunI I o) es l) (hI : RInv o m l) (hn : l.length ≤ 1000) :
    Tr Tryz.prog 42 #[.pointer (some ⟨S, 0, none⟩), .int .i64 o, .slice s.a s.n s.cap, .int .i64 f] (SL w0 I L) (fun _ : Unit => .int .i64 0) (fun _ => SL w0 I (StoreR S m :: L')) := by
  have hl := hR.1
  have hg : ∀ i : Nat, i < es.length → (l.map Prod.fst).getD i [] = (l.getD i ([], [])).1 := fun i hi => by
    rw [List.getD_eq_getElem?_getD, List.getElem?_map, List.getElem?_eq_getElem (by omega), List.getD_eq_getElem?_getD, List.getElem?_eq_getElem (by omega)]; rfl
  have hmem : ∀ i : Nat, i < es.length → l.getD i ([], []) ∈ l := fun i hi => by
    rw [List.getD_eq_getElem?_getD, List.getElem?_eq_getElem (by omega)]; exact List.getElem_mem _
  refine mck_tr (ids := l.map Prod.fst) ho hs (by rw [List.length_map]; exact hl) (fun i hi => by rw [hg i hi]; exact (hR.2 i (by omega)).2) (by omega) (fun x hx => ?_) (.inr ⟨rinv_chkA hR hI, ⟨hI.ok.lens, hI.txb⟩, fun i => byS (l.getD i ([], [])).2, fun i hi => ⟨?_, ?_⟩, ?_⟩)
  · obtain ⟨r, hr, rfl⟩ := List.mem_map.1 hx; exact hI.idl r hr
  · have := (hR.2 i (by omega)).1.2; omega
  · rw [hg i hi]; exact hI.text (hmem i hi)
  · symm
    have : ∀ n, n ≤ es.length → fstN (fun i => rdE (readS o (at_ es (i : Int)).2.1 (byS (l.getD i ([], [])).2))) n = 0 := by
      intro n
      induction n with
      | zero => intro _; rfl
      | succ n ih =>
        intro hn
        rw [fstN_succ (ih (by omega)), (hR.2 n (by omega)).1.2, hI.back (hmem n (by omega))]; rfl
    exact this _ (Nat.le_refl _)
theorem Runs_tr {m m' : BS} {o e : Int} {f p : Nat} {s : SV} {es : List RE} {l l' : List PR} [h : FindK L StoreR S m L'] (ho : 1 ≤ o ∧ o ≤ 8) (hf : 2 ≤ f ∧ (f : Int) ≤ 9223372036854775807) (hs : SlI I s RE inferInstance es) (hR : Rows (PRunI I o) es l) (hI : RInv o m l) (hn : l.length ≤ 1000) (hG : runsF o f m l 0 = (m', l', p, e)) :
    Tr Tryz.prog 14 #[.pointer (some ⟨S, 0, none⟩), .int .i64 o, .slice s.a s.n s.cap, .int .i64 f] (SL w0 I L) (fun x : RE × Foot => .tuple #[.agg #[.int .i64 x.1.1, .int .i64 x.1.2.1, .slice x.1.2.2.a x.1.2.2.n x.1.2.2.cap], .int .i64 p, .int .i64 e])
      (fun x w => (SubI x.2 I ∧ (e = 0 → RunRes x.2 o x.1 l') ∧ (e ≠ 0 → x.1 = (0, 0, SV.nil))) ∧ SL w0 x.2 (StoreR S m' :: L') w) := by
  refine Tr.at h.out ?_
  refine Tr.intro Tryz.func14 rfl Tryz.ntmps14 rfl ?_
  have hf2 : (1 ≤ o ∧ o ≤ 8) ∧ (2 : Int) ≤ f := ⟨ho, by omega⟩
  have hel := hR.1
  repeat' (first | ((first | refine WLA.m rfl rfl ?_ ?_ | refine WLA.st rfl ?_ ?_ | refine WLA.x rfl rfl ?_ (fun x => ?_) | refine WLA.x0 rfl ?_ (fun x => ?_)); first | exact trivial | exact rfl | assumption | omega | (refine ⟨?_, ?_⟩ <;> omega) | (simp only [Room, lenS]; omega) | decide | skip) | (refine Stp.go ?_) | (guard_target =~ WLA _ _ _ _ _ (⟨_, .call ⟨.value (.func 42), _, _⟩, _, _, _, _⟩ :: _) _ _; refine WLA.call rfl rfl (check_ok hf2 hs hR hI hn) ?_; rintro ⟨⟩) | (guard_target =~ WLA _ _ _ _ _ (⟨_, .call ⟨.value (.func 43), _, _⟩, _, _, _, _⟩ :: _) _ _; refine WLA.call rfl rfl (rClone_tr (by omega)) ?_; rintro c) | (refine WPA.ifT ?_) | (refine WPA.ifF ?_) | ((first | refine WPA.dec ?_); first | refine .inl ⟨by first | assumption | omega | with_reducible rfl | (refine fun h => h ?_; first | assumption | with_reducible rfl) | (simp only [lenS] <;> omega) | decide, ?_⟩ | refine .inr ⟨by first | assumption | omega | with_reducible rfl | (refine fun h => h ?_; first | assumption | with_reducible rfl) | (simp only [lenS] <;> omega) | decide, ?_⟩) | ((first | refine WPA.ifBt ?_ ?_ | refine WPA.ifBnf ?_ ?_); assumption) | ((first | refine WPA.ifBnt ?_ ?_ | refine WPA.ifBf ?_ ?_); assumption) | ((first | refine WPA.ifs ?_ ?_ | refine WPA.ifB ?_ ?_) <;> intro hc))
  revert x; intro X10
  revert x; intro X9
  revert x; intro X8
  revert x; intro X5
  revert x; intro X4
  refine WPA.ent (EntC.out (L' := OwnS 44 c es :: StoreR S m :: Bk X4 29 [.pointer (some ⟨S, 0, none⟩)] :: Bk X5 3 [.int .i64 o] :: Bk X8 44 [.int .i64 0, .int .i64 0, .slice none 0 0] :: Bk X9 3 [.int .i64 0] :: Bk X10 30 [.int .i64 0] :: L')) ?_
  refine WPA.freeze fun R0 h0 => ?_
  have hsc : SlI (R0 ++ I) c RE inferInstance es := by have := SlI.ofOwn h0; infer_instance
  have hJ0 : SubI (R0 ++ I) I := inferInstance
  have hR0 : Rows (PRunI (R0 ++ I) o) es l := hR.mono fun _ _ k => k.sub inferInstance
  clear h0 hs hR
  generalize R0 ++ I = J0 at hsc hJ0 hR0
  refine WPA.loopD (σ := RW) (fun y => y.ds) (fun y => [(3, .int .i64 f), (4, .pointer (some ⟨X4, 0, none⟩)), (5, .pointer (some ⟨X5, 0, none⟩)), (8, .pointer (some ⟨X8, 0, none⟩)), (9, .pointer (some ⟨X9, 0, none⟩)), (10, .pointer (some ⟨X10, 0, none⟩)), (12, .slice y.now.a y.now.n y.now.cap), (13, .int .i64 y.p)])
    (fun y => (SubI y.J I ∧ SlI y.J y.now RE inferInstance y.es ∧ Rows (PRunI y.J o) y.es y.l ∧ RInv o y.m y.l) ∧ (y.l.length ≤ 1000 ∧ (y.l = [] → y.p = 0) ∧ y.p + y.l.length ≤ 1000) ∧ runsF o f y.m y.l y.p = (m', l', p, e))
    (fun y => SL w0 y.J (MarksH () y.ds :: StoreR S y.m :: Bk X4 29 [.pointer (some ⟨S, 0, none⟩)] :: Bk X5 3 [.int .i64 o] :: Bk X8 44 [.int .i64 0, .int .i64 0, .slice none 0 0] :: Bk X9 3 [.int .i64 0] :: Bk X10 30 [.int .i64 0] :: L'))
    (fun y => y.l.length) ⟨J0, c, es, m, l, 0, []⟩ ⟨rfl, rfl, rfl, rfl, rfl, rfl, rfl, rfl, trivial⟩ ⟨⟨hJ0, hsc, hR0, hI⟩, ⟨hn, fun _ => rfl, by dsimp only; omega⟩, hG⟩ (fun w h => MarksH.nil.sl h) ?_ rfl
  clear hsc hJ0 hR0 hI hn hG hel
  rintro ⟨J, now, es, m, l, p1, ds⟩ ρ ⟨⟨hJ, hsc, hR, hI⟩, ⟨hn, hp0, hpl⟩, hG⟩
  dsimp only at hJ hsc hR hI hn hp0 hG hpl ⊢
  have hel := hR.1
  by_cases hl1 : 1 < l.length
  · have hl1' : (1 : Int) < es.length := by omega
    have hn1 : (1 : Int) ≤ f := by omega
    repeat' (first | ((first | refine WLA.m rfl rfl ?_ ?_ | refine WLA.st rfl ?_ ?_ | refine WLA.x rfl rfl ?_ (fun x => ?_) | refine WLA.x0 rfl ?_ (fun x => ?_)); first | exact trivial | exact rfl | assumption | omega | (refine ⟨?_, ?_⟩ <;> omega) | (simp only [Room, lenS]; omega) | decide | skip) | (refine Stp.go ?_) | (guard_target =~ WLA _ _ _ _ _ (⟨_, .call ⟨.value (.func 44), _, _⟩, _, _, _, _⟩ :: _) _ _; refine WLA.call rfl rfl (Chunk_tr hn1) ?_; rintro ⟨ca, cb⟩; dsimp only) | (refine WPA.ifT ?_) | (refine WPA.ifF ?_) | ((first | refine WPA.dec ?_); first | refine .inl ⟨by first | assumption | omega | with_reducible rfl | (refine fun h => h ?_; first | assumption | with_reducible rfl) | (simp only [lenS] <;> omega) | decide, ?_⟩ | refine .inr ⟨by first | assumption | omega | with_reducible rfl | (refine fun h => h ?_; first | assumption | with_reducible rfl) | (simp only [lenS] <;> omega) | decide, ?_⟩) | ((first | refine WPA.ifBt ?_ ?_ | refine WPA.ifBnf ?_ ?_); assumption) | ((first | refine WPA.ifBnt ?_ ?_ | refine WPA.ifBf ?_ ?_); assumption) | ((first | refine WPA.ifs ?_ ?_ | refine WPA.ifB ?_ ?_) <;> intro hc))
    revert x; intro X14
    refine WPA.rangeJ fun D rc hrc => ?_
    let Lk : IW → List HP := fun x => Ob (D + 1) (rc .ready none) :: Ob D (.deferred (some [])) :: Bk X14 38 [.slice x.nx.a x.nx.n x.nx.cap] :: OwnS 44 x.nx x.nes :: MarksH () ds :: StoreR S x.m :: Bk X4 29 [.pointer (some ⟨S, 0, none⟩)] :: Bk X5 3 [.int .i64 o] :: Bk X8 44 [.int .i64 0, .int .i64 0, .slice none 0 0] :: Bk X9 3 [.int .i64 0] :: Bk X10 30 [.int .i64 0] :: L'
    let Lf : IW → List HP := fun x => Ob D (.deferred (some [])) :: Bk X14 38 [.slice x.nx.a x.nx.n x.nx.cap] :: OwnS 44 x.nx x.nes :: MarksH () ds :: StoreR S x.m :: Bk X4 29 [.pointer (some ⟨S, 0, none⟩)] :: Bk X5 3 [.int .i64 o] :: Bk X8 44 [.int .i64 0, .int .i64 0, .slice none 0 0] :: Bk X9 3 [.int .i64 0] :: Bk X10 30 [.int .i64 0] :: L'
    let Le : Foot × BS × Int → List HP := fun z => Ob D (.deferred (some [])) :: MarksH () ds :: StoreR S z.2.1 :: Bk X8 44 [.int .i64 0, .int .i64 0, .slice none 0 0] :: Bk X9 3 [.int .i64 0] :: Bk X10 30 [.int .i64 z.2.2] :: L'
    let C : IW → Prop := fun x => ((x.ix = 0 ∨ f ≤ x.ix) ∧ (x.ix = 0 ∨ x.acc ≠ []) ∧ x.acc.length ≤ x.ix ∧ x.ix ≤ l.length + f ∧ x.acc.length ≤ l.length) ∧ (SubI x.J J ∧ Rows (PRunI x.J o) x.nes x.acc ∧ RInv o x.m (x.acc ++ l.drop x.ix)) ∧ pass o f x.m x.acc (l.drop x.ix) = pass o f m [] l
    refine ⟨{ x : IW // C x ∧ es.length ≤ x.ix } ⊕ { z : Foot × BS × Int // z.2.2 ≠ 0 ∧ SubI z.1 J ∧ pass o f m [] l = (z.2.1, [], z.2.2) }, fun _ => .tuple #[], fun y => match y with | .inl _ => .ready | .inr _ => .done, fun y => match y with | .inl _ => none | .inr _ => some .ret,
      fun y => match y with | .inl x => x.1.J | .inr z => z.1.1, fun y => match y with | .inl x => Lf x.1 | .inr z => Le z.1, ?_, ?_⟩
    · refine (Chunk1_tr (w0 := w0) (ca := ca) (cb := cb) (s := now) (es := es) (f := f) (ω := { z : Foot × BS × Int // z.2.2 ≠ 0 ∧ SubI z.1 J ∧ pass o f m [] l = (z.2.1, [], z.2.2) }) Lk (fun x => x.J) (fun x => x.ix) C (fun z w => SL w0 z.1.1 (Ob (D + 1) (rc .done (some .ret)) :: Le z.1) w)
        ⟨by omega, hf.2⟩ (fun x hx => by have := hx.2.1.1; exact hsc.sub) (by omega) (fun x hx => hx.1.1) ?_ ⟨0, J, m, [], SV.nil, []⟩ ⟨⟨.inl rfl, .inl rfl, Nat.le_refl _, Nat.zero_le _, Nat.zero_le _⟩, ⟨inferInstance, Rows.nil, by rw [List.drop_zero]; exact hI⟩, by rw [List.drop_zero]⟩ rfl).conv (fun w h => ?_) ?_
      · rintro ⟨ix, K, m1, acc, nx, nes⟩ ⟨⟨c1, c2, c3, c4, c5⟩, ⟨hK, hA, hI1⟩, hP⟩ hix g hg
        dsimp only at c1 c2 c3 c4 c5 hK hA hI1 hP hix hg ⊢
        have hdl : l.drop ix ≠ [] := fun h => by have := congrArg List.length h; rw [List.length_drop] at this; simp at this; omega
        have htl : (l.drop ix).take f ≠ [] := fun h => by have := congrArg List.length h; rw [List.length_take, List.length_drop] at this; simp at this; omega
        have hdd : (l.drop ix).drop f = l.drop (ix + f) := by rw [List.drop_drop]
        have hI2 : RInv o m1 (acc ++ ((l.drop ix).take f ++ l.drop (ix + f))) := by rw [← hdd, List.take_append_drop]; exact hI1
        have hRg : Rows (PRunI K o) ((es.drop ix).take f) ((l.drop ix).take f) := ((hR.mono fun _ _ k => k.sub hK).drop ix).take f
        have hgl : ((l.drop ix).take f).length ≤ 1000 := by rw [List.length_take, List.length_drop]; omega
        have hap := hA.1
        obtain ⟨m2, r, e2, hgr⟩ : ∃ m2 r e2, grp o m1 ((l.drop ix).take f) = (m2, r, e2) := ⟨_, _, _, rfl⟩
        have hgt := fun {L L' : List HP} [FindK L StoreR S m1 L'] => group_tr (L := L) (L' := L') (w0 := w0) (S := S) hg hRg hI2 htl hgl hgr
        refine (YTr.ofS (val := fun y : IW ⊕ { z : Foot × BS × Int // z.2.2 ≠ 0 ∧ SubI z.1 J ∧ pass o f m [] l = (z.2.1, [], z.2.2) } => y.isLeft) hrc (agreeP rfl) rfl ?_)
        dsimp only [Lk]
        repeat' (first | ((first | refine WLA.m rfl rfl ?_ ?_ | refine WLA.st rfl ?_ ?_ | refine WLA.x rfl rfl ?_ (fun x => ?_) | refine WLA.x0 rfl ?_ (fun x => ?_)); first | exact trivial | exact rfl | assumption | omega | (refine ⟨?_, ?_⟩ <;> omega) | (simp only [Room, lenS]; omega) | decide | skip) | (refine Stp.go ?_) | (refine WPA.ifT ?_) | (refine WPA.ifF ?_) | ((first | refine WPA.dec ?_); first | refine .inl ⟨by first | assumption | omega | with_reducible rfl | (refine fun h => h ?_; first | assumption | with_reducible rfl) | (simp only [lenS] <;> omega) | decide, ?_⟩ | refine .inr ⟨by first | assumption | omega | with_reducible rfl | (refine fun h => h ?_; first | assumption | with_reducible rfl) | (simp only [lenS] <;> omega) | decide, ?_⟩) | ((first | refine WPA.ifBt ?_ ?_ | refine WPA.ifBnf ?_ ?_); assumption) | ((first | refine WPA.ifBnt ?_ ?_ | refine WPA.ifBf ?_ ?_); assumption) | ((first | refine WPA.ifs ?_ ?_ | refine WPA.ifB ?_ ?_) <;> intro hc))
        refine QQ.midS ?_
        by_cases he2 : e2 = 0
        · subst he2
          have hz : (grp o m1 ((l.drop ix).take f)).2.2 = 0 := by rw [hgr]
          have hnl := (grp_law hI2 hz).1
          have hgo := pass_go (acc := acc) hdl (by omega) hz
          rw [hgr] at hnl hgo
          dsimp only at hnl hgo
          rw [hP, hdd] at hgo
          rw [← List.append_assoc] at hnl
          have hroom : Room (nes.length + 1) 40 := ⟨by omega, by omega⟩
          repeat' (first | ((first | refine WLA.m rfl rfl ?_ ?_ | refine WLA.st rfl ?_ ?_ | refine WLA.x rfl rfl ?_ (fun x => ?_) | refine WLA.x0 rfl ?_ (fun x => ?_)); first | exact trivial | exact rfl | assumption | omega | (refine ⟨?_, ?_⟩ <;> omega) | (simp only [Room, lenS]; omega) | decide | skip) | (refine Stp.go ?_) | (guard_target =~ WLA _ _ _ _ _ (⟨_, .call ⟨.value (.func 45), _, _⟩, _, _, _, _⟩ :: _) _ _; refine WLA.call rfl rfl (hgt) ?_; rintro ⟨q, J2⟩; dsimp only; refine WLA.pure fun hq => ?_) | (refine WPA.ifT ?_) | (refine WPA.ifF ?_) | ((first | refine WPA.dec ?_); first | refine .inl ⟨by first | assumption | omega | with_reducible rfl | (refine fun h => h ?_; first | assumption | with_reducible rfl) | (simp only [lenS] <;> omega) | decide, ?_⟩ | refine .inr ⟨by first | assumption | omega | with_reducible rfl | (refine fun h => h ?_; first | assumption | with_reducible rfl) | (simp only [lenS] <;> omega) | decide, ?_⟩) | ((first | refine WPA.ifBt ?_ ?_ | refine WPA.ifBnf ?_ ?_); assumption) | ((first | refine WPA.ifBnt ?_ ?_ | refine WPA.ifBf ?_ ?_); assumption) | ((first | refine WPA.ifs ?_ ?_ | refine WPA.ifB ?_ ?_) <;> intro hc))
          have hqr := hq.2 rfl
          haveI := hq.1
          obtain ⟨qo, qn, qs⟩ := q
          refine QQ.rndN (fun w h => ⟨.inl ⟨ix + f, J2, m2, acc ++ [r], x, nes ++ [(qo, qn, qs)]⟩, rfl, ⟨⟨⟨.inr (by dsimp only; omega), .inr (by simp), by simp; omega, by dsimp only; omega, by simp; omega⟩, ⟨⟨fun z hz => hq.1.out (hK.out hz)⟩, (hA.mono fun _ _ k => k.sub hq.1).snoc hqr, hnl⟩, hgo.symm⟩, rfl⟩, ?_⟩)
          dsimp only [Lk]
          exact h.to
        · have hz : (grp o m1 ((l.drop ix).take f)).2.2 ≠ 0 := by rw [hgr]; exact he2
          have hbad := pass_err (acc := acc) hdl (by omega) hz
          rw [hgr, hP] at hbad
          dsimp only at hbad
          repeat' (first | ((first | refine WLA.m rfl rfl ?_ ?_ | refine WLA.st rfl ?_ ?_ | refine WLA.x rfl rfl ?_ (fun x => ?_) | refine WLA.x0 rfl ?_ (fun x => ?_)); first | exact trivial | exact rfl | assumption | omega | (refine ⟨?_, ?_⟩ <;> omega) | (simp only [Room, lenS]; omega) | decide | skip) | (refine Stp.go ?_) | (guard_target =~ WLA _ _ _ _ _ (⟨_, .call ⟨.value (.func 45), _, _⟩, _, _, _, _⟩ :: _) _ _; refine WLA.call rfl rfl (hgt) ?_; rintro ⟨q, J2⟩; dsimp only; refine WLA.pure fun hq => ?_) | (refine WPA.ifT ?_) | (refine WPA.ifF ?_) | ((first | refine WPA.dec ?_); first | refine .inl ⟨by first | assumption | omega | with_reducible rfl | (refine fun h => h ?_; first | assumption | with_reducible rfl) | (simp only [lenS] <;> omega) | decide, ?_⟩ | refine .inr ⟨by first | assumption | omega | with_reducible rfl | (refine fun h => h ?_; first | assumption | with_reducible rfl) | (simp only [lenS] <;> omega) | decide, ?_⟩) | ((first | refine WPA.ifBt ?_ ?_ | refine WPA.ifBnf ?_ ?_); assumption) | ((first | refine WPA.ifBnt ?_ ?_ | refine WPA.ifBf ?_ ?_); assumption) | ((first | refine WPA.ifs ?_ ?_ | refine WPA.ifB ?_ ?_) <;> intro hc))
          haveI := hq.1
          refine QQ.rndR (fun w h => ⟨.inr ⟨(J2, m2, e2), he2, ⟨fun z hz => hq.1.out (hK.out hz)⟩, hbad⟩, rfl, ?_⟩)
          dsimp only [Le]
          exact h.to
      · dsimp only [Lk]
        have h2 := (Ent.ownNil (α := RE) (t := 44) Ent.refl).sl h
        have h3 : SL w0 J (Bk ca 38 [.slice now.a now.n now.cap] :: Bk cb 3 [.int .i64 f] :: Ob (D + 1) (rc .ready none) :: Ob D (.deferred (some [])) :: Bk X14 38 [.slice none 0 0] :: OwnS 44 SV.nil ([] : List RE) :: MarksH () ds :: StoreR S m :: Bk X4 29 [.pointer (some ⟨S, 0, none⟩)] :: Bk X5 3 [.int .i64 o] :: Bk X8 44 [.int .i64 0, .int .i64 0, .slice none 0 0] :: Bk X9 3 [.int .i64 0] :: Bk X10 30 [.int .i64 0] :: L') w := h2.to
        exact h3
      · rintro (x | z) w hb
        · refine ⟨.inl ⟨x, hb.1⟩, rfl, ?_⟩
          have h := hb.2
          dsimp only [Lk, Lf] at h ⊢
          exact h.to
        · exact ⟨.inr z, rfl, hb⟩
    · rintro (⟨⟨ix, K, m1, acc, nx, nes⟩, ⟨⟨c1, c2, c3, c4, c5⟩, ⟨hK, hA, hI1⟩, hP⟩, hend⟩ | ⟨⟨K, m1, e1⟩, he1, hK, hP⟩) <;> refine ⟨by simp, ?_⟩
      · show QQ _ _ _ _
        dsimp only at c1 c2 c3 c4 c5 hK hA hI1 hP hend
        dsimp only [Lf]
        have hdl : l.drop ix = [] := List.drop_of_length_le (by omega)
        rw [hdl, pass_nil] at hP
        rw [hdl, List.append_nil] at hI1
        have hne : acc ≠ [] := c2.resolve_left (by omega)
        have hlen := pass_len (o := o) (f := f) (by omega) l.length l rfl m []
        rw [← hP] at hlen
        simp only [List.length_nil] at hlen
        have hgo := runs_go (p := p1) (o := o) (f := f) (m := m) hl1 (by omega) (by rw [← hP])
        rw [hG, ← hP] at hgo
        dsimp only at hgo
        repeat' (first | ((first | refine WLA.m rfl rfl ?_ ?_ | refine WLA.st rfl ?_ ?_ | refine WLA.x rfl rfl ?_ (fun x => ?_) | refine WLA.x0 rfl ?_ (fun x => ?_)); first | exact trivial | exact rfl | assumption | omega | (refine ⟨?_, ?_⟩ <;> omega) | (simp only [Room, lenS]; omega) | decide | skip) | (refine Stp.go ?_) | (refine WPA.ifT ?_) | (refine WPA.ifF ?_) | ((first | refine WPA.dec ?_); first | refine .inl ⟨by first | assumption | omega | with_reducible rfl | (refine fun h => h ?_; first | assumption | with_reducible rfl) | (simp only [lenS] <;> omega) | decide, ?_⟩ | refine .inr ⟨by first | assumption | omega | with_reducible rfl | (refine fun h => h ?_; first | assumption | with_reducible rfl) | (simp only [lenS] <;> omega) | decide, ?_⟩) | ((first | refine WPA.ifBt ?_ ?_ | refine WPA.ifBnf ?_ ?_); assumption) | ((first | refine WPA.ifBnt ?_ ?_ | refine WPA.ifBf ?_ ?_); assumption) | ((first | refine WPA.ifs ?_ ?_ | refine WPA.ifB ?_ ?_) <;> intro hc))
        refine QQ.ent (EntC.out (L' := OwnS 44 nx nes :: Ob D (.deferred (some [])) :: MarksH () ds :: StoreR S m1 :: Bk X4 29 [.pointer (some ⟨S, 0, none⟩)] :: Bk X5 3 [.int .i64 o] :: Bk X8 44 [.int .i64 0, .int .i64 0, .slice none 0 0] :: Bk X9 3 [.int .i64 0] :: Bk X10 30 [.int .i64 0] :: L')) ?_
        refine QQ.freeze fun R hF => ?_
        have hsn : SlI (R ++ K) nx RE inferInstance nes := by have := SlI.ofOwn hF; infer_instance
        exact QQ.loopD ⟨R ++ K, nx, nes, m1, acc, p1 + 1, D :: ds⟩ ⟨rfl, rfl, rfl, rfl, rfl, rfl, rfl, rfl, trivial⟩ ⟨⟨⟨fun z hz => List.mem_append_right _ (hK.out (hJ.out hz))⟩, hsn, hA.mono fun _ _ k => k.sub inferInstance, hI1⟩, ⟨by dsimp only; omega, fun h => absurd h hne, by dsimp only; omega⟩, hgo.symm⟩ (by dsimp only; omega) (fun w h => MarksH.cons.sl h.to) rfl
      · show QQ _ _ _ _
        dsimp only at he1 hK hP
        dsimp only [Le]
        have hbad := runs_err (p := p1) (o := o) (f := f) (m := m) hl1 (by omega) (by rw [hP]; exact he1)
        rw [hG, hP] at hbad
        simp only [Prod.mk.injEq] at hbad
        obtain ⟨rfl, rfl, rfl, rfl⟩ := hbad
        repeat' (first | ((first | refine WLA.m rfl rfl ?_ ?_ | refine WLA.st rfl ?_ ?_ | refine WLA.x rfl rfl ?_ (fun x => ?_) | refine WLA.x0 rfl ?_ (fun x => ?_)); first | exact trivial | exact rfl | assumption | omega | (refine ⟨?_, ?_⟩ <;> omega) | (simp only [Room, lenS]; omega) | decide | skip) | (refine Stp.go ?_) | (refine WPA.ifT ?_) | (refine WPA.ifF ?_) | ((first | refine WPA.dec ?_); first | refine .inl ⟨by first | assumption | omega | with_reducible rfl | (refine fun h => h ?_; first | assumption | with_reducible rfl) | (simp only [lenS] <;> omega) | decide, ?_⟩ | refine .inr ⟨by first | assumption | omega | with_reducible rfl | (refine fun h => h ?_; first | assumption | with_reducible rfl) | (simp only [lenS] <;> omega) | decide, ?_⟩) | ((first | refine WPA.ifBt ?_ ?_ | refine WPA.ifBnf ?_ ?_); assumption) | ((first | refine WPA.ifBnt ?_ ?_ | refine WPA.ifBf ?_ ?_); assumption) | ((first | refine WPA.ifs ?_ ?_ | refine WPA.ifB ?_ ?_) <;> intro hc))
        exact QQ.fin (D :: ds) (L' := StoreR S m' :: Bk X8 44 [.int .i64 0, .int .i64 0, .slice none 0 0] :: Bk X9 3 [.int .i64 0] :: Bk X10 30 [.int .i64 e] :: L') rfl (Ent.cons MarksH.out) rfl ((0, 0, SV.nil), K) rfl fun w h => ⟨⟨⟨fun z hz => hK.out (hJ.out hz)⟩, fun h0 => absurd h0 he1, fun _ => rfl⟩, h.to⟩
  · have hl1' : ¬ (1 : Int) < es.length := by omega
    rw [runs_end hl1] at hG
    simp only [Prod.mk.injEq] at hG
    obtain ⟨rfl, rfl, rfl, rfl⟩ := hG
    by_cases h0 : l = []
    · have hp00 := hp0 h0
      subst hp00
      have he0 : (es.length : Int) = 0 := by rw [hel, h0]; rfl
      repeat' (first | ((first | refine WLA.m rfl rfl ?_ ?_ | refine WLA.st rfl ?_ ?_ | refine WLA.x rfl rfl ?_ (fun x => ?_) | refine WLA.x0 rfl ?_ (fun x => ?_)); first | exact trivial | exact rfl | assumption | omega | (refine ⟨?_, ?_⟩ <;> omega) | (simp only [Room, lenS]; omega) | decide | skip) | (refine Stp.go ?_) | (refine WPA.ifT ?_) | (refine WPA.ifF ?_) | ((first | refine WPA.dec ?_); first | refine .inl ⟨by first | assumption | omega | with_reducible rfl | (refine fun h => h ?_; first | assumption | with_reducible rfl) | (simp only [lenS] <;> omega) | decide, ?_⟩ | refine .inr ⟨by first | assumption | omega | with_reducible rfl | (refine fun h => h ?_; first | assumption | with_reducible rfl) | (simp only [lenS] <;> omega) | decide, ?_⟩) | ((first | refine WPA.ifBt ?_ ?_ | refine WPA.ifBnf ?_ ?_); assumption) | ((first | refine WPA.ifBnt ?_ ?_ | refine WPA.ifBf ?_ ?_); assumption) | ((first | refine WPA.ifs ?_ ?_ | refine WPA.ifB ?_ ?_) <;> intro hc))
      exact QQ.fin ds (L' := Bk X8 44 [.int .i64 o, .int .i64 0, .slice none 0 0] :: Bk X9 3 [.int .i64 0] :: Bk X10 30 [.int .i64 0] :: StoreR S m :: L') rfl (Ent.trans (EntC.out (L' := MarksH () ds :: Bk X8 44 [.int .i64 o, .int .i64 0, .slice none 0 0] :: Bk X9 3 [.int .i64 0] :: Bk X10 30 [.int .i64 0] :: StoreR S m :: L')) MarksH.out) rfl ((o, 0, SV.nil), J) rfl fun w h => ⟨⟨hJ, fun _ => .inl ⟨h0, rfl⟩, fun h => absurd rfl h⟩, h.to⟩
    · have he0 : ¬ (es.length : Int) = 0 := by have := List.length_pos_iff.2 h0; omega
      have hlp := List.length_pos_iff.2 h0
      obtain ⟨r, hr⟩ := List.length_eq_one_iff.1 (show l.length = 1 by omega)
      have hir : (0 : Int) ≤ 0 ∧ (0 : Int) < es.length := by omega
      have hR0 : PRunI J o (at_ es 0) (l.getD 0 ([], [])) := hR.2 0 (by omega)
      obtain ⟨q, hq⟩ : ∃ q, at_ es 0 = q := ⟨_, rfl⟩
      rw [hq, hr] at hR0
      obtain ⟨qo, qn, qs⟩ := q
      obtain ⟨⟨k1, k2⟩, k3⟩ := hR0
      dsimp only at k1 k2 k3
      have hil : r.1.length ≤ 1000000 := hI.idl r (by rw [hr]; exact List.mem_singleton.2 rfl)
      replace k3 : SlI J qs Int inferInstance r.1 := k3
      repeat' (first | ((rw [hq])) | ((first | refine WLA.m rfl rfl ?_ ?_ | refine WLA.st rfl ?_ ?_ | refine WLA.x rfl rfl ?_ (fun x => ?_) | refine WLA.x0 rfl ?_ (fun x => ?_)); first | exact trivial | exact rfl | assumption | omega | (refine ⟨?_, ?_⟩ <;> omega) | (simp only [Room, lenS]; omega) | decide | skip) | (refine Stp.go ?_) | (guard_target =~ WLA _ _ _ _ _ (⟨_, .call ⟨.value (.func 46), _, _⟩, _, _, _, _⟩ :: _) _ _; refine WLA.call rfl rfl (Clone_tr hil) ?_; rintro cc) | (refine WPA.ifT ?_) | (refine WPA.ifF ?_) | ((first | refine WPA.dec ?_); first | refine .inl ⟨by first | assumption | omega | with_reducible rfl | (refine fun h => h ?_; first | assumption | with_reducible rfl) | (simp only [lenS] <;> omega) | decide, ?_⟩ | refine .inr ⟨by first | assumption | omega | with_reducible rfl | (refine fun h => h ?_; first | assumption | with_reducible rfl) | (simp only [lenS] <;> omega) | decide, ?_⟩) | ((first | refine WPA.ifBt ?_ ?_ | refine WPA.ifBnf ?_ ?_); assumption) | ((first | refine WPA.ifBnt ?_ ?_ | refine WPA.ifBf ?_ ?_); assumption) | ((first | refine WPA.ifs ?_ ?_ | refine WPA.ifB ?_ ?_) <;> intro hc))
      refine QQ.ent (EntC.out (L' := OwnS 3 cc r.1 :: MarksH () ds :: Bk X8 44 [.int .i64 qo, .int .i64 qn, .slice cc.a cc.n cc.cap] :: Bk X9 3 [.int .i64 p1] :: Bk X10 30 [.int .i64 0] :: StoreR S m :: L')) ?_
      refine QQ.freeze fun R hF => ?_
      have hcc : SlI (R ++ J) cc Int inferInstance r.1 := by have := SlI.ofOwn hF; infer_instance
      exact QQ.fin ds (L' := Bk X8 44 [.int .i64 qo, .int .i64 qn, .slice cc.a cc.n cc.cap] :: Bk X9 3 [.int .i64 p1] :: Bk X10 30 [.int .i64 0] :: StoreR S m :: L') rfl MarksH.out rfl ((qo, qn, cc), R ++ J) rfl fun w h => ⟨⟨⟨fun z hz => List.mem_append_right _ (hJ.out hz)⟩, fun _ => .inr ⟨r, hr, ⟨k1, k2⟩, hcc⟩, fun h => absurd rfl h⟩, h.to⟩
end
end Go.Proofs.YtamnobjdgjbmbaaGreat
