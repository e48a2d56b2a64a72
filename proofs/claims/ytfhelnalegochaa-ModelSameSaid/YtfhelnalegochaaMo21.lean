/- Another model that is the same. Conditions: none. -/
import Derived.Test.YtfhelnalegochaaMo20
namespace Go.Proofs.Ytfhelnalegochaa
open Go Go.Fw Go.RowKit
set_option linter.unusedVariables false
set_option linter.unusedSimpArgs false
set_option maxRecDepth 100000
set_option maxHeartbeats 16000000
set_option synthInstance.maxHeartbeats 200000
set_option synthInstance.maxSize 100000
attribute [local irreducible] WPA WLA WDA WDQ WDE QQ seqQ blockQ loopQ fnQ OpP OpT Tr TrP SL SLd OwnS LitS Bk BkE Ob
attribute [local irreducible] TblH VocH RowH
theorem WPA.know {ro : Option Nat} {P : Program} {n : Nat} {Q : Hnd} {ρ : Env} {A : World → Prop} {c : Code} {φ : Prop} (h : ∀ w, A w → φ) (k : φ → WPA ro P n c Q ρ A) : WPA ro P n c Q ρ A := by
  unfold WPA at k ⊢; exact fun m a w ha hA => k (h w hA) m a w ha hA
/-- A list of entries that is held alone. -/
def RowE (v : SV) (es : List EV) : HP := exH fun cs : List En => pureH (cs.map Prod.snd = es.map Prod.fst) (star (OwnS 65 v cs) (RowH 3 (cs.map Prod.fst) (es.map Prod.snd)))
def RowsE : List SV → List (List EV) → HP
  | v :: vs, es :: A => star (RowE v es) (RowsE vs A)
  | _, _ => fun R => R = []
/-- A model that is held alone. -/
def ClM (w : SV) (x : SV × List ByteArray × List (List EV)) : HP := exH fun vs : List SV => pureH (vs.length = x.2.2.length) (star (OwnS 9 w x.2.1) (star (OwnS 68 x.1 vs) (RowsE vs x.2.2)))
theorem RowE.fold {v : SV} {es : List EV} {cs : List En} {ks : List (List Int)} {L : List HP} (h1 : cs.map Prod.snd = es.map Prod.fst) (h2 : ks = es.map Prod.snd) : Ent (OwnS 65 v cs :: RowH 3 (cs.map Prod.fst) ks :: L) (RowE v es :: L) := by
  subst h2; exact Ent.ex cs (Ent.pure h1 (Ent.star Ent.refl))
theorem RowsE.nil {L : List HP} : Ent L (RowsE [] [] :: L) := Ent.intro1 rfl
theorem RowsE.snoc {v : SV} {es : List EV} : ∀ {vs : List SV} {A : List (List EV)} {L : List HP}, vs.length = A.length → Ent (RowE v es :: RowsE vs A :: L) (RowsE (vs ++ [v]) (A ++ [es]) :: L)
  | [], [], L, _ => Ent.star (Ent.cons Ent.drop1 |>.trans (Ent.cons RowsE.nil))
  | u :: vs, t :: A, L, h => by
    simp only [List.cons_append, RowsE]
    exact (Ent.cons Ent.unstar).trans (Ent.swap.trans ((Ent.cons (RowsE.snoc (by simpa using h))).trans (Ent.star Ent.refl)))
  | [], t :: A, L, h => by simp at h
  | u :: vs, [], L, h => by simp at h
theorem ClM.fold {w g : SV} {ws : List ByteArray} {A : List (List EV)} {vs : List SV} {L : List HP} (h : vs.length = A.length) : Ent (OwnS 9 w ws :: OwnS 68 g vs :: RowsE vs A :: L) (ClM w (g, ws, A) :: L) :=
  Ent.ex vs (Ent.pure h (Ent.star (Ent.cons (Ent.star Ent.refl))))
theorem RowE.lst {v : SV} {es : List EV} {R J : Foot} (h : RowE v es R) (hs : SubI J R) : LstE J v es := by
  obtain ⟨cs, h1, R1, R2, h2, h3, rfl⟩ := h
  have e1 : cs.length = es.length := by have := congrArg List.length h1; simpa using this
  have s1 : SubI J R1 := ⟨fun x hx => hs.out (List.mem_append_left _ hx)⟩
  have s2 : SubI J R2 := ⟨fun x hx => hs.out (List.mem_append_right _ hx)⟩
  refine ⟨cs, (SlI.ofOwn h2).sub, h1, fun i hi => ?_⟩
  have h := RowH.frozen h3 i (by rw [List.length_map]; exact hi) (by rw [List.length_map]; omega)
  rw [List.getD_eq_getElem?_getD, List.getD_eq_getElem?_getD, List.getElem?_map, List.getElem?_map, List.getElem?_eq_getElem hi, List.getElem?_eq_getElem (show i < es.length by omega)] at h
  rw [at_nat cs i hi, List.getD_eq_getElem?_getD, List.getElem?_eq_getElem (show i < es.length by omega)]
  exact h.sub
theorem RowsE.lst : ∀ {vs : List SV} {A : List (List EV)} {R J : Foot}, RowsE vs A R → vs.length = A.length → SubI J R → ∀ k (hk : k < vs.length) (hk2 : k < A.length), LstE J vs[k] A[k]
  | v :: vs, es :: A, R, J, h, hl, hs, k, hk, hk2 => by
    obtain ⟨R1, R2, h1, h2, rfl⟩ := h
    cases k with
    | zero => exact h1.lst ⟨fun x hx => hs.out (List.mem_append_left _ hx)⟩
    | succ k => exact RowsE.lst h2 (by simpa using hl) ⟨fun x hx => hs.out (List.mem_append_right _ hx)⟩ k (by simpa using hk) (by simpa using hk2)
/-- For a while it is there for good. -/
theorem ClM.md {w g : SV} {ws : List ByteArray} {A : List (List EV)} {R J : Foot} (h : ClM w (g, ws, A) R) (hs : SubI J R) : MdL J w g ws A := by
  obtain ⟨vs, hl, R1, R2, h1, ⟨R3, R4, h2, h3, rfl⟩, rfl⟩ := h
  dsimp only at hl h1 h2 h3
  have s1 : SubI J R1 := ⟨fun x hx => hs.out (List.mem_append_left _ hx)⟩
  have s3 : SubI J R3 := ⟨fun x hx => hs.out (List.mem_append_right _ (List.mem_append_left _ hx))⟩
  have s4 : SubI J R4 := ⟨fun x hx => hs.out (List.mem_append_right _ (List.mem_append_right _ hx))⟩
  refine ⟨(SlI.ofOwn h1).sub, vs, (SlI.ofOwn h2).sub, hl, fun k hk => ?_⟩
  have := RowsE.lst h3 hl s4 k (by omega) hk
  rw [at_nat vs k (by omega), List.getD_eq_getElem?_getD, List.getElem?_eq_getElem hk]
  exact this
section
variable {L : List HP} {w0 : World} {I : Foot}
/-- The reference's answer, of a model that is held alone and another one. -/
theorem rSame_trC {w g w2 g2 : SV} {ws ws2 : List ByteArray} {A B : List (List EV)} {fr fr2 : Int} (hb : MdL I w2 g2 ws2 B) (fa : FewA ws A) (fb : FewA ws2 B) :
    Tr Try.prog 64 #[.agg #[.int .i64 fr, .slice w.a w.n w.cap, .slice g.a g.n g.cap], .agg #[.int .i64 fr2, .slice w2.a w2.n w2.cap, .slice g2.a g2.n g2.cap]] (SL w0 I (ClM w (g, ws, A) :: L)) (fun _ : Unit => .bool (decide (fr = fr2 ∧ ws = ws2 ∧ A = B))) (fun _ => SL w0 I (ClM w (g, ws, A) :: L)) := by
  refine Tr.mk fun u hu => ?_
  obtain ⟨R, hR, h1, back⟩ := hu.borrow
  obtain ⟨gr, hq⟩ := (hR.md (J := R ++ I) ⟨fun _ h => List.mem_append_left _ h⟩).nst h1
  obtain ⟨gr2, hq2⟩ := (hb.sub (J' := R ++ I) inferInstance).nst h1
  refine ((rSame_trQ hq hq2 fa fb).ap h1).mono ?_
  rintro e w' ⟨x, he, h⟩
  exact ⟨x, he, back _ _ h⟩
theorem mSame_trC {w g w2 g2 : SV} {ws ws2 : List ByteArray} {A B : List (List EV)} {fr fr2 : Int} (hb : MdL I w2 g2 ws2 B) (fa : FewA ws A) (fb : FewA ws2 B) :
    Tr Try.prog 63 #[.agg #[.int .i64 fr, .slice w.a w.n w.cap, .slice g.a g.n g.cap], .agg #[.int .i64 fr2, .slice w2.a w2.n w2.cap, .slice g2.a g2.n g2.cap]] (SL w0 I (ClM w (g, ws, A) :: L)) (fun _ : Unit => .bool (decide (fr = fr2 ∧ ws = ws2 ∧ A = B))) (fun _ => SL w0 I (ClM w (g, ws, A) :: L)) := by
  refine Tr.mk fun u hu => ?_
  obtain ⟨R, hR, h1, back⟩ := hu.borrow
  obtain ⟨gr, hq⟩ := (hR.md (J := R ++ I) ⟨fun _ h => List.mem_append_left _ h⟩).nst h1
  obtain ⟨gr2, hq2⟩ := (hb.sub (J' := R ++ I) inferInstance).nst h1
  refine ((mSame_trQ hq hq2 fa fb).ap h1).mono ?_
  rintro e w' ⟨x, he, h⟩
  exact ⟨x, he, back _ _ h⟩
theorem rSame_trI {w g w2 g2 : SV} {ws ws2 : List ByteArray} {A B : List (List EV)} {fr fr2 : Int} (ha : MdL I w g ws A) (hb : MdL I w2 g2 ws2 B) (fa : FewA ws A) (fb : FewA ws2 B) :
    Tr Try.prog 64 #[.agg #[.int .i64 fr, .slice w.a w.n w.cap, .slice g.a g.n g.cap], .agg #[.int .i64 fr2, .slice w2.a w2.n w2.cap, .slice g2.a g2.n g2.cap]] (SL w0 I L) (fun _ : Unit => .bool (decide (fr = fr2 ∧ ws = ws2 ∧ A = B))) (fun _ => SL w0 I L) := by
  refine Tr.mk fun u hu => ?_
  obtain ⟨gr, hq⟩ := ha.nst hu
  obtain ⟨gr2, hq2⟩ := hb.nst hu
  exact (rSame_trQ hq hq2 fa fb).ap hu
theorem mSame_trI {w g w2 g2 : SV} {ws ws2 : List ByteArray} {A B : List (List EV)} {fr fr2 : Int} (ha : MdL I w g ws A) (hb : MdL I w2 g2 ws2 B) (fa : FewA ws A) (fb : FewA ws2 B) :
    Tr Try.prog 63 #[.agg #[.int .i64 fr, .slice w.a w.n w.cap, .slice g.a g.n g.cap], .agg #[.int .i64 fr2, .slice w2.a w2.n w2.cap, .slice g2.a g2.n g2.cap]] (SL w0 I L) (fun _ : Unit => .bool (decide (fr = fr2 ∧ ws = ws2 ∧ A = B))) (fun _ => SL w0 I L) := by
  refine Tr.mk fun u hu => ?_
  obtain ⟨gr, hq⟩ := ha.nst hu
  obtain ⟨gr2, hq2⟩ := hb.nst hu
  exact (mSame_trQ hq hq2 fa fb).ap hu
theorem CloneS_tr {a : SV} {xs : List ByteArray} [ha : RdS I L a ByteArray inferInstance xs] (hn : xs.length ≤ 1000000) : Tr Try.prog 97 #[.slice a.a a.n a.cap] (SL w0 I L) (fun r : SV => .slice r.a r.n r.cap) (fun r => SL w0 I (OwnS 9 r xs :: L)) := by
  refine Tr.intro Try.func97 rfl Try.ntmps97 rfl ?_
  repeat' (first | ((first | refine WLA.m rfl rfl ?_ ?_ | refine WLA.st rfl ?_ ?_ | refine WLA.x rfl rfl ?_ (fun x => ?_) | refine WLA.x0 rfl ?_ (fun x => ?_)); first | exact trivial | exact rfl | assumption | omega | (refine ⟨?_, ?_⟩ <;> omega) | (simp only [Room, List.length_set, List.length_append, List.length_cons, List.length_nil, List.length_replicate]; omega) | decide | skip) | (refine Stp.go ?_) | (refine WPA.ifT ?_) | (refine WPA.ifF ?_) | ((first | refine WPA.dec ?_); first | refine .inl ⟨by first | assumption | omega | with_reducible rfl | (refine fun h => h ?_; first | assumption | with_reducible rfl) | (simp only [List.length_append, List.length_cons, List.length_nil, List.length_set] <;> omega) | decide, ?_⟩ | refine .inr ⟨by first | assumption | omega | with_reducible rfl | (refine fun h => h ?_; first | assumption | with_reducible rfl) | (simp only [List.length_append, List.length_cons, List.length_nil, List.length_set] <;> omega) | decide, ?_⟩) | ((first | refine WPA.ifBt ?_ ?_ | refine WPA.ifBnf ?_ ?_); assumption) | ((first | refine WPA.ifBnt ?_ ?_ | refine WPA.ifBf ?_ ?_); assumption) | ((first | refine WPA.ifs ?_ ?_ | refine WPA.ifB ?_ ?_) <;> intro hc))
  · refine QQ.end_ rfl SV.nil rfl fun w h => ?_
    have hr := ha.out w0 w h
    have h0 : xs = [] := by
      have hn := hr.len
      rcases hr.plain with h0 | ⟨b, o, e⟩
      · exact List.eq_nil_of_length_eq_zero (by omega)
      · rw [e] at hc; cases hc
    rw [h0]
    exact h.to
  · exact QQ.end_ rfl x rfl fun w h => h.to
end
end Go.Proofs.Ytfhelnalegochaa
