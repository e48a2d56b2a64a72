/- Methods behind interface values; results that lie in memory. Conditions: none. -/
import Derived.Test.YtfhelnalegochaaSlWalk
import Derived.Laws.StructEq
namespace Go.Fw
open Go Go.RowKit
set_option linter.unusedVariables false
set_option linter.unusedSimpArgs false

section
variable {P : Program} {ρ : Env} {A : World → Prop} {ty : TypeId} {w0 : World} {I : Foot} {L : List HP}
/-- A value of a type that is no interface. -/
class MkI (P : Program) (t : TypeId) : Prop where
  out : ∀ v w, (Instr.makeInterface t v).run P w = .ok (.iface t v) w
instance {x : Operand} {t : TypeId} {v : Value} [h : Ev ρ x v] [hm : MkI P t] : OpM P ρ A (.makeInterface t x) ty (.iface t v) True := ⟨fun _ d pos af g w _ => by
  simp only [execOp, h.out, Sem.run_bind, hm.out, Result.andThen_ok, Sem.run_pure]⟩
/-- The method of a value. -/
class Meth (P : Program) (t : TypeId) (v : Value) (name : String) (f : outParam FuncId) (v' : outParam Value) : Prop where
  out : ∀ w, (method (P.types.size + Made.depth) t v name).run P w = .ok (f, v') w
theorem run_invoke {t : TypeId} {v v' : Value} {name : String} {f : FuncId} (hm : Meth P t v name f v') (hf : callable P f = true) (args : List Value) (d : Option Tmp) {recv : Operand} {as : List Operand} {argTypes : Array TypeId} (hr : evalE ρ recv = .iface t v) (ha : as.map (evalE ρ) = args) (pos af g) (w : World) :
    (execOp (evalE ρ) ⟨d, .call { callee := .invoke recv name, args := as.toArray, argTypes := argTypes }, ty, pos, af, g⟩).run P w = .ok (.enter f (v' :: args).toArray) w := by
  have e : as.toArray.map (evalE ρ) = args.toArray := by simp [← ha]
  simp only [execOp, resolve, hr, e, Sem.run_bind, Sem.run_pure, Result.andThen_ok, invoke]
  have e2 : ((#[Value.iface t v] ++ args.toArray : Array Value)[0]?) = some (.iface t v) := by simp
  have e3 : ((#[Value.iface t v] ++ args.toArray : Array Value).extract 1 (#[Value.iface t v] ++ args.toArray : Array Value).size) = args.toArray := by simp
  have e4 : (#[v'] ++ args.toArray : Array Value) = (v' :: args).toArray := by simp
  simp only [e2, e3, callMethod, Sem.run_bind]
  have hp : (program).run P w = .ok P w := by simp [go_sem]
  simp only [hp, Result.andThen_ok, hm.out, run_callFunc hf, e4]
section
variable {ro : Option Nat} {n : Nat} {Q : Hnd} {ops : Array Oper} {rest : List Oper} {pos : String} {af : Array Edge} {g : Option (Nat × Bool)} {d : Tmp} {recv : Operand} {name : String} {t : TypeId} {v v' : Value} {f : FuncId} {args : List Operand} {argTypes : Array TypeId} {vs : List Value}
theorem WLA.ciq {u : Value} [hr : Ev ρ recv (.iface t v)] [hm : Meth P t v name f v'] [hf : Callb P f] [hv : EvAll ρ args vs] [hA : InSL A w0 I L] [hdr : DrC A] (hw : Region.wanted ⟨some d, .call { callee := .invoke recv name, args := args.toArray, argTypes := argTypes }, ty, pos, af, g⟩ (yieldedE n ops ρ) = true) (hd : Nat.blt d n = true)
    (hc : TrP P f (v' :: vs).toArray (SL w0 I L) u) (k : WLA ro P n ops Q rest (put1 ρ d u) A) : WLA ro P n ops Q (⟨some d, .call { callee := .invoke recv name, args := args.toArray, argTypes := argTypes }, ty, pos, af, g⟩ :: rest) ρ A :=
  WLA.e hw (τ := Unit) (val := fun _ => u) (B := fun _ => A) (fun d pos af g w hA' => by
    rw [run_invoke hm hf.out vs d hr.out hv.out]
    exact ((TrP.toTr' hc) w hA').mono fun e w' ⟨x, h1, h2⟩ => ⟨_, h1, (), rfl, h2⟩) (fun _ => by rw [upd_put1 hd]; exact k)
theorem WLA.ci {τ : Type} {val : τ → Value} {B : τ → World → Prop} [hr : Ev ρ recv (.iface t v)] [hm : Meth P t v name f v'] [hf : Callb P f] [hv : EvAll ρ args vs] [hA : InSL A w0 I L] (hw : Region.wanted ⟨some d, .call { callee := .invoke recv name, args := args.toArray, argTypes := argTypes }, ty, pos, af, g⟩ (yieldedE n ops ρ) = true) (hd : Nat.blt d n = true)
    (hc : Tr P f (v' :: vs).toArray (SL w0 I L) val B) (k : ∀ x, WLA ro P n ops Q rest (put1 ρ d (val x)) (B x)) : WLA ro P n ops Q (⟨some d, .call { callee := .invoke recv name, args := args.toArray, argTypes := argTypes }, ty, pos, af, g⟩ :: rest) ρ A :=
  WLA.e hw (fun d pos af g w hA' => by
    rw [run_invoke hm hf.out vs d hr.out hv.out]
    exact (hc w (hA.out w hA')).mono fun e w' ⟨x, h1, h2⟩ => ⟨_, h1, x, rfl, h2⟩) (fun x => by rw [upd_put1 hd]; exact k x)
end

/-! ### Results -/
def resOne (a : Array Value) : ResultVar → Sem Value
  | .tmp t => pure (a.getD t undef)
  | .cell p t => do loadVar t (← asAddr (a.getD p undef))
/-- What the results are. -/
class EvC (P : Program) (ρ : Env) (L : List HP) (rs : List ResultVar) (vs : outParam (List Value)) : Prop where
  out : ∀ w0 I w, SL w0 I L w → ∀ a : Array Value, (∀ i, a.getD i undef = ρ.f i) → ∀ acc : Array Value, (rs.foldlM (fun (bs : Array Value) r => bs.push <$> resOne a r) acc).run P w = Result.ok (acc ++ vs.toArray) w
theorem EvC.cons {r : ResultVar} {v : Value} {rs : List ResultVar} {vs : List Value} (h : ∀ w0 I w, SL w0 I L w → ∀ a : Array Value, (∀ i, a.getD i undef = ρ.f i) → (resOne a r).run P w = Result.ok v w) (k : EvC P ρ L rs vs) : EvC P ρ L (r :: rs) (v :: vs) := ⟨fun w0 I w hw a ha acc => by
  have e : (acc.push v) ++ vs.toArray = acc ++ (v :: vs).toArray := by simp
  have h1 : (acc.push <$> resOne a r).run P w = Result.ok (acc.push v) w := by
    rw [map_eq_pure_bind, Sem.run_bind, h w0 I w hw a ha]; rfl
  rw [List.foldlM_cons, Sem.run_bind, h1, Result.andThen_ok, k.out w0 I w hw a ha, e]⟩
instance : EvC P ρ L [] [] := ⟨fun w0 I w h a ha acc => by simp [go_sem]⟩
instance {t : Tmp} {v : Value} {rs : List ResultVar} {vs : List Value} [h : EvT ρ t v] [k : EvC P ρ L rs vs] : EvC P ρ L (.tmp t :: rs) (v :: vs) := EvC.cons (fun w0 I w hw a ha => by
  simp only [resOne, Sem.run_pure, ha, h.out]) k
instance {p : Tmp} {ty t' : TypeId} {b i : Nat} {cs : List Value} {v : Value} {L' : List HP} {rs : List ResultVar} {vs : List Value} [h : EvT ρ p (.pointer (some ⟨b, i, none⟩))] [ht : One P ty] [hb : FindBk L b t' cs L'] [hg : GetL cs i v] [k : EvC P ρ L rs vs] : EvC P ρ L (.cell p ty :: rs) (v :: vs) := EvC.cons (fun w0 I w hw a ha => by
  have hc : w.cell? ⟨b, i, none⟩ = some v := cell_of_heap (hb.out.sl hw).bk (by simpa using hg.out)
  have h1 : (loadVar ty ⟨b, i, none⟩).run P w = .ok v w := by simp [loadVar, run_isAgg_one ht.out, load, Sem.run, hc, go_sem]
  simp only [resOne, Sem.run_bind, ha, h.out, asAddr, Sem.run_pure, Result.andThen_ok, h1]) k
instance {p : Tmp} {ty t' : TypeId} {b i n : Nat} {cs l1 l2 l l3 : List Value} {L' : List HP} {rs : List ResultVar} {vs : List Value} [h : EvT ρ p (.pointer (some ⟨b, i, none⟩))] [ht : Agg P ty n] [hb : FindBk L b t' cs L'] [hf : FirstL cs i l1 l2] [hl : FirstL l2 n l l3] [k : EvC P ρ L rs vs] : EvC P ρ L (.cell p ty :: rs) (.agg l.toArray :: vs) := EvC.cons (fun w0 I w hw a ha => by
  have hbk := (hb.out.sl hw).bk
  have h1 : (loadVar ty ⟨b, i, none⟩).run P w = .ok (.agg l.toArray) w := by
    have hadd : ∀ j, (⟨b, i, none⟩ : Addr).add j = ⟨b, i + j, none⟩ := fun j => by
      unfold Addr.add; split
      · rename_i e; simp [e]
      · rfl
    have hl' := run_loadCells_list (P := P) (w := w) ⟨b, i, none⟩ l (fun j v e => by
      rw [hadd]
      refine cell_of_heap hbk ?_
      have h1 := hf.out.2
      have hjl := (List.getElem?_eq_some_iff.1 e).1
      rw [hf.out.1, hl.out.1]
      simp only [List.getElem?_toArray]
      rw [List.getElem?_append_right (by omega), show i + j - l1.length = j by omega, List.getElem?_append_left hjl]
      exact e)
    rw [hl.out.2] at hl'
    have hl2 : (loadCellsFrom ⟨b, i, none⟩ 0 n #[]).run P w = .ok l.toArray w := hl'
    simp [loadVar, (run_isAgg_agg ht.out w).1, (run_isAgg_agg ht.out w).2, hl2, go_sem]
  simp only [resOne, Sem.run_bind, ha, h.out, asAddr, Sem.run_pure, Result.andThen_ok, h1]) k
class ResV (vs : List Value) (v : outParam Value) : Prop where
  out : (if h : vs.toArray.size = 1 then vs.toArray[0] else .tuple vs.toArray) = v
instance {v : Value} : ResV [v] v := ⟨by simp⟩
instance : ResV [] (.tuple #[]) := ⟨by simp⟩
instance {u v : Value} {vs : List Value} : ResV (u :: v :: vs) (.tuple (u :: v :: vs).toArray) := ⟨by simp⟩
theorem EvC.results {fn : Func} {rs : List ResultVar} {vs : List Value} {v : Value} (h : EvC P ρ L rs vs) (hv : ResV vs v) (hrs : fn.results = rs.toArray) {w : World} (hw : SL w0 I L w) (a : Array Value) (ha : ∀ i, a.getD i undef = ρ.f i) : (results fn a).run P w = .ok v w := by
  have h1 := h.out w0 I w hw a ha #[]
  have h2 : (fn.results.mapM (resOne a)).run P w = .ok vs.toArray w := by
    rw [hrs, Array.mapM_eq_foldlM]
    simp only [List.foldlM_toArray']
    simpa using h1
  have e : Go.results fn a = (fn.results.mapM (resOne a) >>= fun vs => pure (if h : vs.size = 1 then vs[0] else .tuple vs)) := by
    unfold Go.results
    congr 1
  rw [e, Sem.run_bind, h2, Result.andThen_ok, ← hv.out]
  rfl
theorem SL.mark {D : Nat} {o o' : Obj} {w : World} (h : SL w0 I (Ob D o :: L) w) : w.heap[D]? = some o ∧ SL w0 I (Ob D o' :: L) (w.putObj D o') := by
  obtain ⟨H, R, Rs, h1, h2, h3, h4⟩ := h.uncons
  unfold Ob at h2
  subst h2
  have h4' : St w0 H ((D, o) :: Rs.flatten) w := h4
  exact ⟨h4'.at_ (j := 0) rfl, SL.cons h1 (R := [(D, o')]) rfl h3 (h4'.putObj o')⟩
/-- The marks of the loops over functions, closed one by one. -/
theorem closes_sl {K : World → Prop} : ∀ (l : List Nat) {L' : List HP} {w : World}, SL w0 I (l.map (fun D => Ob D (.deferred (some []))) ++ L') w → (∀ w, SL w0 I L' w → K w) → closes l w K
  | [], L', w, h, k => k w h
  | D :: l, L', w, h, k => by
    have h' : SL w0 I (Ob D (.deferred (some [])) :: (l.map (fun D => Ob D (.deferred (some []))) ++ L')) w := h
    obtain ⟨h1, h2⟩ := h'.mark (o' := .deferred none)
    exact ⟨h1, closes_sl l (Ent.drop1.sl h2) k⟩
/-- The end of a function: its marks come off, its results are read. -/
theorem QQ.fin {fn : Func} {rs : List ResultVar} {vs : List Value} {v : Value} {τ : Type} {val : τ → Value} {B : τ → World → Prop} {L' : List HP} [hA : InSL A w0 I L] (l : List Nat) (hmk : ρ.ms = l) (he : Ent L (l.map (fun D => Ob D (.deferred (some []))) ++ L')) (hrs : fn.results = rs.toArray) [hr : EvC P ρ L' rs vs] [hv : ResV vs v] (x : τ) (hx : v = val x) (hB : ∀ w, SL w0 I L' w → B x w) :
    QQ (fnQ P fn fun v w => ∃ x, v = val x ∧ B x w) .ret ρ A := fun w hw => by
  show closes ρ.ms w _
  rw [hmk]
  exact closes_sl l (he.sl (hA.out w hw)) fun w hw => ⟨v, hr.results hv hrs hw, x, hx, hB w hw⟩
theorem QQ.finn {fn : Func} {rs : List ResultVar} {vs : List Value} {v : Value} {τ : Type} {val : τ → Value} {B : τ → World → Prop} {L' : List HP} [hA : InSL A w0 I L] (l : List Nat) (hmk : ρ.ms = l) (he : Ent L (l.map (fun D => Ob D (.deferred (some []))) ++ L')) (hrs : fn.results = rs.toArray) [hr : EvC P ρ L' rs vs] [hv : ResV vs v] (x : τ) (hx : v = val x) (hB : ∀ w, SL w0 I L' w → B x w) :
    QQ (fnQ P fn fun v w => ∃ x, v = val x ∧ B x w) .normal ρ A := fun w hw => by
  show closes ρ.ms w _
  rw [hmk]
  exact closes_sl l (he.sl (hA.out w hw)) fun w hw => ⟨v, hr.results hv hrs hw, x, hx, hB w hw⟩
/-- .. with results in cells, no marks. -/
theorem QQ.endc {fn : Func} {rs : List ResultVar} {vs : List Value} {v : Value} {τ : Type} {val : τ → Value} {B : τ → World → Prop} [hA : InSL A w0 I L] (hrs : fn.results = rs.toArray) [hr : EvC P ρ L rs vs] [hv : ResV vs v] (x : τ) (hx : v = val x) (hB : ∀ w, A w → B x w) (hmk : ρ.ms = [] := by rfl) :
    QQ (fnQ P fn fun v w => ∃ x, v = val x ∧ B x w) .ret ρ A := fun w hw => by
  show closes ρ.ms w _
  rw [hmk]
  exact ⟨v, hr.results hv hrs (hA.out w hw), x, hx, hB w hw⟩
end
/-! ### Structs of whole numbers, compared -/
def intsB (P : Program) (t : TypeId) (n : Nat) : Bool :=
  (match P.underlying t with | some (.struct fs) => Nat.beq fs.size n && fs.toList.zipIdx.all fun p => p.1.name != "_" && Nat.beq p.1.offset p.2 && (match P.underlying p.1.type with | some (.int _) => true | _ => false) | _ => false) && !P.stoodInHeld t && !P.eqGuardType P.depth t
class IntsT (P : Program) (t : TypeId) (n : outParam Nat) : Prop where
  out : intsB P t n = true
/-- Numbers, one beside the other: when they are the same. -/
inductive EqNum : List Value → List Value → Bool → Prop
  | nil : EqNum [] [] true
  | cons {k : IntKind} {a b : Int} {l l' : List Value} {r : Bool} (h : EqNum l l' r) : EqNum (.int k a :: l) (.int k b :: l') (decide (a = b) && r)
class EqL (l l' : List Value) (p : outParam Prop) (dec : outParam (Decidable p)) : Prop where
  out : EqNum l l' (decide p)
instance {k : IntKind} {a b : Int} : EqL [.int k a] [.int k b] (a = b) inferInstance := ⟨by have := EqNum.cons (k := k) (a := a) (b := b) EqNum.nil; simpa using this⟩
instance {k : IntKind} {a b : Int} {u v : Value} {l l' : List Value} {p : Prop} {dec : Decidable p} [h : EqL (u :: l) (v :: l') p dec] : EqL (.int k a :: u :: l) (.int k b :: v :: l') (a = b ∧ p) inferInstance := ⟨by
  have := EqNum.cons (k := k) (a := a) (b := b) h.out
  simpa [Bool.decide_and] using this⟩
theorem run_eqFields {P : Program} {w : World} {d : Nat} : ∀ {l l' : List Value} {r : Bool} (h : EqNum l l' r) (pre pre' : List Value) (fs : List Field), pre.length = pre'.length → fs.length = l.length →
    ((fs.zipIdx pre.length).all fun p => p.1.name != "_" && Nat.beq p.1.offset p.2 && (match P.underlying p.1.type with | some (.int _) => true | _ => false)) = true →
    (Op.eqFields (d + 1) (pre ++ l).toArray (pre' ++ l').toArray fs).run P w = .ok r w := by
  intro l l' r h
  induction h with
  | nil => intro pre pre' fs _ hl _; have : fs = [] := List.eq_nil_of_length_eq_zero hl; subst this; simp [Op.eqFields]
  | @cons k a b l l' r h ih =>
    intro pre pre' fs hp hl hall
    cases fs with
    | nil => simp at hl
    | cons f fs =>
      simp only [List.zipIdx_cons, List.all_cons, Bool.and_eq_true] at hall
      obtain ⟨⟨⟨hn, ho⟩, ht⟩, hrest⟩ := hall
      have ho' := Nat.eq_of_beq_eq_true ho
      have hn' : f.name ≠ "_" := by simpa using hn
      have hone : oneTy P f.type = true := by
        unfold oneTy
        split at ht
        · rename_i e; rw [e]
        · cases ht
      have hint : ∃ k', P.underlying f.type = some (.int k') := by
        split at ht
        · rename_i k' e; exact ⟨k', e⟩
        · cases ht
      obtain ⟨k', hk'⟩ := hint
      have e1 : (part f.type (pre ++ .int k a :: l).toArray f.offset).run P w = .ok (.int k a) w := by
        simp [part, run_isAgg_one hone, ho', go_sem]
      have e2 : (part f.type (pre' ++ .int k b :: l').toArray f.offset).run P w = .ok (.int k b) w := by
        simp [part, run_isAgg_one hone, ho', hp, go_sem]
      have ih' := ih (pre ++ [.int k a]) (pre' ++ [.int k b]) fs (by simp [hp]) (by simpa using hl) (by simpa using hrest)
      simp only [List.append_assoc, List.singleton_append] at ih'
      simp only [Op.eqFields, if_pos hn', Sem.run_bind, e1, e2, Result.andThen_ok, run_equalIn_int w d f.type k k' a b hk']
      by_cases hab : a = b
      · subst hab; simpa using ih'
      · simp [hab, go_sem]
theorem run_eqStruct {P : Program} {t : TypeId} {n : Nat} {l l' : List Value} {r : Bool} (ht : intsB P t n = true) (h : EqNum l l' r) (hl : l.length = n) (w : World) :
    (Op.equalIn 10000 t (.agg l.toArray) (.agg l'.toArray)).run P w = .ok r w ∧ P.eqGuardType P.depth t = false := by
  unfold intsB at ht
  simp only [Bool.and_eq_true, Bool.not_eq_true'] at ht
  obtain ⟨⟨h1, h2⟩, h3⟩ := ht
  split at h1
  · rename_i fs e
    simp only [Bool.and_eq_true] at h1
    have ef : P.fieldsOf t = fs := by simp [Program.fieldsOf, e]
    refine ⟨?_, h3⟩
    rw [show (10000 : Nat) = 9998 + 1 + 1 from rfl, run_equalIn_agg w _ t _ _ (by rw [ef]; exact e) h2, ef]
    have hs := Nat.eq_of_beq_eq_true h1.1
    have := run_eqFields (P := P) (w := w) (d := 9998) h [] [] fs.toList rfl (by simp; omega) (by simpa using h1.2)
    simpa using this
  · cases h1
instance {P : Program} {ρ : Env} {A : World → Prop} {ty t u : TypeId} {x y : Operand} {n : Nat} {l l' : List Value} {p : Prop} {dec : Decidable p} [h1 : Ev ρ x (.agg l.toArray)] [h2 : Ev ρ y (.agg l'.toArray)] [ht : IntsT P t n] [hl : LenL l n] [h : EqL l l' p dec] : OpM P ρ A (.binOp .eql t x y u) ty (.bool (decide p)) True := ⟨fun _ d pos af g w _ => by
  obtain ⟨e1, e2⟩ := run_eqStruct ht.out h.out hl.out w
  simp only [execOp, h1.out, h2.out, Sem.run_bind, run_eqGuard_agg _ _ _ _ _ _ _ e2, Result.andThen_ok, run_eql_struct, e1, Sem.run_pure]⟩
instance {P : Program} {ρ : Env} {A : World → Prop} {ty t u : TypeId} {x y : Operand} {n : Nat} {l l' : List Value} {p : Prop} {dec : Decidable p} [h1 : Ev ρ x (.agg l.toArray)] [h2 : Ev ρ y (.agg l'.toArray)] [ht : IntsT P t n] [hl : LenL l n] [h : EqL l l' p dec] : OpM P ρ A (.binOp .neq t x y u) ty (.bool (decide (¬ p))) True := ⟨fun _ d pos af g w _ => by
  obtain ⟨e1, e2⟩ := run_eqStruct ht.out h.out hl.out w
  simp only [execOp, h1.out, h2.out, Sem.run_bind, run_eqGuard_agg _ _ _ _ _ _ _ e2, Result.andThen_ok, run_neq_struct, e1, Sem.run_pure, decide_not]⟩
end Go.Fw
