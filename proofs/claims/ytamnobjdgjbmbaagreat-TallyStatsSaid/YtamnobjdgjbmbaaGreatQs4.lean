/- Texts that TallyStats_law leans on, part 4. Conditions: none. -/
import Derived.Laws.StructEq
import Derived.SliceStrings
import Derived.SizedLaws
import Derived.ChangeArms
import Derived.Laws.IdiomStrings
import Derived.RangeFuncIn
import Derived.Test.YtamnobjdgjbmbaaGreatProg
import Derived.Test.YtamnobjdgjbmbaaGreatQs3
namespace Go.Fw
open Go Go.RowKit
set_option linter.unusedVariables false
set_option linter.unusedSimpArgs false
section
variable {P : Program} {ρ : Env} {A : World → Prop} {ty : TypeId} {w0 : World} {I : Foot} {L : List HP}
class MkI (P : Program) (t : TypeId) : Prop where
  out : ∀ v w, (Instr.makeInterface t v).run P w = .ok (.iface t v) w
instance {x : Operand} {t : TypeId} {v : Value} [h : Ev ρ x v] [hm : MkI P t] : OpM P ρ A (.makeInterface t x) ty (.iface t v) True := ⟨fun _ d pos af g w _ => by
  simp only [execOp, h.out, Sem.run_bind, hm.out, Result.andThen_ok, Sem.run_pure]⟩
class Meth (P : Program) (t : TypeId) (v : Value) (name : String) (f : outParam FuncId) (v' : outParam Value) : Prop where
  out : ∀ w, (method (P.types.size + Made.depth) t v name).run P w = .ok (f, v') w
theorem run_invoke {t : TypeId} {v v' : Value} {name : String} {f : FuncId} (hm : Meth P t v name f v') (hf : callable P f = true) (args : List Value) (d : Option Tmp) {recv : Operand} {as_ : List Operand} {argTypes : Array TypeId} (hr : evalE ρ recv = .iface t v) (ha : as_.map (evalE ρ) = args) (pos af g) (w : World) :
    (execOp (evalE ρ) ⟨d, .call { callee := .invoke recv name, args := as_.toArray, argTypes := argTypes }, ty, pos, af, g⟩).run P w = .ok (.enter f (v' :: args).toArray) w := by
  have e : as_.toArray.map (evalE ρ) = args.toArray := by simp [← ha]
  simp only [execOp, resolve, hr, e, Sem.run_bind, Sem.run_pure, Result.andThen_ok, invoke]
  have e2 : ((#[Value.iface t v] ++ args.toArray : Array Value)[0]?) = some (.iface t v) := by simp
  have e3 : ((#[Value.iface t v] ++ args.toArray : Array Value).extract 1 (#[Value.iface t v] ++ args.toArray : Array Value).size) = args.toArray := by simp
  have e4 : (#[v'] ++ args.toArray : Array Value) = (v' :: args).toArray := by simp
  simp only [e2, e3, callMethod, Sem.run_bind]
  have hp : (program).run P w = .ok P w := by simp [go_sem]
  simp only [hp, Result.andThen_ok, hm.out, run_callFunc hf, e4]
section
variable {ro : Option Nat} {n : Nat} {Q : Hnd} {ops : Array Oper} {rest : List Oper} {pos : String} {af : Array Edge} {g : Option (Nat × Bool)} {d : Tmp} {recv : Operand} {name : String} {t : TypeId} {v v' : Value} {f : FuncId} {args : List Operand} {argTypes : Array TypeId} {vs : List Value}
theorem WLA.ci {τ : Type} {val : τ → Value} {B : τ → World → Prop} [hr : Ev ρ recv (.iface t v)] [hm : Meth P t v name f v'] [hf : Callb P f] [hv : EvAll ρ args vs] [hA : InSL A w0 I L] (hw : Region.wanted ⟨some d, .call { callee := .invoke recv name, args := args.toArray, argTypes := argTypes }, ty, pos, af, g⟩ (yieldedE n ops ρ) = true) (hd : Nat.blt d n = true)
    (hc : Tr P f (v' :: vs).toArray (SL w0 I L) val B) (k : ∀ x, WLA ro P n ops Q rest (put1 ρ d (val x)) (B x)) : WLA ro P n ops Q (⟨some d, .call { callee := .invoke recv name, args := args.toArray, argTypes := argTypes }, ty, pos, af, g⟩ :: rest) ρ A :=
  WLA.e hw (fun d pos af g w hA' => by
    rw [run_invoke hm hf.out vs d hr.out hv.out]
    exact (hc w (hA.out w hA')).mono fun e w' ⟨x, h1, h2⟩ => ⟨_, h1, x, rfl, h2⟩) (fun x => by rw [upd_put1 hd]; exact k x)
end
def resOne (a : Array Value) : ResultVar → Sem Value
  | .tmp t => pure (a.getD t undef)
  | .cell p t => do loadVar t (← asAddr (a.getD p undef))
class EvC (P : Program) (ρ : Env) (L : List HP) (rs : List ResultVar) (vs : outParam (List Value)) : Prop where
  out : ∀ w0 I w, SL w0 I L w → ∀ a : Array Value, (∀ i, a.getD i undef = ρ.f i) → ∀ acc : Array Value, (rs.foldlM (fun (bs : Array Value) r => bs.push <$> resOne a r) acc).run P w = Result.ok (acc ++ vs.toArray) w
theorem EvC.cons {r : ResultVar} {v : Value} {rs : List ResultVar} {vs : List Value} (h : ∀ w0 I w, SL w0 I L w → ∀ a : Array Value, (∀ i, a.getD i undef = ρ.f i) → (resOne a r).run P w = Result.ok v w) (k : EvC P ρ L rs vs) : EvC P ρ L (r :: rs) (v :: vs) := ⟨fun w0 I w hw a ha acc => by
  have e : (acc.push v) ++ vs.toArray = acc ++ (v :: vs).toArray := by simp
  have h1 : (acc.push <$> resOne a r).run P w = Result.ok (acc.push v) w := by
    rw [map_eq_pure_bind, Sem.run_bind, h w0 I w hw a ha]; rfl
  rw [List.foldlM_cons, Sem.run_bind, h1, Result.andThen_ok, k.out w0 I w hw a ha, e]⟩
instance : EvC P ρ L [] [] := ⟨fun w0 I w h a ha acc => by simp [go_sem]⟩
instance {t : Tmp} {v : Value} {rs : List ResultVar} {vs : List Value} [h : EvT ρ t v] [k : EvC P ρ L rs vs] : EvC P ρ L (.tmp t :: rs) (v :: vs) := EvC.cons (fun w0 I w hw a ha => by
  simp only [resOne, Sem.run_pure, ha, h.out]) k
instance {p : Tmp} {ty t' : TypeId} {b i : Nat} {cs : List Value} {v : Value} {L' : List HP} {rs : List ResultVar} {vs : List Value} [h : EvT ρ p (.pointer (some ⟨b, i, none⟩))] [ht : One P ty] [hb : FindBk L b t' cs L'] [hg : GetL cs i v] [k : EvC P ρ L rs vs] : EvC P ρ L (.cell p ty :: rs) (v :: vs) := EvC.cons (fun w0 I w hw a ha => by
  have hc : w.cell? ⟨b, i, none⟩ = some v := cell_of_heap (hb.out.sl hw).bk (by simpa using hg.out)
  have h1 : (loadVar ty ⟨b, i, none⟩).run P w = .ok v w := by simp [loadVar, run_isAgg_one ht.out, load, Sem.run, hc, go_sem]
  simp only [resOne, Sem.run_bind, ha, h.out, asAddr, Sem.run_pure, Result.andThen_ok, h1]) k
instance {p : Tmp} {ty t' : TypeId} {b i n : Nat} {cs l1 l2 l l3 : List Value} {L' : List HP} {rs : List ResultVar} {vs : List Value} [h : EvT ρ p (.pointer (some ⟨b, i, none⟩))] [ht : Agg P ty n] [hb : FindBk L b t' cs L'] [hf : FirstL cs i l1 l2] [hl : FirstL l2 n l l3] [k : EvC P ρ L rs vs] : EvC P ρ L (.cell p ty :: rs) (.agg l.toArray :: vs) := EvC.cons (fun w0 I w hw a ha => by
  have hbk := (hb.out.sl hw).bk
  have h1 : (loadVar ty ⟨b, i, none⟩).run P w = .ok (.agg l.toArray) w := by
    have hadd : ∀ j, (⟨b, i, none⟩ : Addr).add j = ⟨b, i + j, none⟩ := fun j => by
      unfold Addr.add; split
      · rename_i e; simp [e]
      · rfl
    have hl' := run_loadCells_list (P := P) (w := w) ⟨b, i, none⟩ l (fun j v e => by
      rw [hadd]
      refine cell_of_heap hbk ?_
      have h1 := hf.out.2
      have hjl := (List.getElem?_eq_some_iff.1 e).1
      rw [hf.out.1, hl.out.1]
      simp only [List.getElem?_toArray]
      rw [List.getElem?_append_right (by omega), show i + j - l1.length = j by omega, List.getElem?_append_left hjl]
      exact e)
    rw [hl.out.2] at hl'
    have hl2 : (loadCellsFrom ⟨b, i, none⟩ 0 n #[]).run P w = .ok l.toArray w := hl'
    simp [loadVar, (run_isAgg_agg ht.out w).1, (run_isAgg_agg ht.out w).2, hl2, go_sem]
  simp only [resOne, Sem.run_bind, ha, h.out, asAddr, Sem.run_pure, Result.andThen_ok, h1]) k
class ResV (vs : List Value) (v : outParam Value) : Prop where
  out : (if h : vs.toArray.size = 1 then vs.toArray[0] else .tuple vs.toArray) = v
instance {v : Value} : ResV [v] v := ⟨by simp⟩
instance : ResV [] (.tuple #[]) := ⟨by simp⟩
instance {u v : Value} {vs : List Value} : ResV (u :: v :: vs) (.tuple (u :: v :: vs).toArray) := ⟨by simp⟩
theorem EvC.results {fn : Func} {rs : List ResultVar} {vs : List Value} {v : Value} (h : EvC P ρ L rs vs) (hv : ResV vs v) (hrs : fn.results = rs.toArray) {w : World} (hw : SL w0 I L w) (a : Array Value) (ha : ∀ i, a.getD i undef = ρ.f i) : (results fn a).run P w = .ok v w := by
  have h1 := h.out w0 I w hw a ha #[]
  have h2 : (fn.results.mapM (resOne a)).run P w = .ok vs.toArray w := by
    rw [hrs, Array.mapM_eq_foldlM]
    simp only [List.foldlM_toArray']
    simpa using h1
  have e : Go.results fn a = (fn.results.mapM (resOne a) >>= fun vs => pure (if h : vs.size = 1 then vs[0] else .tuple vs)) := by
    unfold Go.results
    congr 1
  rw [e, Sem.run_bind, h2, Result.andThen_ok, ← hv.out]
  rfl
theorem SL.mark {D : Nat} {o o' : Obj} {w : World} (h : SL w0 I (Ob D o :: L) w) : w.heap[D]? = some o ∧ SL w0 I (Ob D o' :: L) (w.putObj D o') := by
  obtain ⟨H, R, Rs, h1, h2, h3, h4⟩ := h.uncons
  unfold Ob at h2
  subst h2
  have h4' : St w0 H ((D, o) :: Rs.flatten) w := h4
  exact ⟨h4'.at_ (j := 0) rfl, SL.cons h1 (R := [(D, o')]) rfl h3 (h4'.putObj o')⟩
theorem closes_sl {K : World → Prop} : ∀ (l : List Nat) {L' : List HP} {w : World}, SL w0 I (l.map (fun D => Ob D (.deferred (some []))) ++ L') w → (∀ w, SL w0 I L' w → K w) → closes l w K
  | [], L', w, h, k => k w h
  | D :: l, L', w, h, k => by
    have h' : SL w0 I (Ob D (.deferred (some [])) :: (l.map (fun D => Ob D (.deferred (some []))) ++ L')) w := h
    obtain ⟨h1, h2⟩ := h'.mark (o' := .deferred none)
    exact ⟨h1, closes_sl l (Ent.drop1.sl h2) k⟩
theorem QQ.fin {fn : Func} {rs : List ResultVar} {vs : List Value} {v : Value} {τ : Type} {val : τ → Value} {B : τ → World → Prop} {L' : List HP} [hA : InSL A w0 I L] (l : List Nat) (hmk : ρ.ms = l) (he : Ent L (l.map (fun D => Ob D (.deferred (some []))) ++ L')) (hrs : fn.results = rs.toArray) [hr : EvC P ρ L' rs vs] [hv : ResV vs v] (x : τ) (hx : v = val x) (hB : ∀ w, SL w0 I L' w → B x w) :
    QQ (fnQ P fn fun v w => ∃ x, v = val x ∧ B x w) .ret ρ A := fun w hw => by
  show closes ρ.ms w _
  rw [hmk]
  exact closes_sl l (he.sl (hA.out w hw)) fun w hw => ⟨v, hr.results hv hrs hw, x, hx, hB w hw⟩
theorem QQ.finn {fn : Func} {rs : List ResultVar} {vs : List Value} {v : Value} {τ : Type} {val : τ → Value} {B : τ → World → Prop} {L' : List HP} [hA : InSL A w0 I L] (l : List Nat) (hmk : ρ.ms = l) (he : Ent L (l.map (fun D => Ob D (.deferred (some []))) ++ L')) (hrs : fn.results = rs.toArray) [hr : EvC P ρ L' rs vs] [hv : ResV vs v] (x : τ) (hx : v = val x) (hB : ∀ w, SL w0 I L' w → B x w) :
    QQ (fnQ P fn fun v w => ∃ x, v = val x ∧ B x w) .normal ρ A := fun w hw => by
  show closes ρ.ms w _
  rw [hmk]
  exact closes_sl l (he.sl (hA.out w hw)) fun w hw => ⟨v, hr.results hv hrs hw, x, hx, hB w hw⟩
theorem QQ.endc {fn : Func} {rs : List ResultVar} {vs : List Value} {v : Value} {τ : Type} {val : τ → Value} {B : τ → World → Prop} [hA : InSL A w0 I L] (hrs : fn.results = rs.toArray) [hr : EvC P ρ L rs vs] [hv : ResV vs v] (x : τ) (hx : v = val x) (hB : ∀ w, A w → B x w) (hmk : ρ.ms = [] := by rfl) :
    QQ (fnQ P fn fun v w => ∃ x, v = val x ∧ B x w) .ret ρ A := fun w hw => by
  show closes ρ.ms w _
  rw [hmk]
  exact ⟨v, hr.results hv hrs (hA.out w hw), x, hx, hB w hw⟩
end
def intsB (P : Program) (t : TypeId) (n : Nat) : Bool :=
  (match P.underlying t with | some (.struct fs) => Nat.beq fs.size n && fs.toList.zipIdx.all fun p => p.1.name != "_" && Nat.beq p.1.offset p.2 && (match P.underlying p.1.type with | some (.int _) => true | _ => false) | _ => false) && !P.stoodInHeld t && !P.eqGuardType P.depth t
class IntsT (P : Program) (t : TypeId) (n : outParam Nat) : Prop where
  out : intsB P t n = true
inductive EqNum : List Value → List Value → Bool → Prop
  | nil : EqNum [] [] true
  | cons {k : IntKind} {a b : Int} {l l' : List Value} {r : Bool} (h : EqNum l l' r) : EqNum (.int k a :: l) (.int k b :: l') (decide (a = b) && r)
class EqL (l l' : List Value) (p : outParam Prop) (dec : outParam (Decidable p)) : Prop where
  out : EqNum l l' (decide p)
instance {k : IntKind} {a b : Int} : EqL [.int k a] [.int k b] (a = b) inferInstance := ⟨by have := EqNum.cons (k := k) (a := a) (b := b) EqNum.nil; simpa using this⟩
instance {k : IntKind} {a b : Int} {u v : Value} {l l' : List Value} {p : Prop} {dec : Decidable p} [h : EqL (u :: l) (v :: l') p dec] : EqL (.int k a :: u :: l) (.int k b :: v :: l') (a = b ∧ p) inferInstance := ⟨by
  have := EqNum.cons (k := k) (a := a) (b := b) h.out
  simpa [Bool.decide_and] using this⟩
theorem run_eqFields {P : Program} {w : World} {d : Nat} : ∀ {l l' : List Value} {r : Bool} (h : EqNum l l' r) (pre pre' : List Value) (fs : List Field), pre.length = pre'.length → fs.length = l.length →
    ((fs.zipIdx pre.length).all fun p => p.1.name != "_" && Nat.beq p.1.offset p.2 && (match P.underlying p.1.type with | some (.int _) => true | _ => false)) = true →
    (Op.eqFields (d + 1) (pre ++ l).toArray (pre' ++ l').toArray fs).run P w = .ok r w := by
  intro l l' r h
  induction h with
  | nil => intro pre pre' fs _ hl _; have : fs = [] := List.eq_nil_of_length_eq_zero hl; subst this; simp [Op.eqFields]
  | @cons k a b l l' r h ih =>
    intro pre pre' fs hp hl hall
    cases fs with
    | nil => simp at hl
    | cons f fs =>
      simp only [List.zipIdx_cons, List.all_cons, Bool.and_eq_true] at hall
      obtain ⟨⟨⟨hn, ho⟩, ht⟩, hrest⟩ := hall
      have ho' := Nat.eq_of_beq_eq_true ho
      have hn' : f.name ≠ "_" := by simpa using hn
      have hone : oneTy P f.type = true := by
        unfold oneTy
        split at ht
        · rename_i e; rw [e]
        · cases ht
      have hint : ∃ k', P.underlying f.type = some (.int k') := by
        split at ht
        · rename_i k' e; exact ⟨k', e⟩
        · cases ht
      obtain ⟨k', hk'⟩ := hint
      have e1 : (part f.type (pre ++ .int k a :: l).toArray f.offset).run P w = .ok (.int k a) w := by
        simp [part, run_isAgg_one hone, ho', go_sem]
      have e2 : (part f.type (pre' ++ .int k b :: l').toArray f.offset).run P w = .ok (.int k b) w := by
        simp [part, run_isAgg_one hone, ho', hp, go_sem]
      have ih' := ih (pre ++ [.int k a]) (pre' ++ [.int k b]) fs (by simp [hp]) (by simpa using hl) (by simpa using hrest)
      simp only [List.append_assoc, List.singleton_append] at ih'
      simp only [Op.eqFields, if_pos hn', Sem.run_bind, e1, e2, Result.andThen_ok, run_equalIn_int w d f.type k k' a b hk']
      by_cases hab : a = b
      · subst hab; simpa using ih'
      · simp [hab, go_sem]
theorem run_eqStruct {P : Program} {t : TypeId} {n : Nat} {l l' : List Value} {r : Bool} (ht : intsB P t n = true) (h : EqNum l l' r) (hl : l.length = n) (w : World) :
    (Op.equalIn 10000 t (.agg l.toArray) (.agg l'.toArray)).run P w = .ok r w ∧ P.eqGuardType P.depth t = false := by
  unfold intsB at ht
  simp only [Bool.and_eq_true, Bool.not_eq_true'] at ht
  obtain ⟨⟨h1, h2⟩, h3⟩ := ht
  split at h1
  · rename_i fs e
    simp only [Bool.and_eq_true] at h1
    have ef : P.fieldsOf t = fs := by simp [Program.fieldsOf, e]
    refine ⟨?_, h3⟩
    rw [show (10000 : Nat) = 9998 + 1 + 1 from rfl, run_equalIn_agg w _ t _ _ (by rw [ef]; exact e) h2, ef]
    have hs := Nat.eq_of_beq_eq_true h1.1
    have := run_eqFields (P := P) (w := w) (d := 9998) h [] [] fs.toList rfl (by simp; omega) (by simpa using h1.2)
    simpa using this
  · cases h1
instance {P : Program} {ρ : Env} {A : World → Prop} {ty t u : TypeId} {x y : Operand} {n : Nat} {l l' : List Value} {p : Prop} {dec : Decidable p} [h1 : Ev ρ x (.agg l.toArray)] [h2 : Ev ρ y (.agg l'.toArray)] [ht : IntsT P t n] [hl : LenL l n] [h : EqL l l' p dec] : OpM P ρ A (.binOp .eql t x y u) ty (.bool (decide p)) True := ⟨fun _ d pos af g w _ => by
  obtain ⟨e1, e2⟩ := run_eqStruct ht.out h.out hl.out w
  simp only [execOp, h1.out, h2.out, Sem.run_bind, run_eqGuard_agg _ _ _ _ _ _ _ e2, Result.andThen_ok, run_eql_struct, e1, Sem.run_pure]⟩
instance {P : Program} {ρ : Env} {A : World → Prop} {ty t u : TypeId} {x y : Operand} {n : Nat} {l l' : List Value} {p : Prop} {dec : Decidable p} [h1 : Ev ρ x (.agg l.toArray)] [h2 : Ev ρ y (.agg l'.toArray)] [ht : IntsT P t n] [hl : LenL l n] [h : EqL l l' p dec] : OpM P ρ A (.binOp .neq t x y u) ty (.bool (decide (¬ p))) True := ⟨fun _ d pos af g w _ => by
  obtain ⟨e1, e2⟩ := run_eqStruct ht.out h.out hl.out w
  simp only [execOp, h1.out, h2.out, Sem.run_bind, run_eqGuard_agg _ _ _ _ _ _ _ e2, Result.andThen_ok, run_neq_struct, e1, Sem.run_pure, decide_not]⟩
end Go.Fw
namespace Go.Fw
open Go Go.RowKit Go.ChangeShapes Go.WideShapes
set_option linter.unusedVariables false
set_option linter.unusedSimpArgs false
class OpenT (P : Program) (t : TypeId) (α : outParam Type) (en : outParam (Enc α)) (good : outParam (World → α → Prop)) : Prop where
  out : ∀ {H : Type} {enc : TypeId × Value → H} {w : World} {base : Nat} {spare : Nat → Bool} {held : Bool} {fuel : Nat} {cs : List Value} {x : DataW H × List MemPlace}, DataW.trod enc P w base spare held fuel t cs = some x →
    (∀ n ∈ x.1.weights P t, n ≤ reachBytes) → ∃ y : α, Enc.cells y = cs ∧ good w y
def gInt (_ : World) (y : Int) : Prop := -9223372036854775808 ≤ y ∧ y ≤ 9223372036854775807
instance {P : Program} {t : TypeId} [ht : Und P t (.int .i64)] : OpenT P t Int inferInstance gInt := ⟨fun {H enc w base spare held fuel cs x} h _ => by
  obtain ⟨n, rfl, rfl, hw⟩ := DataW.trod_int ht.out h
  refine ⟨n, rfl, ?_⟩
  simp [Lit.wf, IntKind.min, IntKind.max, IntKind.bits, IntKind.signed] at hw
  unfold gInt; omega⟩
theorem cells_of {w : World} {base : Nat} {a : Addr} {n : Nat} {cs : List Value} (h : w.cells? base a n = some cs) : cs.length = n ∧ ∀ i v, cs[i]? = some v → w.cell? (a.add i) = some v := by
  unfold World.cells? at h
  split at h
  · have hl : cs.length = n := by simpa using mapM_some_length h
    refine ⟨hl, fun i v hv => ?_⟩
    have hi : i < n := by have := (List.getElem?_eq_some_iff.1 hv).1; omega
    have := mapM_some_get h i i (by simp [hi])
    rw [this, hv]
  · cases h
def gSl {β : Type} [Enc β] (good : World → β → Prop) (bytes : Nat) (w : World) (s : SV) : Prop := ∃ xs : List β, RdW w s xs ∧ (∀ x ∈ xs, good w x) ∧ xs.length * bytes ≤ 140737488351232
theorem weightsAll_mem {H : Type} {P : Program} {e : TypeId} : ∀ {ds : List (DataW H)} {d : DataW H}, d ∈ ds → ∀ n ∈ d.weights P e, n ∈ DataW.weightsAll P e ds
  | [], d, h, _, _ => by cases h
  | a :: ds, d, h, n, hn => by
    simp only [DataW.weightsAll, List.mem_append]
    rcases List.mem_cons.1 h with rfl | h
    · exact .inl hn
    · exact .inr (weightsAll_mem h n hn)
theorem ex_list {β : Type} {n : Nat} {p : Nat → β → Prop} (h : ∀ i, i < n → ∃ y, p i y) : ∃ l : List β, l.length = n ∧ ∀ i (hi : i < l.length), p i l[i] := by
  induction n with
  | zero => exact ⟨[], rfl, fun i hi => by simp at hi⟩
  | succ n ih =>
    obtain ⟨l, hl, hp⟩ := ih fun i hi => h i (by omega)
    obtain ⟨y, hy⟩ := h n (by omega)
    refine ⟨l ++ [y], by simp [hl], fun i hi => ?_⟩
    rw [List.getElem_append]
    split
    · exact hp i (by assumption)
    · simp at hi; have : i = n := by omega
      subst this; simpa using hy
instance {P : Program} {t e : TypeId} {β : Type} {en : Enc β} {good : World → β → Prop} {z : List Value} {sz bytes : Nat} [ht : Und P t (.slice e)] [he : OpenT P e β en good] [hz : Inf P e z sz bytes] [hs : SzIs β sz] : OpenT P t SV inferInstance (gSl good bytes) := ⟨fun {H enc w base spare held fuel cs x} h hw => by
  have hc : P.cellsOf e = sz := by obtain ⟨i, h1, h2⟩ := Option.map_eq_some_iff.1 hz.size; simp [Program.cellsOf, h1, h2]
  have hbytes : P.bytesOf e = bytes := by obtain ⟨i, h1, h2⟩ := Option.map_eq_some_iff.1 hz.out; simp only [Prod.mk.injEq] at h2; simp [Program.bytesOf, h1, h2.2.2]
  rcases DataW.trod_slice ht.out h with ⟨rfl, rfl⟩ | ⟨a, len, cap, elems, rest, n, _, rfl, rfl, hb, hl, hm, hlen, hel, hsp, hns⟩
  · exact ⟨SV.nil, rfl, [], ⟨rfl, Nat.le_refl _, .inl rfl, fun i k v hi => by simp at hi⟩, by simp, by simp⟩
  · simp only [DataW.weights, ht.out] at hw
    have each : ∀ i, i < len → ∃ y : β, good w y ∧ w.cells? base (a.add (i * sz)) sz = some (Enc.cells y) := by
      intro i hi
      have h1 := hel i hi
      have hil : i < elems.length := by omega
      rw [List.getElem?_eq_getElem hil, hc, Option.bind_eq_some_iff] at h1
      obtain ⟨cs', h2, h3⟩ := h1
      obtain ⟨y, hy, hg⟩ := he.out h3 fun m hm' => hw m (List.mem_cons_of_mem _ (List.mem_append_left _ (weightsAll_mem (List.mem_map.2 ⟨_, List.getElem_mem hil, rfl⟩) m hm')))
      exact ⟨y, hg, by rw [hy]; exact h2⟩
    obtain ⟨xs, hxl, hxs⟩ := ex_list each
    have hspot : 0 < len → a.spot = none := by
      intro h0
      have h1 := (hxs 0 (by omega)).2
      have hpos := Enc.pos (α := β)
      have hcl : 0 < (Enc.cells (xs[0]'(by omega))).length := by rw [Enc.len]; exact hpos
      have h2 := (cells_of h1).2 0 _ (List.getElem?_eq_getElem hcl)
      rw [Nat.zero_mul] at h2
      have e0 : (a.add 0).add 0 = a := by simp [Addr.add]
      rw [e0] at h2
      unfold World.cell? at h2
      split at h2
      · cases hq : a.spot with
        | none => rfl
        | some q => rw [hq] at h2; simp at h2
      · cases h2
    refine ⟨⟨some a, len, cap⟩, rfl, xs, ⟨hxl.symm, hl, ?_, fun i k v hi hv => ?_⟩, fun x hx => ?_, ?_⟩
    · rcases Nat.eq_zero_or_pos len with h0 | h0
      · exact .inl h0
      · right
        have := hspot h0
        obtain ⟨b, o, sp⟩ := a
        simp only at this
        subst this
        exact ⟨b, o, rfl⟩
    · have hi' : i < len := by omega
      have h1 := (hxs i hi).2
      have e1 : xs.getD i Enc.dflt = xs[i] := by simp [List.getD_eq_getElem?_getD, hi]
      rw [e1] at hv
      have h2 := (cells_of h1).2 k v hv
      rw [← h2]
      have hpl : a.spot = none := hspot (by omega)
      obtain ⟨b, o, sp⟩ := a
      simp only at hpl
      subst hpl
      have hadd : ∀ q m, (⟨b, q, none⟩ : Addr).add m = ⟨b, q + m, none⟩ := fun q m => by
        unfold Addr.add; split
        · rename_i e; simp [e]
        · rfl
      rw [hadd, hadd]
      simp [eAddr, hs.out]
    · obtain ⟨i, hi, rfl⟩ := List.getElem_of_mem hx
      exact (hxs i hi).1
    · have h1 := hw _ (List.mem_cons_self ..)
      simp only [List.length_map, hbytes, reachBytes, hlen] at h1
      rw [hxl]
      have : len * bytes ≤ (len + rest.length) * bytes := Nat.mul_le_mul_right _ (by omega)
      omega⟩
class OpenFs (P : Program) (ts : List TypeId) (α : outParam Type) (en : outParam (Enc α)) (good : outParam (World → α → Prop)) : Prop where
  out : ∀ {H : Type} {enc : TypeId × Value → H} {w : World} {base : Nat} {spare : Nat → Bool} {held : Bool} {n : Nat} {css : List (List Value)} {xs : List (DataW H × List MemPlace)}, css.length = ts.length → xs.length = ts.length →
    (∀ i t, ts[i]? = some t → DataW.trod enc P w base spare held n t (css.getD i []) = xs[i]?) → (∀ m ∈ DataW.weightsEach P ts (xs.map (·.1)), m ≤ reachBytes) → ∃ y : α, Enc.cells y = css.flatten ∧ good w y
instance {P : Program} {t : TypeId} {α : Type} {en : Enc α} {good : World → α → Prop} [h : OpenT P t α en good] : OpenFs P [t] α en good := ⟨fun {H enc w base spare held n css xs} hl hx hr hw => by
  match css, hl, xs, hx with
  | [cs], _, [x], _ =>
    have h1 := hr 0 t rfl
    obtain ⟨y, hy, hg⟩ := h.out h1 fun m hm => hw m (by simp only [List.map_cons, List.map_nil, DataW.weightsEach]; exact List.mem_append_left _ hm)
    exact ⟨y, by simpa using hy, hg⟩⟩
def gPair {α β : Type} (g1 : World → α → Prop) (g2 : World → β → Prop) (w : World) (p : α × β) : Prop := g1 w p.1 ∧ g2 w p.2
instance {P : Program} {t u : TypeId} {ts : List TypeId} {α β : Type} {ea : Enc α} {eb : Enc β} {g1 : World → α → Prop} {g2 : World → β → Prop} [h1 : OpenT P t α ea g1] [h2 : OpenFs P (u :: ts) β eb g2] : OpenFs P (t :: u :: ts) (α × β) inferInstance (gPair g1 g2) := ⟨fun {H enc w base spare held n css xs} hl hx hr hw => by
  match css, hl, xs, hx with
  | cs :: css, hl, x :: xs, hx =>
    have h3 := hr 0 t rfl
    simp only [List.map_cons, DataW.weightsEach] at hw
    obtain ⟨y, hy, hg⟩ := h1.out h3 fun m hm => hw m (List.mem_append_left _ hm)
    obtain ⟨z, hz, hg2⟩ := h2.out (by simpa using hl) (by simpa using hx) (fun i t' ht' => by have := hr (i + 1) t' (by simpa using ht'); simpa using this) fun m hm => hw m (List.mem_append_right _ hm)
    exact ⟨(y, z), by show Enc.cells y ++ Enc.cells z = _; rw [hy, hz]; simp, hg, hg2⟩⟩
def fsB (P : Program) : Nat → List Field → List TypeId → Bool
  | _, [], [] => true
  | o, f :: fs, t :: ts => Nat.beq f.type t && Nat.beq f.offset o && fsB P (o + P.cellsOf t) fs ts
  | _, _, _ => false
def structB (P : Program) (t : TypeId) (ts : List TypeId) : Bool :=
  match P.underlying t with
  | some (.struct fs) => fsB P 0 fs.toList ts && Nat.beq (P.cellsOf t) (ts.map P.cellsOf).sum
  | _ => false
class StructT (P : Program) (t : TypeId) (ts : outParam (List TypeId)) : Prop where
  out : structB P t ts = true
theorem fs_parts {P : Program} : ∀ {fs : List Field} {ts : List TypeId} {o : Nat} {cs : List Value}, fsB P o fs ts = true → cs.length = o + (ts.map P.cellsOf).sum →
    fs.length = ts.length ∧ (∀ (i : Nat) (f : Field), fs[i]? = some f → ts[i]? = some f.type) ∧ (fs.map fun f => (cs.drop f.offset).take (P.cellsOf f.type)).flatten = cs.drop o
  | [], [], o, cs, _, hl => ⟨rfl, by simp, by simp only [List.map_nil, List.flatten_nil]; exact (List.drop_of_length_le (by simp at hl; omega)).symm⟩
  | f :: fs, t :: ts, o, cs, h, hl => by
    simp only [fsB, Bool.and_eq_true] at h
    obtain ⟨⟨h1, h2⟩, h3⟩ := h
    have e1 := Nat.eq_of_beq_eq_true h1
    have e2 := Nat.eq_of_beq_eq_true h2
    simp only [List.map_cons, List.sum_cons] at hl
    obtain ⟨h4, h5, h6⟩ := fs_parts (cs := cs) h3 (by omega)
    refine ⟨by simp [h4], fun i g hg => ?_, ?_⟩
    · cases i with
      | zero => simp at hg; subst hg; simp [e1]
      | succ i => simpa using h5 i g (by simpa using hg)
    · simp only [List.map_cons, List.flatten_cons, h6, e1, e2]
      rw [← List.drop_drop, List.take_append_drop]
  | [], _ :: _, _, _, h, _ => by simp [fsB] at h
  | _ :: _, [], _, _, h, _ => by simp [fsB] at h
instance {P : Program} {t : TypeId} {ts : List TypeId} {α : Type} {en : Enc α} {good : World → α → Prop} [ht : StructT P t ts] [h : OpenFs P ts α en good] : OpenT P t α en good := ⟨fun {H enc w base spare held fuel cs x} hr hw => by
  have hB := ht.out
  unfold structB at hB
  split at hB
  · rename_i fs e
    simp only [Bool.and_eq_true] at hB
    obtain ⟨xs, n, _, rfl, hl, hxl, hf⟩ := DataW.trod_struct e hr
    have hsum := Nat.eq_of_beq_eq_true hB.2
    obtain ⟨h1, h2, h3⟩ := fs_parts (cs := cs) hB.1 (by omega)
    have htys : fs.toList.map (·.type) = ts := by
      apply List.ext_getElem?
      intro i
      rw [List.getElem?_map]
      cases hq : fs.toList[i]? with
      | none => simp only [Option.map_none]; symm; rw [List.getElem?_eq_none_iff] at hq ⊢; omega
      | some f => rw [Option.map_some, h2 i f hq]
    obtain ⟨y, hy, hg⟩ := h.out (enc := enc) (w := w) (base := base) (spare := spare) (held := held) (n := n) (css := fs.toList.map fun f => (cs.drop f.offset).take (P.cellsOf f.type)) (xs := xs) (by simpa using h1) (by rw [hxl]; simpa using h1) (fun i u hu => by
        have hi : i < fs.size := by have := (List.getElem?_eq_some_iff.1 hu).1; simp at h1; omega
        have hf' := hf i fs[i] (Array.getElem?_eq_getElem hi)
        have hu' := h2 i fs[i] (by simp [hi])
        rw [hu] at hu'
        cases hu'
        rw [← hf', List.getD_eq_getElem?_getD, List.getElem?_map]
        simp [hi]) (fun m hm => hw m (by simp only [DataW.weights, e, htys]; exact hm))
    exact ⟨y, by rw [hy, h3]; simp, hg⟩
  · cases hB⟩
class OpenP (P : Program) (t : TypeId) (α : outParam Type) (val : outParam (α → Value)) (good : outParam (World → α → Prop)) : Prop where
  out : ∀ {H : Type} {enc : TypeId × Value → H} {w : World} {base : Nat} {spare : Nat → Bool} {held : Bool} {v : Value} {d : DataW H} {p : List MemPlace}, Value.okWide P w .any base t v → DataW.Trod enc P w 0 spare held t v d p →
    (∀ n ∈ d.weights P t, n ≤ reachBytes) → ∃ y : α, v = val y ∧ good w y
theorem OpenT.use {P : Program} {t : TypeId} {α : Type} {en : Enc α} {good : World → α → Prop} (h : OpenT P t α en good) {H : Type} {enc : TypeId × Value → H} {w : World} {spare : Nat → Bool} {held : Bool} {v : Value} {d : DataW H} {p : List MemPlace}
    (hd : DataW.Trod enc P w 0 spare held t v d p) (hw : ∀ n ∈ d.weights P t, n ≤ reachBytes) : ∃ y : α, Enc.cells y = v.cells.toList ∧ good w y := by
  obtain ⟨fuel, hf⟩ := hd
  exact h.out hf hw
instance {P : Program} {t e : TypeId} {good : World → SV → Prop} [ht : Und P t (.slice e)] [h : OpenT P t SV inferInstance good] : OpenP P t SV (fun s => .slice s.a s.n s.cap) good := ⟨fun {H enc w base spare held v d p} hv hd hw => by
  obtain ⟨a, len, cap, rfl⟩ := okWide_slice ht.out hv
  obtain ⟨y, hy, hg⟩ := h.use hd hw
  refine ⟨y, ?_, hg⟩
  have : [Value.slice y.a y.n y.cap] = [Value.slice a len cap] := hy
  exact ((List.cons.inj this).1).symm⟩
instance {P : Program} {t : TypeId} [ht : Und P t (.int .i64)] : OpenP P t Int (fun x => .int .i64 x) gInt := ⟨fun {H enc w base spare held v d p} hv hd hw => by
  obtain ⟨a, rfl, rfl, rfl, hwf⟩ := open_int ht.out hv hd
  refine ⟨a, rfl, ?_⟩
  simp [Lit.wf, IntKind.min, IntKind.max, IntKind.bits, IntKind.signed] at hwf
  unfold gInt; omega⟩
instance {P : Program} {t : TypeId} {ts : List TypeId} {α : Type} {en : Enc α} {good : World → α → Prop} [hs : StructT P t ts] [h : OpenT P t α en good] : OpenP P t α (fun x => .agg (Enc.cells x).toArray) good := ⟨fun {H enc w base spare held v d p} hv hd hw => by
  obtain ⟨y, hy, hg⟩ := h.use hd hw
  refine ⟨y, ?_, hg⟩
  have hB := hs.out
  unfold structB at hB
  split at hB
  · rename_i fs e
    unfold Value.okWide at hv
    rw [e] at hv
    obtain ⟨cs, rfl, _⟩ := hv
    rw [hy]; rfl
  · cases hB⟩
def allB (w : World) : Foot := (List.range w.heap.size).filterMap fun b => (w.heap[b]?).map fun o => (b, o)
theorem mem_allB {w : World} {b : Nat} {o : Obj} : (b, o) ∈ allB w ↔ w.heap[b]? = some o := by
  simp only [allB, List.mem_filterMap, List.mem_range, Option.map_eq_some_iff, Prod.mk.injEq]
  constructor
  · rintro ⟨a, _, o', h, rfl, rfl⟩; exact h
  · intro h; exact ⟨b, (Array.getElem?_eq_some_iff.1 h).1, o, h, rfl, rfl⟩
theorem SL.all (w : World) : SL w (allB w) [] w := SL.start fun b o h => mem_allB.1 h
theorem SlI.all {w : World} {s : SV} {α : Type} [e : Enc α] {xs : List α} (h : RdW w s xs) : SlI (allB w) s α e xs := ⟨fun u hu => ⟨h.len, h.cap, h.plain, fun i k v hi hv => by
  have := h.cells i k v hi hv
  unfold World.cell? at this ⊢
  split at this
  · rename_i c _ _ hb
    rw [hu _ _ (mem_allB.2 hb)]
    exact this
  · cases this⟩⟩
theorem Calls.below {P : Program} {f : FuncId} {args : Array Value} {w : World} {I : Foot} {L : List HP} (h : Tr P f args (SL w (allB w) []) (fun _ : Unit => .bool true) (fun _ => SL w I L)) : Calls P f args w fun e w' => e = .returned (.bool true) ∧ Below w.heap.size w w' :=
  (h w (SL.all w)).mono fun e w' ⟨_, he, hs⟩ => ⟨he, hs.below⟩
end Go.Fw
namespace Go.Fw
open Go Go.RowKit
set_option linter.unusedVariables false
set_option linter.unusedSimpArgs false
def kb (b : UInt8) : KInt .u8 := (b.toNat : Int)
theorem kb_cells (b : UInt8) : Enc.cells (kb b) = [.int .u8 b.toNat] := rfl
def bytesK (t : ByteArray) : List (KInt .u8) := t.data.toList.map kb
theorem bytesK_len (t : ByteArray) : (bytesK t).length = t.size := (List.length_map _).trans Array.length_toList
class IsBytes (xs : List (KInt .u8)) (t : outParam ByteArray) : Prop where
  out : xs = bytesK t
instance {t : ByteArray} : IsBytes (bytesK t) t := ⟨rfl⟩
theorem flat_bytes : ∀ l : List UInt8, flat (l.map kb) = l.map fun b => Value.int .u8 (b.toNat : Int)
  | [] => rfl
  | b :: l => by
    have := flat_bytes l
    unfold flat at this ⊢
    rw [List.map_cons, List.flatMap_cons, this, List.map_cons, kb_cells]; rfl
theorem flat_bytesK (t : ByteArray) : flat (bytesK t) = t.data.toList.map fun b => Value.int .u8 (b.toNat : Int) := flat_bytes _
def SV.upto (s : SV) (h : Int) : SV := ⟨s.a, h.toNat, s.cap⟩
def OwnC (e : TypeId) (sz : Nat) (s : SV) : HP := fun R => s.n ≤ s.cap ∧ ∃ xs, OwnR e sz (.slice s.a s.n s.cap) s.n xs R
section
variable {P : Program} {ρ : Env} {A : World → Prop} {ty : TypeId} {w0 : World} {I : Foot} {L L' : List HP}
theorem own_c {α : Type} [Enc α] {e : TypeId} {s : SV} {xs : List α} {R : Foot} (h : OwnS e s xs R) : s.n = xs.length ∧ OwnC e (Enc.sz α) s R := by
  refine ⟨OwnR.len h, ?_, _, h⟩
  rcases h.2 with ⟨h1, h2, h3⟩ | ⟨g, cap, cur, h1, h2, h3, h4, h5, h6⟩
  · cases s; cases h1; exact Nat.le_refl _
  · cases s; cases h1; exact h2
theorem Ent.ownC {α : Type} [Enc α] {e : TypeId} {s : SV} {xs : List α} : Ent (OwnS e s xs :: L) (OwnC e (Enc.sz α) s :: L) := Ent.of fun R h => (own_c h).2
theorem SL.facts {α : Type} [Enc α] {e : TypeId} {s : SV} {xs : List α} {w : World} (h : SL w0 I (OwnS e s xs :: L) w) : s.n = xs.length ∧ s.n ≤ s.cap := by
  obtain ⟨H, R, Rs, h1, h2, h3, h4⟩ := h.uncons
  exact ⟨(own_c h2).1, (own_c h2).2.1⟩
theorem WPA.facts {ro : Option Nat} {n : Nat} {Q : Hnd} {c : Code} {α : Type} {en : Enc α} {e : TypeId} {s : SV} {xs : List α} [hA : InSL A w0 I L] (ho : Ent L (OwnS e s xs :: L')) (k : s.n = xs.length ∧ s.n ≤ s.cap → WPA ro P n c Q ρ A) : WPA ro P n c Q ρ A := fun m a w ha hw => k (ho.sl (hA.out w hw)).facts m a w ha hw
theorem Ent.cResize {e : TypeId} {sz : Nat} {s : SV} {n : Nat} (h : n ≤ s.cap) : Ent (OwnC e sz s :: L) (OwnC e sz ⟨s.a, n, s.cap⟩ :: L) := Ent.of fun R hR => by
  obtain ⟨hc, xs, hl, hr⟩ := hR
  refine ⟨h, ?_⟩
  rcases hr with ⟨h1, h2, h3⟩ | ⟨g, cap, cur, h1, h2, h3, h4, h5, h6⟩
  · cases s with
    | mk a k c =>
      cases h1
      have : n = 0 := by simp only at h; omega
      subst this
      exact ⟨[], by simp, .inl ⟨rfl, rfl, h3⟩⟩
  · cases s with
    | mk a k c =>
      cases h1
      have hle : n * sz ≤ c * sz := Nat.mul_le_mul_right _ h
      exact ⟨cur.toList.take (n * sz), by rw [List.length_take, Array.length_toList, h4]; exact Nat.min_eq_left hle, .inr ⟨g, c, cur, rfl, h, h3, h4, rfl, h6⟩⟩
theorem Ent.cUp {e : TypeId} {sz : Nat} {s : SV} {h : Int} (h0 : 0 ≤ h ∧ h ≤ s.cap) : Ent (OwnC e sz s :: L) (OwnC e sz (s.upto h) :: L) := Ent.cResize (n := h.toNat) (by omega)
theorem Ent.cNone {α : Type} [Enc α] {e : TypeId} {s : SV} (h : s.n = 0) : Ent (OwnC e (Enc.sz α) s :: L) (OwnS e s ([] : List α) :: L) := Ent.of fun R hR => by
  obtain ⟨hc, xs, hl, hr⟩ := hR
  have : xs = [] := by rw [h] at hl; simpa using hl
  subst this
  exact ⟨by simp [h, flat], hr⟩
class FindC (L : List HP) (s : SV) (e : outParam TypeId) (sz : outParam Nat) (L' : outParam (List HP)) : Prop where
  out : Ent L (OwnC e sz s :: L')
instance {s : SV} {e : TypeId} {sz : Nat} : FindC (OwnC e sz s :: L) s e sz L := ⟨Ent.refl⟩
instance (priority := 900) {p : HP} {s : SV} {e : TypeId} {sz : Nat} [h : FindC L s e sz L'] : FindC (p :: L) s e sz (p :: L') := ⟨(Ent.cons h.out).trans Ent.swap⟩
instance (priority := 800) {s : SV} {e : TypeId} {α : Type} {en : Enc α} {xs : List α} {sz : Nat} [h : FindOwn L s e α en xs L'] [hs : SzIs α sz] : FindC L s e sz L' := ⟨by
  have := h.out.trans (Ent.ownC (α := α))
  rw [hs.out] at this; exact this⟩
instance {x : Operand} {t t' e : TypeId} {s : SV} {xs : List (KInt .u8)} {b : ByteArray} [hx : Ev ρ x (.slice s.a s.n s.cap)] [ht : Und P t (.slice e)] [he : Und P e (.int .u8)] [hd : Und P t' .string] [hA : InSL A w0 I L] [hr : RdS I L s (KInt .u8) inferInstance xs] [hb : IsBytes xs b] :
    OpM P ρ A (.convert t t' x) ty (.string b) True := ⟨fun _ => OpP.at fun w hw => by
  have h := hr.out w0 w (hA.out w hw)
  have hn := h.len
  have hbn : xs.length = b.data.toList.length := by rw [hb.out, bytesK_len]; exact Array.length_toList.symm
  intro d pos af g w' hw'
  subst hw'
  have key : (convert t t' (.slice s.a s.n s.cap)).run P w' = .ok (.string b) w' := by
    cases hsa : s.a with
    | none =>
      have hz : s.n = 0 := by
        rcases h.plain with h0 | ⟨b', o, ha⟩
        · omega
        · rw [hsa] at ha; cases ha
      have hb0 : b = ⟨#[]⟩ := by
        have h0 : b.data.toList.length = 0 := by omega
        cases b with
        | mk d => cases d with
          | mk l => cases l with
            | nil => rfl
            | cons x l => simp at h0
      subst hb0
      rw [run_convert_bytes_string w' t t' e none s.n s.cap ht.out he.out hd.out]
      simp [Conv.bytesToString, go_sem]
      rfl
    | some a =>
      have e1 : s.n = b.data.toList.length := by omega
      rw [e1, run_convert_bytes_back w' t t' e a s.cap b.data.toList ht.out he.out hd.out]
      · intro j hj
        have hjx : j < xs.length := by omega
        have hc := h.cells j 0 (.int .u8 (b.data.toList[j].toNat : Int)) hjx (by
          have : xs.getD j Enc.dflt = kb b.data.toList[j] := by
            rw [hb.out]; unfold bytesK
            rw [List.getD_eq_getElem?_getD, List.getElem?_map, List.getElem?_eq_getElem hj]; rfl
          rw [this, kb_cells]; rfl)
        rcases h.plain with h0 | ⟨b', o, ha⟩
        · omega
        · rw [hsa] at ha; cases ha
          simp only [eAddr, hsa, Option.getD_some] at hc
          have ea : (⟨b', o, none⟩ : Addr).add j = ⟨b', o + (j : Int).toNat * Enc.sz (KInt .u8) + 0, none⟩ := by
            have hs : Enc.sz (KInt .u8) = 1 := rfl
            rw [hs]; unfold Addr.add; split <;> simp_all
          rw [ea]; exact hc
  simp only [execOp, hx.out, Sem.run_bind, key, Result.andThen_ok, Sem.run_pure]⟩
theorem extract_all (b : ByteArray) : (b.extract 0 b.size).data = b.data := by
  rw [ByteArray.data_extract]; simp
theorem T_copy {x y : Operand} {t t2 e : TypeId} {z : List Value} {bytes : Nat} {s : SV} {b : ByteArray} [hx : Ev ρ x (.slice s.a s.n s.cap)] [hy : Ev ρ y (.string b)] [ht : Und P t (.slice e)] [hz : Inf P e z 1 bytes] [hA : InSL A w0 I L] [hc : FindC L s e 1 L'] (hn : s.n = b.size) :
    OpT P ρ (.call { callee := .builtin .copy, args := #[x, y], argTypes := #[t, t2] }) ty A fun v w => ∃ u : Unit, v = .int .i64 s.n ∧ SL w0 I (OwnS e s (bytesK b) :: L') w := OpT.sl (val := fun _ : Unit => .int .i64 s.n) (B := fun _ => SL w0 I (OwnS e s (bytesK b) :: L')) fun w hw d pos af g => by
  obtain ⟨H, R, Rs, h1, ⟨h2, xs, hl, hr⟩, h3, h4⟩ := (hc.out.sl hw).uncons
  have hsz : (sizeOf e).run P w = .ok 1 w := by
    obtain ⟨i, hi, hi2⟩ := Option.map_eq_some_iff.1 hz.size
    simp [sizeOf, typeInfo, hi, hi2, go_sem]
  have hmin : Nat.min b.size s.n = b.size := by rw [hn]; exact Nat.min_self _
  have hcells : (((b.extract 0 b.size).data.map fun b => Value.int .u8 b.toNat) : Array Value).toList = flat (bytesK b) := by
    rw [extract_all, flat_bytesK, Array.toList_map]
  rcases hr with ⟨e1, e2, e3⟩ | ⟨gb, cap, cur, e1, e2, e3, e4, e5, e6⟩
  · have ea : s.a = none := by cases s; cases e1; rfl
    have key : (Builtin.copy_ #[t, t2] ty #[.slice s.a s.n s.cap, .string b]).run P w = .ok (.int .i64 s.n) w := by
      unfold Builtin.copy_
      simp only [List.getElem?_toArray, List.getElem?_cons_zero, List.getElem?_cons_succ, Sem.run_bind, run_underlying ht.out, Result.andThen_ok, Builtin.lenOf, Sem.run_pure, hsz, hmin, Builtin.firstCells, ea]
      rw [hn]; rfl
    refine OpU.mono (R := fun v w' => v = .int .i64 s.n ∧ w' = w) ?_ ?_
    · simp only [execOp, resolve, invoke, builtin, Sem.run_bind, Sem.run_pure, Result.andThen_ok, List.map_toArray, List.map_cons, List.map_nil, hx.out, hy.out, key]
      exact ⟨rfl, rfl⟩
    · rintro v w' ⟨rfl, rfl⟩
      refine ⟨(), rfl, SL.cons h1 (R := R) ?_ h3 h4⟩
      have hb0 : b.size = 0 := by omega
      have : bytesK b = [] := List.eq_nil_of_length_eq_zero (by rw [bytesK_len]; exact hb0)
      rw [this]
      exact ⟨by rw [e2]; rfl, .inl ⟨e1, e2, e3⟩⟩
  · cases s with
    | mk a n c =>
      cases e1
      subst e6
      simp only at hn h2 hl e2 hmin ⊢
      have hfl : (flat (bytesK b)).length = b.size := by rw [flat_len, bytesK_len]; exact Nat.mul_one _
      have e4' : cur.size = c := by rw [e4]; exact Nat.mul_one _
      have hle : (flat (bytesK b)).length ≤ cur.size := by omega
      obtain ⟨w', h5, h6⟩ := run_storeMany (P := P) (w := w) (j := 0) (flat (bytesK b)) cur 0 0 w _ h4 rfl (by omega) (flat_one' _)
      have key : (Builtin.copy_ #[t, t2] ty #[.slice (some ⟨gb, 0, none⟩) n c, .string b]).run P w = .ok (.int .i64 n) w' := by
        unfold Builtin.copy_
        simp only [List.getElem?_toArray, List.getElem?_cons_zero, List.getElem?_cons_succ, Sem.run_bind, run_underlying ht.out, Result.andThen_ok, Builtin.lenOf, Sem.run_pure, hsz, hmin, Builtin.firstCells, hcells, h5]
        rw [hn]; rfl
      refine OpU.mono (R := fun v u => v = .int .i64 n ∧ u = w') ?_ ?_
      · simp only [execOp, resolve, invoke, builtin, Sem.run_bind, Sem.run_pure, Result.andThen_ok, List.map_toArray, List.map_cons, List.map_nil, hx.out, hy.out, key]
        exact ⟨rfl, rfl⟩
      · rintro v u ⟨rfl, rfl⟩
        refine ⟨(), rfl, SL.cons h1 (R := [(gb, .cells _ e (0, 0))]) ?_ h3 h6⟩
        refine ⟨by rw [hfl, hn]; exact (Nat.mul_one _).symm, .inr ⟨gb, c, _, rfl, h2, e3, by rw [fold_size, e4]; rfl, ?_, rfl⟩⟩
        have hcur : cur = cur.toList.toArray := by simp
        rw [hcur, fold_put _ _ _ (by simpa using hle)]
        simp only [Nat.add_zero, List.take_zero, List.nil_append]
        show List.take (n * 1) (flat (bytesK b) ++ _) = _
        exact List.take_left' (by rw [hfl, hn, Nat.mul_one])
theorem T_clearC {x : Operand} {t e : TypeId} {z : Value} {sz bytes : Nat} {s : SV} [hx : Ev ρ x (.slice s.a s.n s.cap)] [ht : Und P t (.slice e)] (hi : (P.info? e).map (fun i => (i.zero, i.size, i.bytes)) = some (some z, sz, bytes)) (hzs : z.cells.size = sz) (hz1 : ∀ u ∈ (Builtin.zeroCells z.cells 1).toList, u.oneCell' = true) (hz2 : ∀ n, ∀ u ∈ (Builtin.zeroCells z.cells n).toList, u.oneCell' = true)
    [hA : InSL A w0 I L] [hc : FindC L s e sz L'] : OpT P ρ (.call { callee := .builtin .clear, args := #[x], argTypes := #[t] }) ty A fun v w => ∃ u : Unit, v = .tuple #[] ∧ SL w0 I (OwnC e sz s :: L') w := OpT.sl (val := fun _ : Unit => .tuple #[]) (B := fun _ => SL w0 I (OwnC e sz s :: L')) fun w hw d pos af g => by
  obtain ⟨H, R, Rs, h1, ⟨h2, xs, hr⟩, h3, h4⟩ := (hc.out.sl hw).uncons
  refine (T_clearR (P := P) (ρ := ρ) (ty := ty) ht.out hi hzs hz1 hz2 hr hx.out d pos af g w h4).mono fun v w' ⟨q, hv, ho, hs⟩ => ⟨(), hv, SL.cons h1 (R := q.2) ⟨h2, q.1, ho⟩ h3 hs⟩
section
variable {ro : Option Nat} {n : Nat} {Q : Hnd} {ops : Array Oper} {rest : List Oper} {pos : String} {af : Array Edge} {g : Option (Nat × Bool)} {d : Tmp}
theorem WLA.copy {x y : Operand} {t t2 e : TypeId} {z : List Value} {bytes : Nat} {s : SV} {b : ByteArray} [hx : Ev ρ x (.slice s.a s.n s.cap)] [hy : Ev ρ y (.string b)] [ht : Und P t (.slice e)] [hz : Inf P e z 1 bytes] [hA : InSL A w0 I L] [hc : FindC L s e 1 L'] (hn : s.n = b.size)
    (hw : Region.wanted ⟨some d, .call { callee := .builtin .copy, args := #[x, y], argTypes := #[t, t2] }, ty, pos, af, g⟩ (yieldedE n ops ρ) = true) (hd : Nat.blt d n = true) (k : WLA ro P n ops Q rest (put1 ρ d (.int .i64 s.n)) (SL w0 I (OwnS e s (bytesK b) :: L'))) :
    WLA ro P n ops Q (⟨some d, .call { callee := .builtin .copy, args := #[x, y], argTypes := #[t, t2] }, ty, pos, af, g⟩ :: rest) ρ A :=
  WLA.e hw (T_copy hn) (fun u => by rw [upd_put1 hd]; exact k)
theorem WLA.clear {x : Operand} {t e : TypeId} {z : Value} {sz bytes : Nat} {s : SV} [hx : Ev ρ x (.slice s.a s.n s.cap)] [ht : Und P t (.slice e)] (hi : (P.info? e).map (fun i => (i.zero, i.size, i.bytes)) = some (some z, sz, bytes)) (hzs : z.cells.size = sz) (hz1 : ∀ u ∈ (Builtin.zeroCells z.cells 1).toList, u.oneCell' = true) (hz2 : ∀ n, ∀ u ∈ (Builtin.zeroCells z.cells n).toList, u.oneCell' = true)
    [hA : InSL A w0 I L] [hc : FindC L s e sz L'] (hw : Region.wanted ⟨none, .call { callee := .builtin .clear, args := #[x], argTypes := #[t] }, ty, pos, af, g⟩ (yieldedE n ops ρ) = true) (k : WLA ro P n ops Q rest ρ (SL w0 I (OwnC e sz s :: L'))) :
    WLA ro P n ops Q (⟨none, .call { callee := .builtin .clear, args := #[x], argTypes := #[t] }, ty, pos, af, g⟩ :: rest) ρ A :=
  WLA.e0 hw (T_clearC hi hzs hz1 hz2) (fun u => k)
theorem WLA.reslice {x y : Operand} {t e : TypeId} {z : List Value} {sz bytes : Nat} {s : SV} {kd : IntKind} {h : Int} [hx : Ev ρ x (.slice s.a s.n s.cap)] [hy : Ev ρ y (.int kd h)] [ht : Und P t (.slice e)] [hz : Inf P e z sz bytes] (h0 : 0 ≤ h ∧ h ≤ s.cap)
    (hw : Region.wanted ⟨some d, .slice t x none (some y) none, ty, pos, af, g⟩ (yieldedE n ops ρ) = true) (hd : Nat.blt d n = true) (k : WLA ro P n ops Q rest (put1 ρ d (.slice (s.upto h).a (s.upto h).n (s.upto h).cap)) A) :
    WLA ro P n ops Q (⟨some d, .slice t x none (some y) none, ty, pos, af, g⟩ :: rest) ρ A :=
  WLA.q hw (P_sliceV_h ht.out hz.size hx.out hy.out h0.1 h0.2) (by rw [upd_put1 hd]; exact k)
end
section
variable {ro : Option Nat} {n : Nat} {Q : Hnd} {c : Operand} {x y : Code} {b : Bool} {ops : Array Oper} {rest : List Oper} {op : Op} {pos : String} {af : Array Edge} {dst : Option Tmp} {j : Nat} {t : Tmp} {bc : Bool}
theorem WPA.ifBt [hc : Ev ρ c (.bool b)] (hb : b = true) (h : WPA ro P n x Q ρ A) : WPA ro P n (.cond c x y) Q ρ A := WPA.ifB (fun _ => h) (fun h' => by rw [hb] at h'; cases h')
theorem WPA.ifBf [hc : Ev ρ c (.bool b)] (hb : b = false) (h : WPA ro P n y Q ρ A) : WPA ro P n (.cond c x y) Q ρ A := WPA.ifB (fun h' => by rw [hb] at h'; cases h') (fun _ => h)
theorem WPA.ifBnt [hc : Ev ρ c (.bool (!b))] (hb : b = true) (h : WPA ro P n y Q ρ A) : WPA ro P n (.cond c x y) Q ρ A := WPA.ifBf (by rw [hb]; rfl) h
theorem WPA.ifBnf [hc : Ev ρ c (.bool (!b))] (hb : b = false) (h : WPA ro P n x Q ρ A) : WPA ro P n (.cond c x y) Q ρ A := WPA.ifBt (by rw [hb]; rfl) h
end
def BkI (b : Nat) (t : TypeId) (cs : List Value) : Foot := [(b, .cells cs.toArray t (0, 0))]
theorem Bk.froz {b : Nat} {t : TypeId} {cs : List Value} {R : Foot} (h : Bk b t cs R) : R = BkI b t cs := h
class InI (I : Foot) (b : Nat) (t : outParam TypeId) (cs : outParam (List Value)) : Prop where
  out : (b, .cells cs.toArray t (0, 0)) ∈ I
instance {I : Foot} {b : Nat} {t : TypeId} {cs : List Value} : InI (BkI b t cs ++ I) b t cs := ⟨List.mem_append_left _ (List.mem_singleton.2 rfl)⟩
instance (priority := 900) {R I : Foot} {b : Nat} {t : TypeId} {cs : List Value} [h : InI I b t cs] : InI (R ++ I) b t cs := ⟨List.mem_append_right _ h.out⟩
instance (priority := 900) {x : Operand} {t t' : TypeId} {b i : Nat} {cs : List Value} {v : Value} [hx : Ev ρ x (.pointer (some ⟨b, i, none⟩))] [ht : One P t] [hA : InSL A w0 I L] [hb : InI I b t' cs] [hg : GetL cs i v] :
    OpM P ρ A (.load t x) ty v True := ⟨fun _ => P_load ht.out hx.out fun w hw => cell_of_heap ((hA.out w hw).mem _ _ hb.out) (by simpa using hg.out)⟩
theorem WPA.freezeBk {ro : Option Nat} {n : Nat} {Q : Hnd} {c : Code} {b : Nat} {t : TypeId} {cs : List Value} [hA : InSL A w0 I L] [hb : FindBk L b t cs L'] (k : WPA ro P n c Q ρ (SL w0 (BkI b t cs ++ I) L')) : WPA ro P n c Q ρ A :=
  WPA.mono (fun w hw => hb.out.sl (hA.out w hw)) (WPA.freeze fun R hR => by rw [hR.froz]; exact k)
theorem SL.unI {R I : Foot} {L : List HP} {w : World} (h : SL w0 (R ++ I) L w) : SL w0 I L w := h.sub fun _ hx => List.mem_append_right _ hx
def BytesH (e : TypeId) : List SV → List ByteArray → HP
  | s :: ss, t :: ts => star (OwnS e s (bytesK t)) (BytesH e ss ts)
  | _, _ => fun R => R = []
theorem Ent.intro1 {p : HP} (h : p []) : Ent L (p :: L) := fun Rs hf => ⟨[] :: Rs, [], ⟨h, hf⟩, by simp⟩
theorem BytesH.split {e : TypeId} : ∀ {s1 s2 : List SV} {t1 t2 : List ByteArray} {L : List HP}, s1.length = t1.length → Ent (BytesH e (s1 ++ s2) (t1 ++ t2) :: L) (BytesH e s1 t1 :: BytesH e s2 t2 :: L)
  | [], s2, [], t2, L, _ => Ent.intro1 rfl
  | s :: s1, s2, t :: t1, t2, L, h => by
    simp only [List.cons_append, BytesH]
    refine Ent.unstar.trans ?_
    refine (Ent.cons (BytesH.split (by simpa using h))).trans ?_
    exact Ent.star Ent.refl
  | [], s2, t :: t1, t2, L, h => by simp at h
  | s :: s1, s2, [], t2, L, h => by simp at h
theorem BytesH.join {e : TypeId} : ∀ {s1 s2 : List SV} {t1 t2 : List ByteArray} {L : List HP}, s1.length = t1.length → Ent (BytesH e s1 t1 :: BytesH e s2 t2 :: L) (BytesH e (s1 ++ s2) (t1 ++ t2) :: L)
  | [], s2, [], t2, L, _ => Ent.drop1
  | s :: s1, s2, t :: t1, t2, L, h => by
    simp only [List.cons_append, BytesH]
    refine Ent.unstar.trans ?_
    exact (Ent.cons (BytesH.join (by simpa using h))).trans (Ent.star Ent.refl)
  | [], s2, t :: t1, t2, L, h => by simp at h
  | s :: s1, s2, [], t2, L, h => by simp at h
def BytesX (e : TypeId) (i : Nat) (ss : List SV) (ts : List ByteArray) : HP := star (BytesH e (ss.take i) (ts.take i)) (BytesH e (ss.drop (i + 1)) (ts.drop (i + 1)))
theorem BytesH.focus {e : TypeId} {ss : List SV} {ts : List ByteArray} (i : Nat) (hi : i < ss.length) (hl : ss.length = ts.length) :
    Ent (BytesH e ss ts :: L) (OwnS e (ss[i]) (bytesK (ts[i]'(by omega))) :: BytesX e i ss ts :: L) := by
  have e1 : ss = ss.take i ++ ss[i] :: ss.drop (i + 1) := by rw [List.getElem_cons_drop, List.take_append_drop]
  have e2 : ts = ts.take i ++ ts[i] :: ts.drop (i + 1) := by rw [List.getElem_cons_drop, List.take_append_drop]
  have h0 : Ent (BytesH e ss ts :: L) (BytesH e (ss.take i ++ ss[i] :: ss.drop (i + 1)) (ts.take i ++ ts[i] :: ts.drop (i + 1)) :: L) := by rw [← e1, ← e2]; exact Ent.refl
  refine h0.trans ((BytesH.split (by simp; omega)).trans ?_)
  refine (Ent.cons (Ent.unstar)).trans (Ent.swap.trans (Ent.cons ?_))
  exact Ent.star Ent.refl
theorem BytesH.back {e : TypeId} {ss : List SV} {ts : List ByteArray} {s : SV} {t : ByteArray} (i : Nat) (hi : i < ss.length) (hl : ss.length = ts.length) :
    Ent (OwnS e s (bytesK t) :: BytesX e i ss ts :: L) (BytesH e (ss.set i s) (ts.set i t) :: L) := by
  have e1 : ss.set i s = ss.take i ++ s :: ss.drop (i + 1) := by rw [List.set_eq_take_append_cons_drop, if_pos hi]
  have e2 : ts.set i t = ts.take i ++ t :: ts.drop (i + 1) := by rw [List.set_eq_take_append_cons_drop, if_pos (by omega)]
  rw [e1, e2]
  refine (Ent.cons Ent.unstar).trans (Ent.swap.trans ?_)
  refine (Ent.cons (Ent.star (q := BytesH e (ss.drop (i + 1)) (ts.drop (i + 1))) Ent.refl : Ent (OwnS e s (bytesK t) :: BytesH e (ss.drop (i + 1)) (ts.drop (i + 1)) :: L) (BytesH e (s :: ss.drop (i + 1)) (t :: ts.drop (i + 1)) :: L))).trans ?_
  exact BytesH.join (L := L) (s1 := ss.take i) (t1 := ts.take i) (s2 := s :: ss.drop (i + 1)) (t2 := t :: ts.drop (i + 1)) (by rw [List.length_take, List.length_take]; omega)
theorem BytesH.pad {e : TypeId} {ss : List SV} {ts : List ByteArray} {L : List HP} (h : ss.length = ts.length) : Ent (BytesH e ss ts :: L) (BytesH e (ss ++ [SV.nil]) (ts ++ [⟨#[]⟩]) :: L) :=
  (Ent.cons (Ent.intro1 (p := BytesH e [SV.nil] [⟨#[]⟩]) ⟨[], [], OwnR.nil _ _, rfl, rfl⟩)).trans (BytesH.join h)
end
class Stp (A : Prop) (B : outParam Prop) : Prop where
  out : B → A
theorem Stp.go {A B : Prop} [h : Stp A B] (k : B) : A := h.out k
section
variable {ro : Option Nat} {P : Program} {n N : Nat} {ops : Array Oper} {Q : Hnd} {ρ : Env} {A : World → Prop}
instance {x y : Code} : Stp (WPA ro P n (.seq x y) Q ρ A) (WPA ro P n x (seqQ ro P n y Q) ρ A) := ⟨WPA.seq⟩
instance {y : Code} : Stp (QQ (seqQ ro P n y Q) .normal ρ A) (WPA ro P n y Q ρ A) := ⟨QQ.seq_normal⟩
instance {y : Code} : Stp (QQ (seqQ ro P n y Q) .ret ρ A) (QQ Q .ret ρ A) := ⟨QQ.seq_ret⟩
instance {y : Code} {id : Nat} : Stp (QQ (seqQ ro P n y Q) (.exit id) ρ A) (QQ Q (.exit id) ρ A) := ⟨QQ.seq_exit⟩
instance {id : Nat} : Stp (QQ (blockQ id Q) .normal ρ A) (QQ Q .normal ρ A) := ⟨QQ.block_normal⟩
instance {id : Nat} : Stp (QQ (blockQ id Q) .ret ρ A) (QQ Q .ret ρ A) := ⟨QQ.block_ret⟩
instance (priority := 1100) {id : Nat} : Stp (QQ (blockQ id Q) (.exit id) ρ A) (QQ Q .normal ρ A) := ⟨QQ.block_hit⟩
instance {σ : Type} {C : σ → Env → Prop} {B : σ → World → Prop} {m : σ → Nat} {x : σ} : Stp (QQ (loopQ C B m x Q) .ret ρ A) (QQ Q .ret ρ A) := ⟨QQ.loop_ret⟩
instance {σ : Type} {C : σ → Env → Prop} {B : σ → World → Prop} {m : σ → Nat} {x : σ} {id : Nat} : Stp (QQ (loopQ C B m x Q) (.exit id) ρ A) (QQ Q (.exit id) ρ A) := ⟨QQ.loop_exit⟩
instance : Stp (WPA ro P n .skip Q ρ A) (QQ Q .normal ρ A) := ⟨WPA.skip⟩
instance : Stp (WPA ro P n .ret Q ρ A) (QQ Q .ret ρ A) := ⟨WPA.ret⟩
instance {id : Nat} : Stp (WPA ro P n (.exit id) Q ρ A) (QQ Q (.exit id) ρ A) := ⟨WPA.exit⟩
instance {id : Nat} {c : Code} : Stp (WPA ro P n (.block id c) Q ρ A) (WPA ro P n c (blockQ id Q) ρ A) := ⟨WPA.block⟩
instance {id : Nat} {l : List Oper} : Stp (WPA ro P n (.region id l.toArray false) Q ρ A) (WLA ro P n l.toArray Q l ρ A) := ⟨WPA.region⟩
instance : Stp (WLA ro P n ops Q [] ρ A) (QQ Q .normal ρ A) := ⟨WLA.nil⟩
theorem WPA.dec {c : Operand} {x y : Code} {p : Prop} [hp' : Decidable p] [hc : Ev ρ c (.bool (decide p))] (h : p ∧ WPA ro P n x Q ρ A ∨ ¬ p ∧ WPA ro P n y Q ρ A) : WPA ro P n (.cond c x y) Q ρ A :=
  h.elim (fun h => WPA.ifYes h.1 h.2) fun h => WPA.ifNo h.1 h.2
variable {rest : List Oper} {op : Op} {ty : TypeId} {pos : String} {af : Array Edge} {dst : Option Tmp} {j : Nat} {t : Tmp} {bc : Bool} {d : Tmp} {g : Option (Nat × Bool)} {T : World → Prop} {r : Plan} {v : Value} {p : Prop} [hp' : Decidable p]
theorem WLA.dec (hy : yieldedE n ops ρ j = some (decide p)) (ht : (ops[j]?).bind (·.dst) = some t) (h : p ∧ WLA ro P n ops Q (⟨dst, op, ty, pos, af, some (j, bc)⟩ :: rest) (put1 ρ t (.bool true)) A ∨ ¬ p ∧ WLA ro P n ops Q (⟨dst, op, ty, pos, af, some (j, bc)⟩ :: rest) (put1 ρ t (.bool false)) A) : WLA ro P n ops Q (⟨dst, op, ty, pos, af, some (j, bc)⟩ :: rest) ρ A :=
  h.elim (fun h => WLA.yes hy ht h.1 h.2) fun h => WLA.nay hy ht h.1 h.2
theorem WLA.pk {a b : Operand} [hc : Ev ρ (.tmp t) (.bool (decide p))] (h : p ∧ WLA ro P n ops Q (⟨some d, .pick (.tmp t) a b, ty, pos, af, g⟩ :: rest) (put1 ρ t (.bool true)) A ∨ ¬ p ∧ WLA ro P n ops Q (⟨some d, .pick (.tmp t) a b, ty, pos, af, g⟩ :: rest) (put1 ρ t (.bool false)) A) : WLA ro P n ops Q (⟨some d, .pick (.tmp t) a b, ty, pos, af, g⟩ :: rest) ρ A :=
  h.elim (fun h => WLA.pickT h.1 h.2) fun h => WLA.pickF h.1 h.2
theorem WDQ.dec {m : Nat} (hy : yieldedE N ops ρ j = some (decide p)) (ht : (ops[j]?).bind (·.dst) = some t) (h : p ∧ WDQ ro P N ops Q T m ⟨dst, op, ty, pos, af, some (j, bc)⟩ r (put1 ρ t (.bool true)) A ∨ ¬ p ∧ WDQ ro P N ops Q T m ⟨dst, op, ty, pos, af, some (j, bc)⟩ r (put1 ρ t (.bool false)) A) : WDQ ro P N ops Q T m ⟨dst, op, ty, pos, af, some (j, bc)⟩ r ρ A :=
  h.elim (fun h => WDQ.yes hy ht h.1 h.2) fun h => WDQ.nay hy ht h.1 h.2
end
end Go.Fw
namespace Go.Fw
open Go Go.RowKit
set_option linter.unusedVariables false
set_option linter.unusedSimpArgs false
section
variable {P : Program} {w0 : World} {I : Foot} {L L' : List HP} {A : World → Prop} {rc : LoopState → Option Code → Obj}
theorem WLA.pure {ro : Option Nat} {n : Nat} {Q : Hnd} {ops : Array Oper} {l : List Oper} {ρ : Env} {p : Prop} (k : p → WLA ro P n ops Q l ρ A) : WLA ro P n ops Q l ρ (fun w => p ∧ A w) := fun m a w ha hA => k hA.1 m a w ha hA.2
theorem QQ.midS {l N : Nat} {bd : Code} {Q : Hnd} {ρ : Env} [hA : InSL A w0 I L] [he : FindK L Ob l (rc .ready none) L'] (h : WPA (some l) P N bd Q ρ (SL w0 I (Ob l (rc .busy none) :: L'))) :
    QQ (midQ P l N rc bd Q) .normal ρ A := fun w hw => by
  obtain ⟨h1, h2⟩ := (he.out.sl (hA.out w hw)).mark (o' := rc .busy none)
  exact ⟨h1, fun m a u ha hu => h m a u ha (hu ▸ h2)⟩
theorem QQ.rndN {l : Nat} {R : Bool → World → Prop} {ρ : Env} [hA : InSL A w0 I L] [he : FindK L Ob l (rc .busy none) L'] (h : ∀ w, SL w0 I (Ob l (rc .ready none) :: L') w → R true w) :
    QQ (rndQ l rc R) .normal ρ A := fun w hw => by
  obtain ⟨h1, h2⟩ := (he.out.sl (hA.out w hw)).mark (o' := rc .ready none)
  exact ⟨h1, h _ h2⟩
theorem QQ.rndR {l : Nat} {R : Bool → World → Prop} {ρ : Env} [hA : InSL A w0 I L] [he : FindK L Ob l (rc .busy none) L'] (h : ∀ w, SL w0 I (Ob l (rc .done (some .ret)) :: L') w → R false w) :
    QQ (rndQ l rc R) .ret ρ A := fun w hw => by
  obtain ⟨h1, h2⟩ := (he.out.sl (hA.out w hw)).mark (o' := rc .done (some .ret))
  exact ⟨h1, h _ h2⟩
instance {ρ : Env} {ms : List Nat} {t : Tmp} {v : Value} [h : EvT ρ t v] : EvT ⟨ρ.f, ms⟩ t v := ⟨h.out⟩
theorem agreeP {N : Nat} {ρ : Env} {p : Nat} {v : Value} (hp : Nat.blt p N = true) (tmps : Array Value) (hs : tmps.size = N) (hag : ∀ i, tmps.getD i undef = ρ.f i) :
    Agree N (put1 ⟨ρ.f, []⟩ p v) { tmps := (#[p].zip #[v]).foldl (fun t (p, v) => t.setIfInBounds p v) tmps, defers := [] } := by
  rw [← upd_put1 hp]; exact agree1 tmps hs hag
theorem agreeP2 {N : Nat} {ρ : Env} {p q : Nat} {v u : Value} (hp : Nat.blt p N = true) (hq : Nat.blt q N = true) (tmps : Array Value) (hs : tmps.size = N) (hag : ∀ i, tmps.getD i undef = ρ.f i) :
    Agree N (put1 (put1 ⟨ρ.f, []⟩ p v) q u) { tmps := (#[p, q].zip #[v, u]).foldl (fun t (p, v) => t.setIfInBounds p v) tmps, defers := [] } := by
  rw [← upd_put1 hp, ← upd_put1 hq]; exact agree2 tmps hs hag
theorem YTr.ofS {l N : Nat} {ps : Array Tmp} {as_ bd : Code} {D : Nat} {args : Array Value} {ρ ρ1 : Env} {τ : Type} {B : τ → World → Prop} {val : τ → Bool} (hrc : IsRec rc N ρ ps as_ bd D)
    (hag : ∀ tmps : Array Value, tmps.size = N → (∀ i, tmps.getD i undef = ρ.f i) → Agree N ρ1 { tmps := (ps.zip args).foldl (fun t (p, v) => t.setIfInBounds p v) tmps, defers := [] }) (hps : args.size = ps.size)
    [he : FindK L Ob l (rc .ready none) L']
    (h : WPA (some l) P N as_ (midQ P l N rc bd (rndQ l rc fun b w => ∃ x, val x = b ∧ B x w)) ρ1 (SL w0 I L)) :
    YTr P l args (SL w0 I L) (fun x => .bool (val x)) B := by
  obtain ⟨fn, tmps, hs, hg, rfl⟩ := hrc
  intro w hw
  have hl := ((he.out.sl hw).mark (o' := .deferred none)).1
  refine ⟨fn, _, as_, bd, run_yield hl hps, roundIn_of_wpIn (F := Fence.wide) trivial ?_⟩
  refine wpIn_mono (h 0 _ w (hag tmps hs hg) hw) ?_
  intro e a w1 hq
  cases e with
  | normal =>
    obtain ⟨ρ1, ha1, hl1, hb⟩ := hq
    refine ⟨_, run_beginRound hl1 rfl, wpIn_mono (hb 0 a _ ha1 rfl) ?_⟩
    intro e a2 w2 hq2
    cases e with
    | normal =>
      obtain ⟨_, _, hr, x, hx, hB⟩ := hq2
      exact ⟨_, _, run_endRound none hr, x, (by show _ = Ending.returned (.bool (val x)); rw [hx]; rfl), hB⟩
    | ret =>
      obtain ⟨_, _, hr, x, hx, hB⟩ := hq2
      exact ⟨_, _, run_endRound (some .ret) hr, x, (by show _ = Ending.returned (.bool (val x)); rw [hx]; rfl), hB⟩
    | exit id =>
      obtain ⟨_, _, hr, x, hx, hB⟩ := hq2
      exact ⟨_, _, run_endRound (some (.exit id)) hr, x, (by show _ = Ending.returned (.bool (val x)); rw [hx]; rfl), hB⟩
    | goto t => obtain ⟨_, _, hf⟩ := hq2; exact hf.elim
    | panic c => exact hq2.elim
    | outgrown => exact hq2.elim
  | ret => obtain ⟨_, _, hf⟩ := hq; exact hf.elim
  | exit id => obtain ⟨_, _, hf⟩ := hq; exact hf.elim
  | goto t => obtain ⟨_, _, hf⟩ := hq; exact hf.elim
  | panic c => exact hq.elim
  | outgrown => exact hq.elim
theorem YTr.ent {l : Nat} {args : Array Value} {τ : Type} {val : τ → Value} {B : τ → World → Prop} (h : YTr P l args (SL w0 I L') val B) [e : EntC L L'] : YTr P l args (SL w0 I L) val B :=
  h.conv (fun _ hw => hw.to) fun x w hb => ⟨x, rfl, hb⟩
theorem WPA.rangeS {N : Nat} {g : Operand} {ps : Array Tmp} {as_ bd : Code} {Q : Hnd} {ρ : Env} {gf : FuncId} {caps : List Value} [hA : InSL A w0 I L] [hg : Ev ρ g (.func (.func gf) #[] caps.toArray)] [hf : Callb P gf]
    (h : ∀ (D : Nat) (rc : LoopState → Option Code → Obj), IsRec rc N ρ ps as_ bd D →
      ∃ (τ : Type) (val : τ → Value) (st : τ → LoopState) (jump : τ → Option Code) (L' : τ → List HP),
        Tr P gf (List.toArray (.func (.yield (D + 1)) #[] #[] :: caps)) (SL w0 I (Ob (D + 1) (rc .ready none) :: Ob D (.deferred (some [])) :: L)) val
          (fun x => SL w0 I (Ob (D + 1) (rc (st x) (jump x)) :: L' x)) ∧
        ∀ x, st x ≠ .busy ∧ jumpQ Q ⟨ρ.f, D :: ρ.ms⟩ (SL w0 I (L' x)) (jump x)) :
    WPA none P N (.rangeFunc g ps as_ bd) Q ρ A := by
  intro m a w ha hw
  replace hw := hA.out w hw
  refine wpIn_rangeFunc fun fn _ => ?_
  obtain ⟨τ, val, st, jump, L', hT, hk⟩ := h w.heap.size _ ⟨fn, a.tmps, ha.sz, ha.get, rfl⟩
  have hw1 := (hw.push (.deferred (some [])) (Ob w.heap.size (.deferred (some []))) rfl).push (.loop ⟨.ready, none, fn, a.tmps, ps, as_, bd, w.heap.size⟩) (Ob (w.heap.size + 1) (.loop ⟨.ready, none, fn, a.tmps, ps, as_, bd, w.heap.size⟩)) (by simp [Ob])
  have hen := run_enterLoop_outer (P := P) (w := w) fn a.tmps ps as_ bd
  have hw1' : SL w0 I (Ob (w.heap.size + 1) (.loop ⟨.ready, none, fn, a.tmps, ps, as_, bd, w.heap.size⟩) :: Ob w.heap.size (.deferred (some [])) :: L) ((w.alloc (.deferred (some []))).alloc (.loop ⟨.ready, none, fn, a.tmps, ps, as_, bd, w.heap.size⟩)) := hw1
  generalize (w.alloc (.deferred (some []))).alloc (.loop ⟨.ready, none, fn, a.tmps, ps, as_, bd, w.heap.size⟩) = W1 at hen hw1'
  have hg' : a.eval g = .func (.func gf) #[] caps.toArray := by rw [ha.eval]; exact hg.out
  refine ⟨w.heap.size + 1, [{ target := .collected w.heap.size, args := #[] }], W1, { target := .fn (.func gf) caps.toArray, args := #[.func (.yield (w.heap.size + 1)) #[] #[]] }, W1, gf,
    #[.func (.yield (w.heap.size + 1)) #[] #[]] ++ caps.toArray, W1, hen, ?_, fun _ _ => trivial, ?_, fun h => (by cases h), ?_⟩
  · simp only [resolve, hg']
    simp [go_sem, Deferred.ofValue]
  · simp [invoke, go_sem, run_callFunc hf.out]
  · have e : (#[.func (.yield (w.heap.size + 1)) #[] #[]] ++ caps.toArray : Array Value) = List.toArray (.func (.yield (w.heap.size + 1)) #[] #[] :: caps) := by simp
    rw [e]
    have hc : CallsIn (FR none) (m - 1) P gf _ _ _ := callsIn_wide.2 (hT _ hw1')
    refine hc.mono ?_
    rintro e w3 ⟨x, rfl, hB⟩
    obtain ⟨hst, hj⟩ := hk x
    obtain ⟨hl, hB1⟩ := hB.mark (o' := .loop { (⟨st x, jump x, fn, a.tmps, ps, as_, bd, w.heap.size⟩ : Loop) with state := .exhausted })
    refine ⟨_, _, run_endLoop hl hst, ?_⟩
    have hB2 := Ent.drop1.sl hB1
    have ha2 : Agree N ⟨ρ.f, w.heap.size :: ρ.ms⟩ { a with defers := [{ target := .collected w.heap.size, args := #[] }] ++ a.defers } := ⟨ha.sz, ha.get, by show _ :: a.defers = _; rw [ha.df]; rfl⟩
    generalize jump x = j at hj hB2 hB hl ⊢
    unfold jumpQ at hj
    split at hj
    · exact ⟨_, ha2, hj _ hB2⟩
    · exact wpIn_ret ⟨_, ha2, hj _ hB2⟩
    · exact wpIn_exit ⟨_, ha2, hj _ hB2⟩
    · exact hj.elim
end
end Go.Fw
namespace Go.Fw
open Go Go.RowKit
set_option linter.unusedVariables false
set_option linter.unusedSimpArgs false
class EncI (α : Type) [Enc α] : Prop where
  inj : ∀ x y : α, Enc.cells x = Enc.cells y → x = y
instance : EncI Int := ⟨fun x y h => by injection h with h _; injection h⟩
instance : EncI SV := ⟨fun x y h => by
  injection h with h _; injection h with h1 h2 h3
  cases x; cases y; simp only at h1 h2 h3; rw [h1, h2, h3]⟩
instance {α β : Type} [Enc α] [Enc β] [EncI α] [EncI β] : EncI (α × β) := ⟨fun x y h => by
  have h : Enc.cells x.1 ++ Enc.cells x.2 = Enc.cells y.1 ++ Enc.cells y.2 := h
  have h' := List.append_inj h (by rw [Enc.len, Enc.len])
  exact Prod.ext (EncI.inj _ _ h'.1) (EncI.inj _ _ h'.2)⟩
theorem RdW.det {α : Type} [Enc α] [EncI α] {w : World} {s : SV} {xs ys : List α} (h : RdW w s xs) (k : RdW w s ys) : xs = ys := by
  have hx := h.len
  have hy := k.len
  refine List.ext_getElem (by omega) fun i h1 h2 => EncI.inj _ _ ?_
  have e1 : xs.getD i Enc.dflt = xs[i] := by simp [List.getD_eq_getElem?_getD, h1]
  have e2 : ys.getD i Enc.dflt = ys[i] := by simp [List.getD_eq_getElem?_getD, h2]
  refine List.ext_getElem (by rw [Enc.len, Enc.len]) fun q h3 h4 => ?_
  have a := h.cells i q _ h1 (by rw [e1]; exact List.getElem?_eq_getElem h3)
  have b := k.cells i q _ h2 (by rw [e2]; exact List.getElem?_eq_getElem h4)
  rw [a] at b
  injection b
open Classical in
noncomputable def rd (α : Type) [e : Enc α] (I : Foot) (s : SV) : List α := if h : ∃ xs : List α, SlI I s α e xs then h.choose else []
theorem SlI.rd {α : Type} [e : Enc α] {I : Foot} {s : SV} {xs : List α} (h : SlI I s α e xs) : SlI I s α e (Go.Fw.rd α I s) := by
  unfold Go.Fw.rd
  have hx : ∃ xs : List α, SlI I s α e xs := ⟨xs, h⟩
  rw [dif_pos hx]
  exact hx.choose_spec
theorem SlI.det {α : Type} [e : Enc α] [EncI α] {I : Foot} {s : SV} {xs ys : List α} (h : SlI I s α e xs) (k : SlI I s α e ys) {w0 : World} {L : List HP} {w : World} (hw : SL w0 I L w) : xs = ys :=
  (h.out w fun b o hb => hw.mem b o hb).det (k.out w fun b o hb => hw.mem b o hb)
theorem SlI.sub {α : Type} [e : Enc α] {I I' : Foot} {s : SV} {xs : List α} (h : SlI I s α e xs) [hs : SubI I' I] : SlI I' s α e xs := ⟨fun w hw => h.out w fun b o hb => hw b o (hs.out hb)⟩
theorem SlI.ofLit {α : Type} [e : Enc α] {t : TypeId} {s : SV} {xs : List α} {R : Foot} (h : LitS t s xs R) : SlI R s α e xs := ⟨fun w hw => OwnR.rdW h hw⟩
def RowH {α : Type} [Enc α] (e : TypeId) : List SV → List (List α) → HP
  | s :: ss, t :: ts => star (OwnS e s t) (RowH e ss ts)
  | _, _ => fun R => R = []
theorem RowH.nil {α : Type} [Enc α] {e : TypeId} {L : List HP} : Ent L (RowH e [] ([] : List (List α)) :: L) := Ent.intro1 rfl
theorem RowH.snoc {α : Type} [Enc α] {e : TypeId} {s : SV} {t : List α} : ∀ {ss : List SV} {ts : List (List α)} {L : List HP}, ss.length = ts.length → Ent (OwnS e s t :: RowH e ss ts :: L) (RowH e (ss ++ [s]) (ts ++ [t]) :: L)
  | [], [], L, _ => Ent.star (Ent.cons Ent.drop1 |>.trans (Ent.cons (Ent.intro1 (p := RowH e [] ([] : List (List α))) rfl)))
  | s1 :: ss, t1 :: ts, L, h => by
    simp only [List.cons_append, RowH]
    refine (Ent.cons Ent.unstar).trans (Ent.swap.trans ?_)
    refine (Ent.cons (RowH.snoc (by simpa using h))).trans ?_
    exact Ent.star Ent.refl
  | [], t1 :: ts, L, h => by simp at h
  | s1 :: ss, [], L, h => by simp at h
theorem RowH.frozen {α : Type} [en : Enc α] {e : TypeId} : ∀ {ss : List SV} {ts : List (List α)} {R : Foot}, RowH e ss ts R → ∀ i, i < ss.length → i < ts.length → SlI R (ss.getD i SV.nil) α en (ts.getD i [])
  | s :: ss, t :: ts, R, h, 0, _, _ => by
    obtain ⟨R1, R2, h1, h2, rfl⟩ := h
    have := SlI.ofOwn h1
    simp only [List.getD_cons_zero]
    exact SlI.left
  | s :: ss, t :: ts, R, h, i + 1, hi, hj => by
    obtain ⟨R1, R2, h1, h2, rfl⟩ := h
    have := RowH.frozen h2 i (by simpa using hi) (by simpa using hj)
    simp only [List.getD_cons_succ]
    exact SlI.right
theorem RowH.rdW {α : Type} [en : Enc α] {e : TypeId} {ss : List SV} {ts : List (List α)} {i : Nat} (hi : i < ss.length) (hj : i < ts.length) {I w0 w} {L : List HP} (h : SL w0 I (RowH e ss ts :: L) w) : RdW w (ss.getD i SV.nil) (ts.getD i []) := by
  obtain ⟨R, hR, h1⟩ := h.freeze
  have := RowH.frozen hR i hi hj
  exact (SlI.left (I := I) : SlI (R ++ I) _ _ _ _).out w fun b o hb => h1.mem b o hb
class IsRow {α : Type} (ss : List SV) (ts : List (List α)) (s : SV) (xs : outParam (List α)) : Prop where
  out : ∃ i, i < ss.length ∧ i < ts.length ∧ ss.getD i SV.nil = s ∧ ts.getD i [] = xs
instance OwnIn.row {α : Type} [e : Enc α] {L : List HP} {t : TypeId} {ss : List SV} {ts : List (List α)} {s : SV} {xs : List α} [h : IsRow ss ts s xs] : OwnIn (RowH t ss ts :: L) s α e xs := ⟨fun I w0 w hw => by
  obtain ⟨i, h1, h2, h3, h4⟩ := h.out
  have := RowH.rdW h1 h2 hw
  rw [h3, h4] at this; exact this⟩
section
variable {P : Program} {ρ : Env} {A : World → Prop} {ty : TypeId} {x y : Operand} {t u : TypeId} {k : IntKind} {a b : Int}
theorem addW [h1 : Ev ρ x (.int k a)] [h2 : Ev ρ y (.int k b)] : OpM P ρ A (.binOp .add t x y u) ty (.int k (k.wrap (a + b))) True := ⟨fun _ => P_add h1.out h2.out⟩
theorem convW {src dst : TypeId} {k' : IntKind} [h : Ev ρ x (.int k' a)] [hd : Und P dst (.int k)] [hs : Und P src (.int k')] : OpM P ρ A (.convert src dst x) ty (.int k (k.wrap a)) True := ⟨fun _ => P_convInt hs.out hd.out h.out⟩
end
end Go.Fw
namespace Go.Proofs.YtamnobjdgjbmbaaGreat
open Go Go.Fw
set_option linter.unusedSimpArgs false
theorem mixed : Tryz.prog.follows .mixedOrders = true := by kernel_rfl
instance : Callb Tryz.prog 10 := ⟨by kernel_rfl⟩
instance : Callb Tryz.prog 11 := ⟨by kernel_rfl⟩
instance : Callb Tryz.prog 12 := ⟨by kernel_rfl⟩
instance : Callb Tryz.prog 14 := ⟨by kernel_rfl⟩
instance : Callb Tryz.prog 16 := ⟨by kernel_rfl⟩
instance : Callb Tryz.prog 17 := ⟨by kernel_rfl⟩
instance : Callb Tryz.prog 18 := ⟨by kernel_rfl⟩
instance : Callb Tryz.prog 20 := ⟨by kernel_rfl⟩
instance : Callb Tryz.prog 22 := ⟨by kernel_rfl⟩
instance : Callb Tryz.prog 23 := ⟨by kernel_rfl⟩
instance : Callb Tryz.prog 24 := ⟨by kernel_rfl⟩
instance : Callb Tryz.prog 25 := ⟨by kernel_rfl⟩
instance : Callb Tryz.prog 26 := ⟨by kernel_rfl⟩
instance : Callb Tryz.prog 27 := ⟨by kernel_rfl⟩
instance : Callb Tryz.prog 28 := ⟨by kernel_rfl⟩
instance : Callb Tryz.prog 31 := ⟨by kernel_rfl⟩
instance : Callb Tryz.prog 36 := ⟨by kernel_rfl⟩
instance : Callb Tryz.prog 38 := ⟨by kernel_rfl⟩
instance : Callb Tryz.prog 39 := ⟨by kernel_rfl⟩
instance : Callb Tryz.prog 40 := ⟨by kernel_rfl⟩
instance : Callb Tryz.prog 41 := ⟨by kernel_rfl⟩
instance : Callb Tryz.prog 42 := ⟨by kernel_rfl⟩
instance : Callb Tryz.prog 43 := ⟨by kernel_rfl⟩
instance : Callb Tryz.prog 44 := ⟨by kernel_rfl⟩
instance : Callb Tryz.prog 45 := ⟨by kernel_rfl⟩
instance : Callb Tryz.prog 46 := ⟨by kernel_rfl⟩
instance : Callb Tryz.prog 47 := ⟨by kernel_rfl⟩
instance : Callb Tryz.prog 48 := ⟨by kernel_rfl⟩
instance : Callb Tryz.prog 49 := ⟨by kernel_rfl⟩
instance : Callb Tryz.prog 50 := ⟨by kernel_rfl⟩
instance : Callb Tryz.prog 51 := ⟨by kernel_rfl⟩
instance : Callb Tryz.prog 52 := ⟨by kernel_rfl⟩
instance : Callb Tryz.prog 53 := ⟨by kernel_rfl⟩
instance : Callb Tryz.prog 54 := ⟨by kernel_rfl⟩
instance : Callb Tryz.prog 55 := ⟨by kernel_rfl⟩
instance : Callb Tryz.prog 56 := ⟨by kernel_rfl⟩
instance : Callb Tryz.prog 57 := ⟨by kernel_rfl⟩
instance : Callb Tryz.prog 58 := ⟨by kernel_rfl⟩
instance : Callb Tryz.prog 59 := ⟨by kernel_rfl⟩
instance : Callb Tryz.prog 60 := ⟨by kernel_rfl⟩
instance : Callb Tryz.prog 61 := ⟨by kernel_rfl⟩
instance : Callb Tryz.prog 62 := ⟨by kernel_rfl⟩
instance : Callb Tryz.prog 63 := ⟨by kernel_rfl⟩
instance : Callb Tryz.prog 64 := ⟨by kernel_rfl⟩
instance : Callb Tryz.prog 65 := ⟨by kernel_rfl⟩
instance : Callb Tryz.prog 66 := ⟨by kernel_rfl⟩
instance : Callb Tryz.prog 67 := ⟨by kernel_rfl⟩
instance : Callb Tryz.prog 68 := ⟨by kernel_rfl⟩
instance : Callb Tryz.prog 69 := ⟨by kernel_rfl⟩
instance : Callb Tryz.prog 70 := ⟨by kernel_rfl⟩
instance : Callb Tryz.prog 71 := ⟨by kernel_rfl⟩
instance : Callb Tryz.prog 72 := ⟨by kernel_rfl⟩
instance : Callb Tryz.prog 73 := ⟨by kernel_rfl⟩
instance : Callb Tryz.prog 74 := ⟨by kernel_rfl⟩
instance : Callb Tryz.prog 75 := ⟨by kernel_rfl⟩
instance : Callb Tryz.prog 76 := ⟨by kernel_rfl⟩
instance : Callb Tryz.prog 77 := ⟨by kernel_rfl⟩
instance : Callb Tryz.prog 78 := ⟨by kernel_rfl⟩
instance : Callb Tryz.prog 79 := ⟨by kernel_rfl⟩
instance : Callb Tryz.prog 80 := ⟨by kernel_rfl⟩
instance : Callb Tryz.prog 81 := ⟨by kernel_rfl⟩
instance : Callb Tryz.prog 82 := ⟨by kernel_rfl⟩
instance : Callb Tryz.prog 83 := ⟨by kernel_rfl⟩
instance : Callb Tryz.prog 84 := ⟨by kernel_rfl⟩
instance : Callb Tryz.prog 85 := ⟨by kernel_rfl⟩
instance : Callb Tryz.prog 86 := ⟨by kernel_rfl⟩
instance : Callb Tryz.prog 87 := ⟨by kernel_rfl⟩
instance : Callb Tryz.prog 88 := ⟨by kernel_rfl⟩
instance : Callb Tryz.prog 89 := ⟨by kernel_rfl⟩
instance : Callb Tryz.prog 90 := ⟨by kernel_rfl⟩
instance : Callb Tryz.prog 91 := ⟨by kernel_rfl⟩
instance : Callb Tryz.prog 92 := ⟨by kernel_rfl⟩
instance : Callb Tryz.prog 93 := ⟨by kernel_rfl⟩
instance : Callb Tryz.prog 94 := ⟨by kernel_rfl⟩
instance : Callb Tryz.prog 95 := ⟨by kernel_rfl⟩
instance : Callb Tryz.prog 96 := ⟨by kernel_rfl⟩
instance : Callb Tryz.prog 97 := ⟨by kernel_rfl⟩
instance : Callb Tryz.prog 98 := ⟨by kernel_rfl⟩
instance : Callb Tryz.prog 99 := ⟨by kernel_rfl⟩
instance : Callb Tryz.prog 100 := ⟨by kernel_rfl⟩
instance : Callb Tryz.prog 101 := ⟨by kernel_rfl⟩
instance : Callb Tryz.prog 102 := ⟨by kernel_rfl⟩
instance : Callb Tryz.prog 103 := ⟨by kernel_rfl⟩
instance : Callb Tryz.prog 104 := ⟨by kernel_rfl⟩
instance : Callb Tryz.prog 105 := ⟨by kernel_rfl⟩
instance : Callb Tryz.prog 106 := ⟨by kernel_rfl⟩
instance : Callb Tryz.prog 107 := ⟨by kernel_rfl⟩
instance : Callb Tryz.prog 108 := ⟨by kernel_rfl⟩
instance : Callb Tryz.prog 109 := ⟨by kernel_rfl⟩
instance : Callb Tryz.prog 110 := ⟨by kernel_rfl⟩
instance : Callb Tryz.prog 111 := ⟨by kernel_rfl⟩
instance : Callb Tryz.prog 112 := ⟨by kernel_rfl⟩
instance : Callb Tryz.prog 113 := ⟨by kernel_rfl⟩
instance : Callb Tryz.prog 114 := ⟨by kernel_rfl⟩
instance : Callb Tryz.prog 115 := ⟨by kernel_rfl⟩
instance : Callb Tryz.prog 116 := ⟨by kernel_rfl⟩
instance : Callb Tryz.prog 117 := ⟨by kernel_rfl⟩
instance : Callb Tryz.prog 119 := ⟨by kernel_rfl⟩
instance : Callb Tryz.prog 122 := ⟨by kernel_rfl⟩
instance : Callb Tryz.prog 123 := ⟨by kernel_rfl⟩
instance : Callb Tryz.prog 125 := ⟨by kernel_rfl⟩
instance : Callb Tryz.prog 171 := ⟨by kernel_rfl⟩
instance : Und Tryz.prog 3 (.int .i64) := ⟨Tryz.underlying3⟩
instance : Inf Tryz.prog 3 [.int .i64 0] 1 8 := ⟨by kernel_rfl⟩
instance : One Tryz.prog 3 := ⟨by kernel_rfl⟩
instance : Phys Tryz.prog 3 Int inferInstance := ⟨trivial⟩
instance : Inf Tryz.prog 4 [.bool false] 1 1 := ⟨by kernel_rfl⟩
instance : One Tryz.prog 4 := ⟨by kernel_rfl⟩
instance : Phys Tryz.prog 4 Bool inferInstance := ⟨trivial⟩
instance : Und Tryz.prog 5 (.int .u8) := ⟨Tryz.underlying5⟩
instance : Inf Tryz.prog 5 [.int .u8 0] 1 1 := ⟨by kernel_rfl⟩
instance : Phys Tryz.prog 5 (KInt .u8) inferInstance := ⟨trivial⟩
instance : Und Tryz.prog 9 (.string) := ⟨Tryz.underlying9⟩
instance : Inf Tryz.prog 9 [.string ⟨#[]⟩] 1 16 := ⟨by kernel_rfl⟩
instance : One Tryz.prog 9 := ⟨by kernel_rfl⟩
instance : Phys Tryz.prog 9 ByteArray inferInstance := ⟨trivial⟩
instance : Und Tryz.prog 23 (.slice 27) := ⟨Tryz.underlying23⟩
instance : Und Tryz.prog 27 (.slice 84) := ⟨Tryz.underlying27⟩
instance : Inf Tryz.prog 27 [.slice none 0 0] 1 24 := ⟨by kernel_rfl⟩
instance : One Tryz.prog 27 := ⟨by kernel_rfl⟩
instance : Phys Tryz.prog 27 SV inferInstance := ⟨trivial⟩
instance : Und Tryz.prog 29 (.pointer 93) := ⟨Tryz.underlying29⟩
instance : One Tryz.prog 29 := ⟨by kernel_rfl⟩
instance : Inf Tryz.prog 30 [.int .i64 0] 1 8 := ⟨by kernel_rfl⟩
instance : One Tryz.prog 30 := ⟨by kernel_rfl⟩
instance : Und Tryz.prog 34 (.slice 9) := ⟨Tryz.underlying34⟩
instance : Inf Tryz.prog 34 [.slice none 0 0] 1 24 := ⟨by kernel_rfl⟩
instance : One Tryz.prog 34 := ⟨by kernel_rfl⟩
instance : Und Tryz.prog 35 (.slice 4) := ⟨Tryz.underlying35⟩
instance : Inf Tryz.prog 35 [.slice none 0 0] 1 24 := ⟨by kernel_rfl⟩
instance : One Tryz.prog 35 := ⟨by kernel_rfl⟩
instance : Und Tryz.prog 38 (.slice 44) := ⟨Tryz.underlying38⟩
instance : Inf Tryz.prog 38 [.slice none 0 0] 1 24 := ⟨by kernel_rfl⟩
instance : One Tryz.prog 38 := ⟨by kernel_rfl⟩
instance : Und Tryz.prog 39 (.slice 49) := ⟨Tryz.underlying39⟩
instance : Und Tryz.prog 42 (.slice 3) := ⟨Tryz.underlying42⟩
instance : Inf Tryz.prog 42 [.slice none 0 0] 1 24 := ⟨by kernel_rfl⟩
instance : One Tryz.prog 42 := ⟨by kernel_rfl⟩
instance : Phys Tryz.prog 42 SV inferInstance := ⟨trivial⟩
instance : Inf Tryz.prog 44 [.int .i64 0, .int .i64 0, .slice none 0 0] 3 40 := ⟨by kernel_rfl⟩
instance : Agg Tryz.prog 44 3 := ⟨by kernel_rfl⟩
instance : Phys Tryz.prog 44 (Int × Int × SV) inferInstance := ⟨trivial⟩
instance : Inf Tryz.prog 49 [.slice none 0 0, .slice none 0 0] 2 48 := ⟨by kernel_rfl⟩
instance : Agg Tryz.prog 49 2 := ⟨by kernel_rfl⟩
instance : Phys Tryz.prog 49 (SV × SV) inferInstance := ⟨trivial⟩
instance : Und Tryz.prog 61 (.slice 42) := ⟨Tryz.underlying61⟩
instance : Agg Tryz.prog 63 3 := ⟨by kernel_rfl⟩
instance : Inf Tryz.prog 66 [.int .i64 0, .int .i64 0, .int .i64 0, .int .i64 0] 4 32 := ⟨by kernel_rfl⟩
instance : Agg Tryz.prog 66 4 := ⟨by kernel_rfl⟩
instance : Inf Tryz.prog 73 [.int .i64 0, .int .i64 0, .int .i64 0, .int .i64 0] 4 32 := ⟨by kernel_rfl⟩
instance : Agg Tryz.prog 73 4 := ⟨by kernel_rfl⟩
instance : Inf Tryz.prog 84 [.slice none 0 0, .int .i64 0] 2 32 := ⟨by kernel_rfl⟩
instance : Agg Tryz.prog 84 2 := ⟨by kernel_rfl⟩
instance : Phys Tryz.prog 84 (SV × Int) inferInstance := ⟨trivial⟩
instance : Und Tryz.prog 90 (.int .u64) := ⟨Tryz.underlying90⟩
instance : Und Tryz.prog 91 (.slice 187) := ⟨Tryz.underlying91⟩
instance : Inf Tryz.prog 91 [.slice none 0 0] 1 24 := ⟨by kernel_rfl⟩
instance : One Tryz.prog 91 := ⟨by kernel_rfl⟩
instance : Und Tryz.prog 108 (.pointer 158) := ⟨Tryz.underlying108⟩
instance : One Tryz.prog 108 := ⟨by kernel_rfl⟩
instance : Und Tryz.prog 115 (.pointer 118) := ⟨Tryz.underlying115⟩
instance : Und Tryz.prog 116 (.slice 5) := ⟨Tryz.underlying116⟩
instance : Inf Tryz.prog 116 [.slice none 0 0] 1 24 := ⟨by kernel_rfl⟩
instance : One Tryz.prog 116 := ⟨by kernel_rfl⟩
instance : Inf Tryz.prog 125 [.pointer none] 1 8 := ⟨by kernel_rfl⟩
instance : One Tryz.prog 125 := ⟨by kernel_rfl⟩
instance : Und Tryz.prog 133 (.pointer 174) := ⟨Tryz.underlying133⟩
instance : Inf Tryz.prog 133 [.pointer none] 1 8 := ⟨by kernel_rfl⟩
instance : One Tryz.prog 133 := ⟨by kernel_rfl⟩
instance : Inf Tryz.prog 136 [.slice none 0 0, .int .i64 0] 2 32 := ⟨by kernel_rfl⟩
instance : Agg Tryz.prog 136 2 := ⟨by kernel_rfl⟩
instance : Und Tryz.prog 145 (.map 3 3) := ⟨Tryz.underlying145⟩
instance : Und Tryz.prog 149 (.pointer 151) := ⟨Tryz.underlying149⟩
instance : Inf Tryz.prog 149 [.pointer none] 1 8 := ⟨by kernel_rfl⟩
instance : One Tryz.prog 149 := ⟨by kernel_rfl⟩
instance : Inf Tryz.prog 151 [.pointer none, .slice none 0 0] 2 32 := ⟨by kernel_rfl⟩
instance : Und Tryz.prog 163 (.int .u64) := ⟨Tryz.underlying163⟩
instance : Und Tryz.prog 167 (.slice 169) := ⟨Tryz.underlying167⟩
instance : Inf Tryz.prog 167 [.slice none 0 0] 1 24 := ⟨by kernel_rfl⟩
instance : One Tryz.prog 167 := ⟨by kernel_rfl⟩
instance : Inf Tryz.prog 169 [.nilFunc] 1 8 := ⟨by kernel_rfl⟩
instance : One Tryz.prog 169 := ⟨by kernel_rfl⟩
instance : Phys Tryz.prog 169 Any inferInstance := ⟨trivial⟩
instance : One Tryz.prog 171 := ⟨by kernel_rfl⟩
instance : Und Tryz.prog 172 (.slice 176) := ⟨Tryz.underlying172⟩
instance : Inf Tryz.prog 172 [.slice none 0 0] 1 24 := ⟨by kernel_rfl⟩
instance : One Tryz.prog 172 := ⟨by kernel_rfl⟩
instance : Inf Tryz.prog 176 [.slice none 0 0, .int .i64 0, .int .i64 0] 3 40 := ⟨by kernel_rfl⟩
instance : Agg Tryz.prog 176 3 := ⟨by kernel_rfl⟩
instance : Phys Tryz.prog 176 ((SV × Int) × Int) inferInstance := ⟨trivial⟩
instance : Inf Tryz.prog 187 [.slice none 0 0, .bool false] 2 32 := ⟨by kernel_rfl⟩
instance : Phys Tryz.prog 187 (SV × Bool) inferInstance := ⟨trivial⟩
instance : Und Tryz.prog 188 (.pointer 5) := ⟨Tryz.underlying188⟩
instance : MkI Tryz.prog 136 := ⟨fun _ _ => by kernel_rfl⟩
instance : StructT Tryz.prog 63 [3, 3, 3] := ⟨by kernel_rfl⟩
instance : FieldO Tryz.prog 37 0 0 := ⟨by kernel_rfl⟩
instance : FieldO Tryz.prog 37 1 1 := ⟨by kernel_rfl⟩
instance : FieldO Tryz.prog 37 2 2 := ⟨by kernel_rfl⟩
instance : FieldO Tryz.prog 37 3 3 := ⟨by kernel_rfl⟩
instance : FieldO Tryz.prog 37 4 4 := ⟨by kernel_rfl⟩
instance : FieldO Tryz.prog 44 0 0 := ⟨by kernel_rfl⟩
instance : FieldO Tryz.prog 44 1 1 := ⟨by kernel_rfl⟩
instance : FieldO Tryz.prog 44 2 2 := ⟨by kernel_rfl⟩
instance : FieldO Tryz.prog 49 0 0 := ⟨by kernel_rfl⟩
instance : FieldO Tryz.prog 49 1 1 := ⟨by kernel_rfl⟩
instance : FieldO Tryz.prog 63 0 0 := ⟨by kernel_rfl⟩
instance : FieldO Tryz.prog 63 1 1 := ⟨by kernel_rfl⟩
instance : FieldO Tryz.prog 63 2 2 := ⟨by kernel_rfl⟩
instance : FieldO Tryz.prog 66 0 0 := ⟨by kernel_rfl⟩
instance : FieldO Tryz.prog 66 1 1 := ⟨by kernel_rfl⟩
instance : FieldO Tryz.prog 66 2 2 := ⟨by kernel_rfl⟩
instance : FieldO Tryz.prog 66 3 3 := ⟨by kernel_rfl⟩
instance : FieldO Tryz.prog 84 0 0 := ⟨by kernel_rfl⟩
instance : FieldO Tryz.prog 84 1 1 := ⟨by kernel_rfl⟩
instance : FieldO Tryz.prog 93 0 0 := ⟨by kernel_rfl⟩
instance : FieldO Tryz.prog 93 1 1 := ⟨by kernel_rfl⟩
instance : FieldO Tryz.prog 93 2 2 := ⟨by kernel_rfl⟩
instance : FieldO Tryz.prog 93 3 3 := ⟨by kernel_rfl⟩
instance : FieldO Tryz.prog 93 4 4 := ⟨by kernel_rfl⟩
instance : FieldO Tryz.prog 93 5 5 := ⟨by kernel_rfl⟩
instance : FieldO Tryz.prog 118 0 0 := ⟨by kernel_rfl⟩
instance : FieldO Tryz.prog 127 0 0 := ⟨by kernel_rfl⟩
instance : FieldO Tryz.prog 127 1 1 := ⟨by kernel_rfl⟩
instance : FieldO Tryz.prog 127 2 2 := ⟨by kernel_rfl⟩
instance : FieldO Tryz.prog 127 3 3 := ⟨by kernel_rfl⟩
instance : FieldO Tryz.prog 127 4 4 := ⟨by kernel_rfl⟩
instance : FieldO Tryz.prog 136 0 0 := ⟨by kernel_rfl⟩
instance : FieldO Tryz.prog 136 1 1 := ⟨by kernel_rfl⟩
instance : FieldO Tryz.prog 151 0 0 := ⟨by kernel_rfl⟩
instance : FieldO Tryz.prog 151 1 1 := ⟨by kernel_rfl⟩
instance : FieldO Tryz.prog 158 0 0 := ⟨by kernel_rfl⟩
instance : FieldO Tryz.prog 158 1 1 := ⟨by kernel_rfl⟩
instance : FieldO Tryz.prog 158 2 2 := ⟨by kernel_rfl⟩
instance : FieldO Tryz.prog 174 0 0 := ⟨by kernel_rfl⟩
instance : FieldO Tryz.prog 174 1 1 := ⟨by kernel_rfl⟩
instance : FieldO Tryz.prog 176 0 0 := ⟨by kernel_rfl⟩
instance : FieldO Tryz.prog 176 1 2 := ⟨by kernel_rfl⟩
instance : FieldO Tryz.prog 187 0 0 := ⟨by kernel_rfl⟩
instance : FieldO Tryz.prog 187 1 1 := ⟨by kernel_rfl⟩
instance : FieldV Tryz.prog 84 0 0 1 true := ⟨_, _, Tryz.underlying84, rfl, rfl, by first | (show oneTy _ _ = true; kernel_rfl) | (show aggTy _ _ = some _; kernel_rfl)⟩
instance : BInfo Tryz.prog 37 [.int .i64 0, .int .i64 0, .slice none 0 0, .slice none 0 0, .int .i64 0] [(0, 1), (1, 1), (2, 1), (3, 1), (4, 1)] := ⟨by kernel_rfl⟩
instance : BInfo Tryz.prog 44 [.int .i64 0, .int .i64 0, .slice none 0 0] [(0, 1), (1, 1), (2, 1)] := ⟨by kernel_rfl⟩
instance : BInfo Tryz.prog 49 [.slice none 0 0, .slice none 0 0] [(0, 1), (1, 1)] := ⟨by kernel_rfl⟩
instance : BInfo Tryz.prog 63 [.int .i64 0, .int .i64 0, .int .i64 0] [(0, 1), (1, 1), (2, 1)] := ⟨by kernel_rfl⟩
instance : BInfo Tryz.prog 66 [.int .i64 0, .int .i64 0, .int .i64 0, .int .i64 0] [(0, 1), (1, 1), (2, 1), (3, 1)] := ⟨by kernel_rfl⟩
instance : BInfo Tryz.prog 84 [.slice none 0 0, .int .i64 0] [(0, 1), (1, 1)] := ⟨by kernel_rfl⟩
instance : BInfo Tryz.prog 93 [.int .i64 0, .int .i64 0, .slice none 0 0, .int .i64 0, .int .i64 0, .int .i64 0] [(0, 1), (1, 1), (2, 1), (3, 1), (4, 1), (5, 1)] := ⟨by kernel_rfl⟩
instance : BInfo Tryz.prog 118 [.slice none 0 0] [(0, 1)] := ⟨by kernel_rfl⟩
instance : BInfo Tryz.prog 127 [.pointer none, .int .i64 0, .slice none 0 0, .slice none 0 0, .int .i64 0] [(0, 1), (1, 1), (2, 1), (3, 1), (4, 1)] := ⟨by kernel_rfl⟩
instance : BInfo Tryz.prog 136 [.slice none 0 0, .int .i64 0] [(0, 1), (1, 1)] := ⟨by kernel_rfl⟩
instance : BInfo Tryz.prog 158 [.string ⟨#[]⟩, .int .i64 0, .int .i64 0] [(0, 1), (1, 1), (2, 1)] := ⟨by kernel_rfl⟩
instance : BInfo Tryz.prog 174 [.slice none 0 0, .int .i64 0] [(0, 1), (1, 1)] := ⟨by kernel_rfl⟩
instance : BInfo Tryz.prog 176 [.slice none 0 0, .int .i64 0, .int .i64 0] [(0, 2), (2, 1)] := ⟨by kernel_rfl⟩
instance : BInfo Tryz.prog 187 [.slice none 0 0, .bool false] [(0, 1), (1, 1)] := ⟨by kernel_rfl⟩
end Go.Proofs.YtamnobjdgjbmbaaGreat
