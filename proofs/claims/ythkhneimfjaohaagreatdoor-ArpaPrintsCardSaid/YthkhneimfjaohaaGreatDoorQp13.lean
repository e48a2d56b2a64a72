/- Texts that ArpaPrints_law leans on, part 13. Conditions: none. -/
import Derived.Test.YthkhneimfjaohaaGreatDoorQp12
namespace Go.Fw
open Go Go.RowKit
set_option linter.unusedVariables false
set_option linter.unusedSimpArgs false
def pan1 (v : Value) : List PanicEntry := [{ v := v, recovered := false }]
def TrX (P : Program) (f : FuncId) (args : Array Value) (A : World → Prop) {τ ε : Type} (val : τ → Value) (B : τ → World → Prop) (pv : ε → Value) (E : ε → World → Prop) : Prop :=
  ∀ w, A w → Calls P f args w fun e w' => (∃ x, e = .returned (val x) ∧ B x w') ∨ ∃ y, e = .panicked (pan1 (pv y)) ∧ E y w'
theorem TrX.conv {P : Program} {f : FuncId} {args : Array Value} {A A' : World → Prop} {τ τ' ε ε' : Type} {val : τ → Value} {val' : τ' → Value} {B : τ → World → Prop} {B' : τ' → World → Prop} {pv : ε → Value} {pv' : ε' → Value} {E : ε → World → Prop} {E' : ε' → World → Prop} (h : TrX P f args A val B pv E)
    (hA : ∀ w, A' w → A w) (hB : ∀ x w, B x w → ∃ x', val x = val' x' ∧ B' x' w) (hE : ∀ x w, E x w → ∃ x', pv x = pv' x' ∧ E' x' w) : TrX P f args A' val' B' pv' E' := fun w hw => (h w (hA w hw)).mono fun e w' he => by
  rcases he with ⟨x, rfl, hb⟩ | ⟨y, rfl, hb⟩
  · obtain ⟨x', h1, h2⟩ := hB x w' hb; exact .inl ⟨x', by rw [h1], h2⟩
  · obtain ⟨x', h1, h2⟩ := hE y w' hb; exact .inr ⟨x', by rw [h1], h2⟩
theorem TrX.ret {P : Program} {f : FuncId} {args : Array Value} {A : World → Prop} {τ ε : Type} {val : τ → Value} {B : τ → World → Prop} {pv : ε → Value} {E : ε → World → Prop} (h : TrX P f args A val B pv E) (hE : ∀ y w, ¬ E y w) : Tr P f args A val B := fun w hw => (h w hw).mono fun e w' he => by
  rcases he with ⟨x, rfl, hb⟩ | ⟨y, rfl, hb⟩
  · exact ⟨x, rfl, hb⟩
  · exact absurd hb (hE y w')
def fnX (P : Program) (fn : Func) (R : Value → World → Prop) (E : List PanicEntry → World → Prop) : Hnd
  | .panic c, ρ, w => ρ.ms = [] ∧ E c w
  | e, ρ, w => fnQ P fn R e ρ w
theorem TrX.intro {P : Program} {A : World → Prop} {f : FuncId} {fn : Func} {c : Code} {args : List Value} {τ ε : Type} {val : τ → Value} {B : τ → World → Prop} {pv : ε → Value} {E : ε → World → Prop} {N : Nat}
    (hf : P.funcs[f]? = some fn) (hb : fn.body = some c) (hn : fn.ntmps = N) (hle : Nat.ble args.length N = true)
    (h : WPA none P N c (fnX P fn (fun v w => ∃ x, v = val x ∧ B x w) fun c w => ∃ y, c = pan1 (pv y) ∧ E y w) (envOf args) A) : TrX P f args.toArray A val B pv E := by
  intro w hA
  subst hn
  refine callsIn_wide.1 (callsIn_of_wp_marks (n := 0) hf hb trivial (wpIn_mono (h (0, []) _ w ⟨?_, ?_, rfl⟩ hA) ?_))
  · have : args.length ≤ fn.ntmps := Nat.le_of_ble_eq_true hle
    simp; omega
  · intro i
    simp only [envOf, Array.getD_eq_getD_getElem?, List.getD_eq_getElem?_getD]
    rw [Array.getElem?_append]
    split
    · rename_i hi; simp
    · rename_i hi
      have : args[i]? = none := by simp at hi; simp [hi]
      rw [this]
      rw [Array.getElem?_replicate]
      split <;> rfl
  · have leave : ∀ (l : List Nat) (w' : World) (tmps : Array Value), closes l w' (fun w => ∃ v, (results fn tmps).run P w = .ok v w ∧ ∃ x, v = val x ∧ B x w) →
        LeavesInM Fence.wide 0 P fn tmps (fun e w' => (∃ x, e = Ending.returned (val x) ∧ B x w') ∨ ∃ y, e = .panicked (pan1 (pv y)) ∧ E y w') (marks l) .returning w' := by
      intro l
      induction l with
      | nil =>
        rintro w' tmps ⟨v, hr, x, rfl, hB⟩
        exact ⟨_, hr, .inl ⟨x, rfl, hB⟩⟩
      | cons D l ih =>
        rintro w' tmps ⟨hD, hk⟩
        exact ⟨(fun h => by cases h), .inl ⟨D, _, rfl, run_takeDeferred hD, ih _ _ hk⟩⟩
    have mono : ∀ (l : List Nat) (w' : World) (K K' : World → Prop), (∀ u, K u → K' u) → closes l w' K → closes l w' K' := by
      intro l
      induction l with
      | nil => intro w' K K' h hk; exact h _ hk
      | cons D l ih => intro w' K K' h hk; exact ⟨hk.1, ih _ _ _ h hk.2⟩
    intro e a w' hq
    cases e with
    | normal => obtain ⟨ρ', ha, hq⟩ := hq; show LeavesInM _ _ _ _ _ _ a.defers _ _; rw [ha.df, List.append_nil]; exact leave _ _ _ (mono _ _ _ _ (fun u ⟨v, hr, hx⟩ => ⟨v, hr _ ha.get, hx⟩) hq)
    | ret => obtain ⟨ρ', ha, hq⟩ := hq; show LeavesInM _ _ _ _ _ _ a.defers _ _; rw [ha.df, List.append_nil]; exact leave _ _ _ (mono _ _ _ _ (fun u ⟨v, hr, hx⟩ => ⟨v, hr _ ha.get, hx⟩) hq)
    | panic c =>
      obtain ⟨ρ', ha, hm, y, rfl, hE⟩ := hq
      show LeavesInM _ _ _ _ _ _ a.defers _ _
      rw [ha, hm]
      exact .inr ⟨y, rfl, hE⟩
    | outgrown => exact hq.elim
    | exit id => obtain ⟨ρ', ha, hq⟩ := hq; exact hq.elim
    | goto l => obtain ⟨ρ', ha, hq⟩ := hq; exact hq.elim
section
variable {ro : Option Nat} {P : Program} {n : Nat} {Q : Hnd} {ρ : Env} {A : World → Prop} {ops : Array Oper} {rest : List Oper} {op : Op} {ty : TypeId} {pos : String} {af : Array Edge} {g : Option (Nat × Bool)} {d : Tmp}
theorem semAt_of_OpX {o : Oper} {ev : Operand → Value} {w : World} {R : Value → World → Prop} {E : List PanicEntry → World → Prop} (hc : ∀ c, o.op ≠ .defer c) : o.semAt ro ev = execOp ev o :=
  Oper.semAt_eq ro ev o fun c h => absurd h (hc c)
theorem WLA.genX {dst : Option Tmp} {R : Value → World → Prop} {E : List PanicEntry → World → Prop} (hw : Region.wanted ⟨dst, op, ty, pos, af, g⟩ (yieldedE n ops ρ) = true) (hd : ∀ c, op ≠ .defer c)
    (h : ∀ w, A w → OpX P R E ((execOp (evalE ρ) ⟨dst, op, ty, pos, af, g⟩).run P w))
    (k : ∀ v, WLA ro P n ops Q rest (updO n ρ dst v) (R v)) (hp : ∀ c w, E c w → Q (.panic c) ρ w) : WLA ro P n ops Q (⟨dst, op, ty, pos, af, g⟩ :: rest) ρ A := by
  intro m a w ha hA
  refine wpListIn_step fun K hK => ?_
  rw [ha.yielded, if_pos hw]
  unfold Oper.wpIn
  rw [ha.eval]
  have hU := h w hA
  refine ⟨fun _ _ => trivial, ?_⟩
  show Oper.uponIn (FR ro) m.1 P _ a K _ (Sem.run P (Oper.semAt ro (evalE ρ) _) w)
  rw [semAt_of_OpX (R := R) (E := E) (w := w) (o := ⟨dst, op, ty, pos, af, g⟩) hd]
  exact upon_of_OpX hU (fun v w' hR => hK _ _ (k v _ _ _ (ha.put _ _) hR)) fun c w' hE => ⟨ρ, ha.df, hp c w' hE⟩
variable {w0 : World} {I : Foot} {L : List HP} {τ ε : Type} {val : τ → Value} {B : τ → World → Prop} {pv : ε → Value} {E : ε → World → Prop} {f : FuncId} {args : List Operand} {vs : List Value} {argTypes : Array TypeId}
theorem opx_call [hv : EvAll ρ args vs] [hf : Callb P f] [hA : InSL A w0 I L] {dst : Option Tmp} (hc : TrX P f vs.toArray (SL w0 I L) val B pv E) : ∀ w, A w → OpX P (fun v w => ∃ x, v = val x ∧ B x w) (fun c w => ∃ y, c = pan1 (pv y) ∧ E y w) ((execOp (evalE ρ) ⟨dst, .call { callee := .value (.func f), args := args.toArray, argTypes := argTypes }, ty, pos, af, g⟩).run P w) := by
  intro w hw
  have e : args.toArray.map (evalE ρ) = vs.toArray := by simp [← hv.out]
  have e1 : (execOp (evalE ρ) ⟨dst, .call { callee := .value (.func f), args := args.toArray, argTypes := argTypes }, ty, pos, af, g⟩).run P w = .ok (.enter f vs.toArray) w := by
    rw [← e]
    simp [execOp, resolve, evalE, Deferred.ofValue, invoke, run_callFunc hf.out, go_sem]
  rw [e1]
  refine (hc w (hA.out w hw)).mono fun e w' he => ?_
  rcases he with ⟨x, rfl, hb⟩ | ⟨y, rfl, hb⟩
  · exact .inl ⟨_, rfl, x, rfl, hb⟩
  · exact .inr ⟨_, rfl, y, rfl, hb⟩
theorem WLA.callX [hv : EvAll ρ args vs] [hf : Callb P f] [hA : InSL A w0 I L] (hw : Region.wanted ⟨some d, .call { callee := .value (.func f), args := args.toArray, argTypes := argTypes }, ty, pos, af, g⟩ (yieldedE n ops ρ) = true) (hd : Nat.blt d n = true)
    (hc : TrX P f vs.toArray (SL w0 I L) val B pv E) (hp : ∀ y, QQ Q (.panic (pan1 (pv y))) ρ (E y)) (k : ∀ x, WLA ro P n ops Q rest (put1 ρ d (val x)) (B x)) : WLA ro P n ops Q (⟨some d, .call { callee := .value (.func f), args := args.toArray, argTypes := argTypes }, ty, pos, af, g⟩ :: rest) ρ A :=
  WLA.genX hw (fun c h => by cases h) (opx_call hc) (fun v => by
    intro m a w ha ⟨x, e, hB⟩; subst e
    have := k x m a w
    rw [← upd_put1 hd] at this
    exact this ha hB) fun c w ⟨y, e, hE⟩ => e ▸ hp y w hE
theorem WLA.callX0 [hv : EvAll ρ args vs] [hf : Callb P f] [hA : InSL A w0 I L] (hw : Region.wanted ⟨none, .call { callee := .value (.func f), args := args.toArray, argTypes := argTypes }, ty, pos, af, g⟩ (yieldedE n ops ρ) = true)
    (hc : TrX P f vs.toArray (SL w0 I L) val B pv E) (hp : ∀ y, QQ Q (.panic (pan1 (pv y))) ρ (E y)) (k : ∀ x, WLA ro P n ops Q rest ρ (B x)) : WLA ro P n ops Q (⟨none, .call { callee := .value (.func f), args := args.toArray, argTypes := argTypes }, ty, pos, af, g⟩ :: rest) ρ A :=
  WLA.genX hw (fun c h => by cases h) (opx_call hc) (fun v => by intro m a w ha ⟨x, e, hB⟩; exact k x m a w ha hB) fun c w ⟨y, e, hE⟩ => e ▸ hp y w hE
theorem WLA.throw {x : Operand} {t : TypeId} {v : Value} {dst : Option Tmp} [hx : Ev ρ x (.iface t v)] (hw : Region.wanted ⟨dst, .panic x, ty, pos, af, g⟩ (yieldedE n ops ρ) = true) (hp : QQ Q (.panic (pan1 (.iface t v))) ρ A) : WLA ro P n ops Q (⟨dst, .panic x, ty, pos, af, g⟩ :: rest) ρ A :=
  WLA.genX (R := fun _ _ => False) (E := fun c w => c = pan1 (.iface t v) ∧ A w) hw (fun c h => by cases h) (fun w hA => by
    have e1 : (execOp (evalE ρ) ⟨dst, .panic x, ty, pos, af, g⟩).run P w = .halt (.panic (.iface t v)) w := by
      simp [execOp, hx.out, Instr.panic, go_sem, Result.andThen]
    rw [e1]; exact ⟨rfl, hA⟩) (fun v m a w ha h => h.elim) fun c w ⟨e, hA⟩ => e ▸ hp w hA
end
theorem QQ.thrown {P : Program} {fn : Func} {ρ : Env} {A : World → Prop} {R : Value → World → Prop} {ε : Type} {pv : ε → Value} {E : ε → World → Prop} {c : List PanicEntry} (y : ε) (hc : c = pan1 (pv y)) (hB : ∀ w, A w → E y w) (hmk : ρ.ms = [] := by rfl) :
    QQ (fnX P fn R fun c w => ∃ y, c = pan1 (pv y) ∧ E y w) (.panic c) ρ A := fun w hA => ⟨hmk, y, hc, hB w hA⟩
theorem QQ.fnX_ret {P : Program} {fn : Func} {ρ : Env} {A : World → Prop} {R : Value → World → Prop} {E : List PanicEntry → World → Prop} (h : QQ (fnQ P fn R) .ret ρ A) : QQ (fnX P fn R E) .ret ρ A := h
theorem QQ.seq_panic {ro : Option Nat} {P : Program} {n : Nat} {y : Code} {Q : Hnd} {c : List PanicEntry} {ρ : Env} {A : World → Prop} (h : QQ Q (.panic c) ρ A) : QQ (seqQ ro P n y Q) (.panic c) ρ A := h
class Pas (Q : Hnd) (Q' : outParam Hnd) : Prop where
  out : ∀ c ρ w, Q' (.panic c) ρ w → Q (.panic c) ρ w
instance {P : Program} {fn : Func} {R : Value → World → Prop} {E : List PanicEntry → World → Prop} : Pas (fnX P fn R E) (fnX P fn R E) := ⟨fun _ _ _ h => h⟩
instance {ro : Option Nat} {P : Program} {n : Nat} {y : Code} {Q Q' : Hnd} [h : Pas Q Q'] : Pas (seqQ ro P n y Q) Q' := ⟨fun c ρ w k => h.out c ρ w k⟩
instance {id : Nat} {Q Q' : Hnd} [h : Pas Q Q'] : Pas (blockQ id Q) Q' := ⟨fun c ρ w k => h.out c ρ w k⟩
instance {σ : Type} {C : σ → Env → Prop} {B : σ → World → Prop} {m : σ → Nat} {x : σ} {Q Q' : Hnd} [h : Pas Q Q'] : Pas (loopQ C B m x Q) Q' := ⟨fun c ρ w k => h.out c ρ w k⟩
theorem QQ.thrw {ρ : Env} {A : World → Prop} {c : List PanicEntry} {Q Q' : Hnd} [h : Pas Q Q'] (k : QQ Q' (.panic c) ρ A) : QQ Q (.panic c) ρ A := fun w hA => h.out _ _ _ (k w hA)
section
variable {ro : Option Nat} {P : Program} {N n : Nat} {ops : Array Oper} {Q : Hnd} {T : World → Prop} {ρ : Env} {A : World → Prop} {r : Plan} {d : Tmp} {ty : TypeId} {pos : String} {af : Array Edge} {g : Option (Nat × Bool)} {w0 : World} {I : Foot} {L : List HP} {τ ε : Type} {val : τ → Value} {B : τ → World → Prop} {pv : ε → Value} {E : ε → World → Prop} {f : FuncId} {args : List Operand} {vs : List Value} {argTypes : Array TypeId}
theorem WDE.callX [hv : EvAll ρ args vs] [hf : Callb P f] [hA : InSL A w0 I L] [hdr : ∀ x, DrC (B x)] (hw : Region.wanted ⟨some d, .call { callee := .value (.func f), args := args.toArray, argTypes := argTypes }, ty, pos, af, g⟩ (yieldedE N ops ρ) = true) (hd : Nat.blt d N = true)
    (hc : TrX P f vs.toArray (SL w0 I L) val B pv E) (hp : ∀ y, QQ Q (.panic (pan1 (pv y))) ρ (E y)) [hT : ∀ x, SubT (B x) T] (hm : ∀ x w, B x w → A w) (k : ∀ x, WDA ro P N ops Q T n r (put1 ρ d (val x)) (B x)) :
    WDE ro P N ops Q T n ⟨some d, .call { callee := .value (.func f), args := args.toArray, argTypes := argTypes }, ty, pos, af, g⟩ r ρ A :=
  fun i hi => ⟨_, τ, val, B, hi, hw, fun w hA => by
    have := opx_call (ρ := ρ) (args := args) (ty := ty) (pos := pos) (af := af) (g := g) (dst := some d) (argTypes := argTypes) hc w hA
    revert this
    generalize (execOp (evalE ρ) _).run P w = rr
    intro this
    cases rr with
    | ok x w => cases x <;> simp only [OpX] at this ⊢ <;> first | exact this | exact Calls.mono this (fun e w' he => he.imp id fun ⟨c, h1, y, h2, h3⟩ => ⟨c, h1, h2 ▸ hp y _ h3⟩)
    | halt x w => cases x <;> simp only [OpX] at this ⊢ <;> first | exact this.elim | (obtain ⟨y, h2, h3⟩ := this; have h2' : pan1 _ = pan1 (pv y) := h2; exact h2 ▸ hp y _ h3),
    fun x => (hdr x).out, fun x => (hT x).out, hm, fun x => by show WDA ro P N ops Q T n r (upd N ρ d (val x)) (B x); rw [upd_put1 hd]; exact k x⟩
theorem WDW.callX [hv : EvAll ρ args vs] [hf : Callb P f] [hA : InSL A w0 I L] [hdr : ∀ x, DrC (B x)] (hw : Region.wanted ⟨some d, .call { callee := .value (.func f), args := args.toArray, argTypes := argTypes }, ty, pos, af, g⟩ (yieldedE N ops ρ) = true) (hd : Nat.blt d N = true)
    (hc : TrX P f vs.toArray (SL w0 I L) val B pv E) (hp : ∀ y, QQ Q (.panic (pan1 (pv y))) ρ (E y)) [hT : ∀ x, SubT (B x) T] (k : ∀ x, WDA ro P N ops Q T n r (put1 ρ d (val x)) (B x)) :
    WDW ro P N ops Q T n ⟨some d, .call { callee := .value (.func f), args := args.toArray, argTypes := argTypes }, ty, pos, af, g⟩ r ρ A :=
  fun i hi => ⟨_, τ, val, B, hi, hw, fun w hA => by
    have := opx_call (ρ := ρ) (args := args) (ty := ty) (pos := pos) (af := af) (g := g) (dst := some d) (argTypes := argTypes) hc w hA
    revert this
    generalize (execOp (evalE ρ) _).run P w = rr
    intro this
    cases rr with
    | ok x w => cases x <;> simp only [OpX] at this ⊢ <;> first | exact this | exact Calls.mono this (fun e w' he => he.imp id fun ⟨c, h1, y, h2, h3⟩ => ⟨c, h1, h2 ▸ hp y _ h3⟩)
    | halt x w => cases x <;> simp only [OpX] at this ⊢ <;> first | exact this.elim | (obtain ⟨y, h2, h3⟩ := this; have h2' : pan1 _ = pan1 (pv y) := h2; exact h2 ▸ hp y _ h3),
    fun x => (hdr x).out, fun x => (hT x).out, fun x => by show WDA ro P N ops Q T n r (upd N ρ d (val x)) (B x); rw [upd_put1 hd]; exact k x⟩
end
end Go.Fw
namespace Go.Proofs.YthkhneimfjaohaaGreatDoor
open Go Go.Fw Go.RowKit
set_option linter.unusedVariables false
set_option linter.unusedSimpArgs false
set_option maxRecDepth 100000
set_option maxHeartbeats 16000000
set_option synthInstance.maxHeartbeats 200000
set_option synthInstance.maxSize 100000
attribute [local irreducible] WPA WLA WDA WDQ WDE QQ seqQ blockQ loopQ fnQ OpP OpT Tr TrP SL SLd OwnS LitS Bk BkE Ob
def wrV (y : Int × Int) : Value := .iface 60 (.agg #[.int .i64 y.1, .int .i64 y.2])
def PsH (P : Nat) (y : ByteArray × Int) : HP := Bk P 64 [.string y.1, .int .i64 y.2]
attribute [local irreducible] fnX TrX
theorem TrX.at {P : Program} {f : FuncId} {args : Array Value} {w0 : World} {I : Foot} {L L1 : List HP} {τ ε : Type} {val : τ → Value} {B : τ → World → Prop} {pv : ε → Value} {E : ε → World → Prop} (h : Ent L L1) (k : TrX P f args (SL w0 I L1) val B pv E) : TrX P f args (SL w0 I L) val B pv E := by
  unfold TrX at k ⊢
  exact fun w hw => k w (h.sl hw)
section
variable {L L' : List HP} {w0 : World} {I : Foot} {s : ByteArray} {P : Nat} {n : Int}
theorem must_ok {x : Option Addr} : Tr Tryz.prog 50 #[.pointer x, .bool true] (SL w0 I L) (fun _ : Unit => .tuple #[]) (fun _ => SL w0 I L) := by
  refine Tr.intro Tryz.func50 rfl Tryz.ntmps50 rfl ?_
  have hbt : (!true) = false := rfl
  repeat' (first | ((rw [hbt])) | ((first | refine WLA.m rfl rfl ?_ ?_ | refine WLA.st rfl ?_ ?_ | refine WLA.x rfl rfl ?_ (fun x => ?_) | refine WLA.x0 rfl ?_ (fun x => ?_)); first | exact trivial | exact rfl | assumption | omega | (refine ⟨?_, ?_⟩ <;> omega) | (simp only [Room, lenS]; omega) | decide | skip) | (refine Stp.go ?_) | (refine WPA.ifT ?_) | (refine WPA.ifF ?_) | ((first | refine WPA.dec ?_); first | refine .inl ⟨by first | assumption | omega | with_reducible rfl | (refine fun h => h ?_; first | assumption | with_reducible rfl) | (simp only [lenS] <;> omega) | decide, ?_⟩ | refine .inr ⟨by first | assumption | omega | with_reducible rfl | (refine fun h => h ?_; first | assumption | with_reducible rfl) | (simp only [lenS] <;> omega) | decide, ?_⟩) | ((first | refine WPA.ifBt ?_ ?_ | refine WPA.ifBnf ?_ ?_); assumption) | ((first | refine WPA.ifBnt ?_ ?_ | refine WPA.ifBf ?_ ?_); assumption) | ((first | refine WPA.ifs ?_ ?_ | refine WPA.ifB ?_ ?_) <;> intro hc))
  exact QQ.endn rfl () rfl fun w h => h
theorem must_no [h : FindK L PsH P (s, n) L'] : TrX Tryz.prog 50 #[.pointer (some ⟨P, 0, none⟩), .bool false] (SL w0 I L) (fun _ : Empty => .tuple #[]) (fun _ _ => False) (fun y : { y : Int × Int // y = (n, 3) } => wrV y.1) (fun _ => SL w0 I (PsH P (s, n) :: L')) := by
  refine TrX.at h.out ?_
  unfold PsH
  refine TrX.intro Tryz.func50 rfl Tryz.ntmps50 rfl ?_
  have hbf : (!false) = true := rfl
  repeat' (first | ((rw [hbf])) | ((refine WLA.throw rfl ?_)) | ((first | refine WLA.m rfl rfl ?_ ?_ | refine WLA.st rfl ?_ ?_ | refine WLA.x rfl rfl ?_ (fun x => ?_) | refine WLA.x0 rfl ?_ (fun x => ?_)); first | exact trivial | exact rfl | assumption | omega | (refine ⟨?_, ?_⟩ <;> omega) | (simp only [Room, lenS]; omega) | decide | skip) | (refine Stp.go ?_) | (refine WPA.ifT ?_) | (refine WPA.ifF ?_) | ((first | refine WPA.dec ?_); first | refine .inl ⟨by first | assumption | omega | with_reducible rfl | (refine fun h => h ?_; first | assumption | with_reducible rfl) | (simp only [lenS] <;> omega) | decide, ?_⟩ | refine .inr ⟨by first | assumption | omega | with_reducible rfl | (refine fun h => h ?_; first | assumption | with_reducible rfl) | (simp only [lenS] <;> omega) | decide, ?_⟩) | ((first | refine WPA.ifBt ?_ ?_ | refine WPA.ifBnf ?_ ?_); assumption) | ((first | refine WPA.ifBnt ?_ ?_ | refine WPA.ifBf ?_ ?_); assumption) | ((first | refine WPA.ifs ?_ ?_ | refine WPA.ifB ?_ ?_) <;> intro hc))
  exact QQ.thrown ⟨(n, 3), rfl⟩ rfl fun w h => h.to
theorem next_ok [h : FindK L PsH P (s, n) L'] (h0 : 0 ≤ atB s 10) (hsz : s.size ≤ 1000000) (hn : 0 ≤ n ∧ n ≤ 1000000) : Tr Tryz.prog 51 #[.pointer (some ⟨P, 0, none⟩)] (SL w0 I L) (fun _ : Unit => .string (befB s 10)) (fun _ => SL w0 I (PsH P (aftB s 10, n + 1) :: L')) := by
  refine Tr.at h.out ?_
  unfold PsH
  refine Tr.intro Tryz.func51 rfl Tryz.ntmps51 rfl ?_
  have hbt : (!true) = false := rfl
  have hc := fun {L : List HP} => Cut_trA (s := s) (c := 10) (w0 := w0) (I := I) (L := L) hsz
  rw [if_pos h0, if_pos h0, decide_eq_true h0] at hc
  repeat' (first | ((rw [hbt])) | ((first | refine WLA.m rfl rfl ?_ ?_ | refine WLA.st rfl ?_ ?_ | refine WLA.x rfl rfl ?_ (fun x => ?_) | refine WLA.x0 rfl ?_ (fun x => ?_)); first | exact trivial | exact rfl | assumption | omega | (refine ⟨?_, ?_⟩ <;> omega) | (simp only [Room, lenS]; omega) | decide | skip) | (refine Stp.go ?_) | (guard_target =~ WLA _ _ _ _ _ (⟨_, .call ⟨.value (.func 73), _, _⟩, _, _, _, _⟩ :: _) _ _; refine WLA.cq rfl rfl (hc) ?_) | (refine WPA.ifT ?_) | (refine WPA.ifF ?_) | ((first | refine WPA.dec ?_); first | refine .inl ⟨by first | assumption | omega | with_reducible rfl | (refine fun h => h ?_; first | assumption | with_reducible rfl) | (simp only [lenS] <;> omega) | decide, ?_⟩ | refine .inr ⟨by first | assumption | omega | with_reducible rfl | (refine fun h => h ?_; first | assumption | with_reducible rfl) | (simp only [lenS] <;> omega) | decide, ?_⟩) | ((first | refine WPA.ifBt ?_ ?_ | refine WPA.ifBnf ?_ ?_); assumption) | ((first | refine WPA.ifBnt ?_ ?_ | refine WPA.ifBf ?_ ?_); assumption) | ((first | refine WPA.ifs ?_ ?_ | refine WPA.ifB ?_ ?_) <;> intro hc))
  exact QQ.end_ rfl () rfl fun w h => h.to
theorem next_no [h : FindK L PsH P (s, n) L'] (h0 : ¬ 0 ≤ atB s 10) (hsz : s.size ≤ 1000000) (hn : 0 ≤ n ∧ n ≤ 1000000) : TrX Tryz.prog 51 #[.pointer (some ⟨P, 0, none⟩)] (SL w0 I L) (fun _ : Empty => .tuple #[]) (fun _ _ => False) (fun y : { y : Int × Int // y = (n + 1, 2) } => wrV y.1) (fun _ => SL w0 I (PsH P (s, n + 1) :: L')) := by
  refine TrX.at h.out ?_
  unfold PsH
  refine TrX.intro Tryz.func51 rfl Tryz.ntmps51 rfl ?_
  have hbf : (!false) = true := rfl
  have hc := fun {L : List HP} => Cut_trA (s := s) (c := 10) (w0 := w0) (I := I) (L := L) hsz
  rw [if_neg h0, if_neg h0, decide_eq_false h0] at hc
  repeat' (first | ((rw [hbf])) | ((refine WLA.throw rfl ?_)) | ((first | refine WLA.m rfl rfl ?_ ?_ | refine WLA.st rfl ?_ ?_ | refine WLA.x rfl rfl ?_ (fun x => ?_) | refine WLA.x0 rfl ?_ (fun x => ?_)); first | exact trivial | exact rfl | assumption | omega | (refine ⟨?_, ?_⟩ <;> omega) | (simp only [Room, lenS]; omega) | decide | skip) | (refine Stp.go ?_) | (guard_target =~ WLA _ _ _ _ _ (⟨_, .call ⟨.value (.func 73), _, _⟩, _, _, _, _⟩ :: _) _ _; refine WLA.cq rfl rfl (hc) ?_) | (refine WPA.ifT ?_) | (refine WPA.ifF ?_) | ((first | refine WPA.dec ?_); first | refine .inl ⟨by first | assumption | omega | with_reducible rfl | (refine fun h => h ?_; first | assumption | with_reducible rfl) | (simp only [lenS] <;> omega) | decide, ?_⟩ | refine .inr ⟨by first | assumption | omega | with_reducible rfl | (refine fun h => h ?_; first | assumption | with_reducible rfl) | (simp only [lenS] <;> omega) | decide, ?_⟩) | ((first | refine WPA.ifBt ?_ ?_ | refine WPA.ifBnf ?_ ?_); assumption) | ((first | refine WPA.ifBnt ?_ ?_ | refine WPA.ifBf ?_ ?_); assumption) | ((first | refine WPA.ifs ?_ ?_ | refine WPA.ifB ?_ ?_) <;> intro hc))
  refine QQ.seq_panic ?_
  exact QQ.thrown ⟨(n + 1, 2), rfl⟩ rfl fun w h => h.to
theorem after_ok {l b : ByteArray} {x : Option Addr} (h1 : hasP l b) (h2 : NumOk (cutP l b)) : Tr Tryz.prog 52 #[.pointer x, .string l, .string b] (SL w0 I L) (fun _ : Unit => .int .i64 (numV (cutP l b))) (fun _ => SL w0 I L) := by
  refine Tr.intro Tryz.func52 rfl Tryz.ntmps52 rfl ?_
  have hc := fun {L : List HP} => CutP_tr (s := l) (p := b) (w0 := w0) (I := I) (L := L)
  have hN := fun {L : List HP} => Number_tr (s := cutP l b) (w0 := w0) (I := I) (L := L)
  rw [decide_eq_true h1] at hc
  rw [(num_yes h2).2] at hN
  repeat' (first | ((first | refine WLA.m rfl rfl ?_ ?_ | refine WLA.st rfl ?_ ?_ | refine WLA.x rfl rfl ?_ (fun x => ?_) | refine WLA.x0 rfl ?_ (fun x => ?_)); first | exact trivial | exact rfl | assumption | omega | (refine ⟨?_, ?_⟩ <;> omega) | (simp only [Room, lenS]; omega) | decide | skip) | (refine Stp.go ?_) | (guard_target =~ WLA _ _ _ _ _ (⟨_, .call ⟨.value (.func 74), _, _⟩, _, _, _, _⟩ :: _) _ _; refine WLA.cq rfl rfl (hc) ?_) | (guard_target =~ WLA _ _ _ _ _ (⟨_, .call ⟨.value (.func 75), _, _⟩, _, _, _, _⟩ :: _) _ _; refine WLA.cq rfl rfl (hN) ?_) | (guard_target =~ WLA _ _ _ _ _ (⟨_, .call ⟨.value (.func 50), _, _⟩, _, _, _, _⟩ :: _) _ _; refine WLA.call rfl rfl (must_ok) ?_; rintro ⟨⟩) | (refine WPA.ifT ?_) | (refine WPA.ifF ?_) | ((first | refine WPA.dec ?_); first | refine .inl ⟨by first | assumption | omega | with_reducible rfl | (refine fun h => h ?_; first | assumption | with_reducible rfl) | (simp only [lenS] <;> omega) | decide, ?_⟩ | refine .inr ⟨by first | assumption | omega | with_reducible rfl | (refine fun h => h ?_; first | assumption | with_reducible rfl) | (simp only [lenS] <;> omega) | decide, ?_⟩) | ((first | refine WPA.ifBt ?_ ?_ | refine WPA.ifBnf ?_ ?_); assumption) | ((first | refine WPA.ifBnt ?_ ?_ | refine WPA.ifBf ?_ ?_); assumption) | ((first | refine WPA.ifs ?_ ?_ | refine WPA.ifB ?_ ?_) <;> intro hc))
  exact QQ.end_ rfl () rfl fun w h => h
theorem after_no {l b : ByteArray} [h : FindK L PsH P (s, n) L'] (h1 : ¬ (hasP l b ∧ NumOk (cutP l b))) : TrX Tryz.prog 52 #[.pointer (some ⟨P, 0, none⟩), .string l, .string b] (SL w0 I L) (fun _ : Empty => .tuple #[]) (fun _ _ => False) (fun y : { y : Int × Int // y = (n, 3) } => wrV y.1) (fun _ => SL w0 I (PsH P (s, n) :: L')) := by
  refine TrX.at h.out ?_
  refine TrX.intro Tryz.func52 rfl Tryz.ntmps52 rfl ?_
  have hc := fun {L : List HP} => CutP_tr (s := l) (p := b) (w0 := w0) (I := I) (L := L)
  have hN := fun {L : List HP} => Number_tr (s := cutP l b) (w0 := w0) (I := I) (L := L)
  by_cases h2 : hasP l b
  · have h3 : ¬ NumOk (cutP l b) := fun k => h1 ⟨h2, k⟩
    rw [decide_eq_true h2] at hc
    rw [(num_no h3).2] at hN
    repeat' (first | ((first | refine WLA.m rfl rfl ?_ ?_ | refine WLA.st rfl ?_ ?_ | refine WLA.x rfl rfl ?_ (fun x => ?_) | refine WLA.x0 rfl ?_ (fun x => ?_)); first | exact trivial | exact rfl | assumption | omega | (refine ⟨?_, ?_⟩ <;> omega) | (simp only [Room, lenS]; omega) | decide | skip) | (refine Stp.go ?_) | (guard_target =~ WLA _ _ _ _ _ (⟨_, .call ⟨.value (.func 74), _, _⟩, _, _, _, _⟩ :: _) _ _; refine WLA.cq rfl rfl (hc) ?_) | (guard_target =~ WLA _ _ _ _ _ (⟨_, .call ⟨.value (.func 75), _, _⟩, _, _, _, _⟩ :: _) _ _; refine WLA.cq rfl rfl (hN) ?_) | (guard_target =~ WLA _ _ _ _ _ (⟨_, .call ⟨.value (.func 50), _, _⟩, _, _, _, _⟩ :: _) _ _; refine WLA.call rfl rfl (must_ok) ?_; rintro ⟨⟩) | (guard_target =~ WLA _ _ _ _ _ (⟨_, .call ⟨.value (.func 50), _, _⟩, _, _, _, _⟩ :: _) _ _; first | (refine WLA.callX rfl rfl (must_no) (by intro y; refine QQ.thrw ?_; exact QQ.thrown y rfl fun w h => h.to) ?_; rintro ⟨⟩) | (refine WLA.callX0 rfl (must_no) (by intro y; refine QQ.thrw ?_; exact QQ.thrown y rfl fun w h => h.to) ?_; rintro ⟨⟩)) | (refine WPA.ifT ?_) | (refine WPA.ifF ?_) | ((first | refine WPA.dec ?_); first | refine .inl ⟨by first | assumption | omega | with_reducible rfl | (refine fun h => h ?_; first | assumption | with_reducible rfl) | (simp only [lenS] <;> omega) | decide, ?_⟩ | refine .inr ⟨by first | assumption | omega | with_reducible rfl | (refine fun h => h ?_; first | assumption | with_reducible rfl) | (simp only [lenS] <;> omega) | decide, ?_⟩) | ((first | refine WPA.ifBt ?_ ?_ | refine WPA.ifBnf ?_ ?_); assumption) | ((first | refine WPA.ifBnt ?_ ?_ | refine WPA.ifBf ?_ ?_); assumption) | ((first | refine WPA.ifs ?_ ?_ | refine WPA.ifB ?_ ?_) <;> intro hc))
  · rw [decide_eq_false h2] at hc
    repeat' (first | ((first | refine WLA.m rfl rfl ?_ ?_ | refine WLA.st rfl ?_ ?_ | refine WLA.x rfl rfl ?_ (fun x => ?_) | refine WLA.x0 rfl ?_ (fun x => ?_)); first | exact trivial | exact rfl | assumption | omega | (refine ⟨?_, ?_⟩ <;> omega) | (simp only [Room, lenS]; omega) | decide | skip) | (refine Stp.go ?_) | (guard_target =~ WLA _ _ _ _ _ (⟨_, .call ⟨.value (.func 74), _, _⟩, _, _, _, _⟩ :: _) _ _; refine WLA.cq rfl rfl (hc) ?_) | (guard_target =~ WLA _ _ _ _ _ (⟨_, .call ⟨.value (.func 50), _, _⟩, _, _, _, _⟩ :: _) _ _; first | (refine WLA.callX rfl rfl (must_no) (by intro y; refine QQ.thrw ?_; exact QQ.thrown y rfl fun w h => h.to) ?_; rintro ⟨⟩) | (refine WLA.callX0 rfl (must_no) (by intro y; refine QQ.thrw ?_; exact QQ.thrown y rfl fun w h => h.to) ?_; rintro ⟨⟩)) | (refine WPA.ifT ?_) | (refine WPA.ifF ?_) | ((first | refine WPA.dec ?_); first | refine .inl ⟨by first | assumption | omega | with_reducible rfl | (refine fun h => h ?_; first | assumption | with_reducible rfl) | (simp only [lenS] <;> omega) | decide, ?_⟩ | refine .inr ⟨by first | assumption | omega | with_reducible rfl | (refine fun h => h ?_; first | assumption | with_reducible rfl) | (simp only [lenS] <;> omega) | decide, ?_⟩) | ((first | refine WPA.ifBt ?_ ?_ | refine WPA.ifBnf ?_ ?_); assumption) | ((first | refine WPA.ifBnt ?_ ?_ | refine WPA.ifBf ?_ ?_); assumption) | ((first | refine WPA.ifs ?_ ?_ | refine WPA.ifB ?_ ?_) <;> intro hc))
theorem piece_tr (hsz : s.size ≤ 1000000) : TrP Tryz.prog 77 #[.string s] (SL w0 I L) (.bool (decide (s ≠ ⟨#[]⟩ ∧ ∀ j : Nat, j < s.size → ¬ BlankP (bt s (j : Int))))) := by
  refine TrP.ofD fun u => Tr.intro Tryz.func77 rfl Tryz.ntmps77 rfl ?_
  repeat' (first | ((first | refine WLA.m rfl rfl ?_ ?_ | refine WLA.st rfl ?_ ?_ | refine WLA.x rfl rfl ?_ (fun x => ?_) | refine WLA.x0 rfl ?_ (fun x => ?_)); first | exact trivial | exact rfl | assumption | omega | (refine ⟨?_, ?_⟩ <;> omega) | (simp only [Room, lenS]; omega) | decide | skip) | (refine Stp.go ?_) | (refine WPA.ifT ?_) | (refine WPA.ifF ?_) | ((first | refine WPA.dec ?_); first | refine .inl ⟨by first | assumption | omega | with_reducible rfl | (refine fun h => h ?_; first | assumption | with_reducible rfl) | (simp only [lenS] <;> omega) | decide, ?_⟩ | refine .inr ⟨by first | assumption | omega | with_reducible rfl | (refine fun h => h ?_; first | assumption | with_reducible rfl) | (simp only [lenS] <;> omega) | decide, ?_⟩) | ((first | refine WPA.ifBt ?_ ?_ | refine WPA.ifBnf ?_ ?_); assumption) | ((first | refine WPA.ifBnt ?_ ?_ | refine WPA.ifBf ?_ ?_); assumption) | ((first | refine WPA.ifs ?_ ?_ | refine WPA.ifB ?_ ?_) <;> intro hc))
  refine WPA.loopS (σ := Nat) (fun j => [(0, .string s), (3, .int .i64 j)]) (fun j => j ≤ s.size ∧ ∀ i : Nat, i < j → ¬ BlankP (bt s (i : Int))) (fun _ => SLd w0 I L u) (fun j => s.size - j) 0 ⟨rfl, rfl, trivial⟩ ⟨Nat.zero_le _, fun i hi => absurd hi (Nat.not_lt_zero i)⟩ (fun w h => h) ?_
  rintro j ρ ⟨hj, hD⟩
  have hB := fun {L : List HP} => Blank_tr (c := bt s (j : Int)) (w0 := w0) (I := I) (L := L)
  by_cases hlt : j < s.size
  · have hlt' : (j : Int) < s.size := by omega
    have hir : (0 : Int) ≤ j ∧ (j : Int) < s.size := by omega
    by_cases hb : BlankP (bt s (j : Int))
    · rw [decide_eq_true hb] at hB
      rw [decide_eq_false fun k => k.2 j hlt hb]
      repeat' (first | ((first | refine WLA.m rfl rfl ?_ ?_ | refine WLA.st rfl ?_ ?_ | refine WLA.x rfl rfl ?_ (fun x => ?_) | refine WLA.x0 rfl ?_ (fun x => ?_)); first | exact trivial | exact rfl | assumption | omega | (refine ⟨?_, ?_⟩ <;> omega) | (simp only [Room, lenS]; omega) | decide | skip) | (refine Stp.go ?_) | (guard_target =~ WLA _ _ _ _ _ (⟨_, .call ⟨.value (.func 80), _, _⟩, _, _, _, _⟩ :: _) _ _; refine WLA.cq rfl rfl (hB) ?_) | (refine WPA.ifT ?_) | (refine WPA.ifF ?_) | ((first | refine WPA.dec ?_); first | refine .inl ⟨by first | assumption | omega | with_reducible rfl | (refine fun h => h ?_; first | assumption | with_reducible rfl) | (simp only [lenS] <;> omega) | decide, ?_⟩ | refine .inr ⟨by first | assumption | omega | with_reducible rfl | (refine fun h => h ?_; first | assumption | with_reducible rfl) | (simp only [lenS] <;> omega) | decide, ?_⟩) | ((first | refine WPA.ifBt ?_ ?_ | refine WPA.ifBnf ?_ ?_); assumption) | ((first | refine WPA.ifBnt ?_ ?_ | refine WPA.ifBf ?_ ?_); assumption) | ((first | refine WPA.ifs ?_ ?_ | refine WPA.ifB ?_ ?_) <;> intro hc))
      exact QQ.end_ rfl () rfl fun w h => h
    · rw [decide_eq_false hb] at hB
      repeat' (first | ((first | refine WLA.m rfl rfl ?_ ?_ | refine WLA.st rfl ?_ ?_ | refine WLA.x rfl rfl ?_ (fun x => ?_) | refine WLA.x0 rfl ?_ (fun x => ?_)); first | exact trivial | exact rfl | assumption | omega | (refine ⟨?_, ?_⟩ <;> omega) | (simp only [Room, lenS]; omega) | decide | skip) | (refine Stp.go ?_) | (guard_target =~ WLA _ _ _ _ _ (⟨_, .call ⟨.value (.func 80), _, _⟩, _, _, _, _⟩ :: _) _ _; refine WLA.cq rfl rfl (hB) ?_) | (refine WPA.ifT ?_) | (refine WPA.ifF ?_) | ((first | refine WPA.dec ?_); first | refine .inl ⟨by first | assumption | omega | with_reducible rfl | (refine fun h => h ?_; first | assumption | with_reducible rfl) | (simp only [lenS] <;> omega) | decide, ?_⟩ | refine .inr ⟨by first | assumption | omega | with_reducible rfl | (refine fun h => h ?_; first | assumption | with_reducible rfl) | (simp only [lenS] <;> omega) | decide, ?_⟩) | ((first | refine WPA.ifBt ?_ ?_ | refine WPA.ifBnf ?_ ?_); assumption) | ((first | refine WPA.ifBnt ?_ ?_ | refine WPA.ifBf ?_ ?_); assumption) | ((first | refine WPA.ifs ?_ ?_ | refine WPA.ifB ?_ ?_) <;> intro hc))
      refine QQ.loopS (j + 1) ⟨rfl, rfl, trivial⟩ ⟨hlt, fun i hi => ?_⟩ (by omega) (fun w h => h)
      by_cases e : i = j
      · subst e; exact hb
      · exact hD i (by omega)
  · have hlt' : ¬ (j : Int) < s.size := by omega
    repeat' (first | ((first | refine WLA.m rfl rfl ?_ ?_ | refine WLA.st rfl ?_ ?_ | refine WLA.x rfl rfl ?_ (fun x => ?_) | refine WLA.x0 rfl ?_ (fun x => ?_)); first | exact trivial | exact rfl | assumption | omega | (refine ⟨?_, ?_⟩ <;> omega) | (simp only [Room, lenS]; omega) | decide | skip) | (refine Stp.go ?_) | (refine WPA.ifT ?_) | (refine WPA.ifF ?_) | ((first | refine WPA.dec ?_); first | refine .inl ⟨by first | assumption | omega | with_reducible rfl | (refine fun h => h ?_; first | assumption | with_reducible rfl) | (simp only [lenS] <;> omega) | decide, ?_⟩ | refine .inr ⟨by first | assumption | omega | with_reducible rfl | (refine fun h => h ?_; first | assumption | with_reducible rfl) | (simp only [lenS] <;> omega) | decide, ?_⟩) | ((first | refine WPA.ifBt ?_ ?_ | refine WPA.ifBnf ?_ ?_); assumption) | ((first | refine WPA.ifBnt ?_ ?_ | refine WPA.ifBf ?_ ?_); assumption) | ((first | refine WPA.ifs ?_ ?_ | refine WPA.ifB ?_ ?_) <;> intro hc))
    exact QQ.end_ rfl () (congrArg Value.bool (by rw [decide_eq_decide]; exact ⟨fun h => ⟨h, fun i hi => hD i (by omega)⟩, fun h => h.1⟩)) fun w h => h
end
end Go.Proofs.YthkhneimfjaohaaGreatDoor
namespace Go.Proofs.YthkhneimfjaohaaGreatDoor
open Go Go.Fw Go.RowKit
set_option linter.unusedVariables false
set_option linter.unusedSimpArgs false
set_option maxRecDepth 100000
set_option maxHeartbeats 16000000
set_option synthInstance.maxHeartbeats 200000
set_option synthInstance.maxSize 100000
attribute [local irreducible] WPA WLA WDA WDQ WDE QQ seqQ blockQ loopQ fnQ OpP OpT Tr TrP SL SLd OwnS LitS Bk BkE Ob
attribute [local irreducible] fnX TrX
theorem TrX.ofTr {P : Program} {f : FuncId} {args : Array Value} {A : World → Prop} {τ τ' ε : Type} {val : τ → Value} {val' : τ' → Value} {B : τ → World → Prop} {B' : τ' → World → Prop} {pv : ε → Value} {E : ε → World → Prop} (h : Tr P f args A val B) (hB : ∀ x w, B x w → ∃ x', val x = val' x' ∧ B' x' w) : TrX P f args A val' B' pv E := by
  unfold Tr at h; unfold TrX
  exact fun w hw => (h w hw).mono fun e w' ⟨x, he, hb⟩ => by obtain ⟨x', h1, h2⟩ := hB x w' hb; exact .inl ⟨x', by rw [he, h1], h2⟩
theorem TrX.ofNo {P : Program} {f : FuncId} {args : Array Value} {A : World → Prop} {τ ε ε' : Type} {val : Empty → Value} {val' : τ → Value} {B' : τ → World → Prop} {pv : ε → Value} {pv' : ε' → Value} {E : ε → World → Prop} {E' : ε' → World → Prop} (h : TrX P f args A val (fun _ _ => False) pv E) (hE : ∀ x w, E x w → ∃ x', pv x = pv' x' ∧ E' x' w) : TrX P f args A val' B' pv' E' := by
  unfold TrX at h ⊢
  exact fun w hw => (h w hw).mono fun e w' he => by
    rcases he with ⟨x, he, hb⟩ | ⟨y, he, hb⟩
    · exact hb.elim
    · obtain ⟨x', h1, h2⟩ := hE y w' hb; exact .inr ⟨x', by rw [he, h1], h2⟩
section
variable {L L' : List HP} {w0 : World} {I : Foot} {s : ByteArray} {P : Nat} {n : Int}
theorem must_trX {b : Bool} [h : FindK L PsH P (s, n) L'] : TrX Tryz.prog 50 #[.pointer (some ⟨P, 0, none⟩), .bool b] (SL w0 I L) (fun _ : { _u : Unit // b = true } => .tuple #[]) (fun _ => SL w0 I (PsH P (s, n) :: L')) (fun y : { y : Int × Int // b = false ∧ y = (n, 3) } => wrV y.1) (fun _ => SL w0 I L') := by
  cases b with
  | true => exact TrX.ofTr must_ok fun x w hw => ⟨⟨(), rfl⟩, rfl, h.out.sl hw⟩
  | false => exact TrX.ofNo must_no fun x w hw => ⟨⟨x.1, rfl, x.2⟩, rfl, hw.to⟩
theorem next_trX [h : FindK L PsH P (s, n) L'] (hsz : s.size ≤ 1000000) (hn : 0 ≤ n ∧ n ≤ 1000000) : TrX Tryz.prog 51 #[.pointer (some ⟨P, 0, none⟩)] (SL w0 I L) (fun _ : { _u : Unit // 0 ≤ atB s 10 } => .string (befB s 10)) (fun _ => SL w0 I (PsH P (aftB s 10, n + 1) :: L')) (fun y : { y : Int × Int // ¬ 0 ≤ atB s 10 ∧ y = (n + 1, 2) } => wrV y.1) (fun _ => SL w0 I L') := by
  by_cases h0 : 0 ≤ atB s 10
  · exact TrX.ofTr (next_ok h0 hsz hn) fun x w hw => ⟨⟨(), h0⟩, rfl, hw⟩
  · exact TrX.ofNo (next_no h0 hsz hn) fun x w hw => ⟨⟨x.1, h0, x.2⟩, rfl, hw.to⟩
theorem after_trX {l b : ByteArray} [h : FindK L PsH P (s, n) L'] : TrX Tryz.prog 52 #[.pointer (some ⟨P, 0, none⟩), .string l, .string b] (SL w0 I L) (fun v : { v : Int // (hasP l b ∧ NumOk (cutP l b)) ∧ v = numV (cutP l b) } => .int .i64 v.1) (fun _ => SL w0 I (PsH P (s, n) :: L')) (fun y : { y : Int × Int // ¬ (hasP l b ∧ NumOk (cutP l b)) ∧ y = (n, 3) } => wrV y.1) (fun _ => SL w0 I L') := by
  by_cases h1 : hasP l b ∧ NumOk (cutP l b)
  · exact TrX.ofTr (after_ok h1.1 h1.2) fun x w hw => ⟨⟨_, h1, rfl⟩, rfl, h.out.sl hw⟩
  · exact TrX.ofNo (after_no h1) fun x w hw => ⟨⟨x.1, h1, x.2⟩, rfl, hw.to⟩
structure GrL where
  line : Int
  words : List ByteArray
  prob : Int
  back : Int
def PieceP (w : ByteArray) : Prop := w ≠ ⟨#[]⟩ ∧ ∀ j : Nat, j < w.size → ¬ BlankP (bt w (j : Int))
instance (w : ByteArray) : Decidable (PieceP w) := inferInstanceAs (Decidable (_ ∧ _))
def nthB (l : List ByteArray) (i : Nat) : ByteArray := l.getD i ⟨#[]⟩
def EntOk (o : Int) (last : Bool) (l : ByteArray) : Prop :=
  ((splB l 9).length : Int) = (if last then 2 else 3) ∧ (NumOk (nthB (splB l 9) 0) ∧ ((splB (nthB (splB l 9) 1) 32).length : Int) = o) ∧ (∀ w ∈ splB (nthB (splB l 9) 1) 32, PieceP w) ∧ (last = false → NumOk (nthB (splB l 9) 2))
theorem splF_mem (c : UInt8) : ∀ (n : Nat) (s : ByteArray), ∀ w ∈ splF c n s, w.size ≤ s.size
  | 0, s, w, h => by rw [List.mem_singleton.1 h]; exact Nat.le_refl _
  | n + 1, s, w, h => by
    rcases List.mem_cons.1 h with h | h
    · rw [h]; unfold befB; rw [ByteArray.size_extract]; omega
    · have := splF_mem c n (aftB s c) w h
      have e : (aftB s c).size ≤ s.size := by unfold aftB; rw [ByteArray.size_extract]; omega
      omega
theorem spl_mem {s w : ByteArray} {c : UInt8} (h : w ∈ splB s c) : w.size ≤ s.size := splF_mem c _ s w h
theorem nth_at (l : List ByteArray) (i : Nat) : at_ l (i : Int) = nthB l i := by
  unfold at_ nthB; rw [Int.toNat_natCast]; rfl
theorem nth_sz {s : ByteArray} {c : UInt8} (i : Nat) : (nthB (splB s c) i).size ≤ s.size := by
  unfold nthB
  rw [List.getD_eq_getElem?_getD]
  by_cases h : i < (splB s c).length
  · rw [List.getElem?_eq_getElem h]; exact spl_mem (List.getElem_mem h)
  · rw [List.getElem?_eq_none (by omega)]; exact Nat.zero_le _
instance psN {ρ : Env} {A : World → Prop} {ty t : TypeId} {x : Operand} {y : ByteArray × Int} {S : Nat} {w0 : World} {I : Foot} {L L' : List HP} [hx : Ev ρ x (.pointer (some ⟨S, 0 + 1, none⟩))] [ht : One Tryz.prog t] [hA : InSL A w0 I L] [hb : FindK L PsH S y L'] : OpM Tryz.prog ρ A (.load t x) ty (.int .i64 y.2) True :=
  ⟨fun _ => P_load ht.out hx.out fun w hw => cell_of_heap (by have := hb.out.sl (hA.out w hw); unfold PsH at this; exact this.bk) (by simp)⟩
theorem Split_trS {c : UInt8} (hsz : s.size ≤ 1000000) : Tr Tryz.prog 76 #[.string s, .string (oneB c)] (SL w0 I L) (fun x : { x : SV × Foot // SlI (x.2 ++ I) x.1 ByteArray inferInstance (splB s c) } => .slice x.1.1.a x.1.1.n x.1.1.cap) (fun x w => SL w0 (x.1.2 ++ I) L w) :=
  (Split_tr hsz).conv (fun _ h => h) fun x w h => ⟨⟨x, haveI := h.1.2; inferInstance⟩, rfl, h.2.sub fun z hz => (List.mem_append.1 hz).elim id fun hz => h.1.1.out hz⟩
theorem entry_trX {o : Int} {last : Bool} [h : FindK L PsH P (s, n) L'] (hsz : s.size ≤ 1000000) (hn : 0 ≤ n ∧ n ≤ 1000000) :
    TrX Tryz.prog 53 #[.pointer (some ⟨P, 0, none⟩), .int .i64 o, .bool last] (SL w0 I L)
      (fun x : { x : SV × Foot // 0 ≤ atB s 10 ∧ EntOk o last (befB s 10) ∧ SubI x.2 I ∧ SlI x.2 x.1 ByteArray inferInstance (splB (nthB (splB (befB s 10) 9) 1) 32) } =>
        .agg #[.int .i64 (n + 1), .slice x.1.1.a x.1.1.n x.1.1.cap, .int .i64 (numV (nthB (splB (befB s 10) 9) 0)), .int .i64 (if last then 0 else numV (nthB (splB (befB s 10) 9) 2))])
      (fun x => SL w0 x.1.2 (PsH P (aftB s 10, n + 1) :: L'))
      (fun y : { y : Int × Int // (¬ 0 ≤ atB s 10 ∧ y = (n + 1, 2)) ∨ (0 ≤ atB s 10 ∧ ¬ EntOk o last (befB s 10) ∧ y = (n + 1, 3)) } => wrV y.1) (fun _ => SL w0 I L') := by
  refine TrX.at h.out ?_
  refine TrX.intro Tryz.func53 rfl Tryz.ntmps53 rfl ?_
  have hbz : (befB s 10).size ≤ 1000000 := by unfold befB; rw [ByteArray.size_extract]; omega
  cases last with
  | false =>
    repeat' ((fail_if_success (guard_target =~ WPA _ _ _ (.region 5 _ _) _ _ _)); first | ((first | refine WLA.m rfl rfl ?_ ?_ | refine WLA.st rfl ?_ ?_ | refine WLA.x rfl rfl ?_ (fun x => ?_) | refine WLA.x0 rfl ?_ (fun x => ?_)); first | exact trivial | exact rfl | assumption | omega | (refine ⟨?_, ?_⟩ <;> omega) | (simp only [Room, lenS]; omega) | decide | skip) | (refine Stp.go ?_) | (guard_target =~ WLA _ _ _ _ _ (⟨_, .call ⟨.value (.func 51), _, _⟩, _, _, _, _⟩ :: _) _ _; first | (refine WLA.callX rfl rfl (next_trX hsz ⟨hn.1, by omega⟩) (by intro y; refine QQ.thrw ?_; exact QQ.thrown ⟨y.1, .inl y.2⟩ rfl fun w h => h.to) ?_; rintro ⟨⟨⟩, h0⟩) | (refine WLA.callX0 rfl (next_trX hsz ⟨hn.1, by omega⟩) (by intro y; refine QQ.thrw ?_; exact QQ.thrown ⟨y.1, .inl y.2⟩ rfl fun w h => h.to) ?_; rintro ⟨⟨⟩, h0⟩)) | (guard_target =~ WLA _ _ _ _ _ (⟨_, .call ⟨.value (.func 76), _, _⟩, _, _, _, _⟩ :: _) _ _; refine WLA.call rfl rfl (Split_tr hbz) ?_; rintro ⟨v, J⟩; dsimp only; refine WLA.pure fun hv => ?_) | (refine WPA.ifT ?_) | (refine WPA.ifF ?_) | ((first | refine WPA.dec ?_); first | refine .inl ⟨by first | assumption | omega | with_reducible rfl | (refine fun h => h ?_; first | assumption | with_reducible rfl) | (simp only [lenS] <;> omega) | decide, ?_⟩ | refine .inr ⟨by first | assumption | omega | with_reducible rfl | (refine fun h => h ?_; first | assumption | with_reducible rfl) | (simp only [lenS] <;> omega) | decide, ?_⟩) | ((first | refine WPA.ifBt ?_ ?_ | refine WPA.ifBnf ?_ ?_); assumption) | ((first | refine WPA.ifBnt ?_ ?_ | refine WPA.ifBf ?_ ?_); assumption) | ((first | refine WPA.ifs ?_ ?_ | refine WPA.ifB ?_ ?_) <;> intro hc))
    obtain ⟨hJ, hv⟩ := hv
    have hpz := fun i => nth_sz (s := befB s 10) (c := 9) i
    have hm5 : ∀ k : EntOk o false (befB s 10), ((splB (befB s 10) 9).length : Int) = 3 := fun k => by simpa using k.1
    repeat' ((fail_if_success (guard_target =~ WPA _ _ _ (.region 6 _ _) _ _ _)); first | ((first | refine WLA.m rfl rfl ?_ ?_ | refine WLA.st rfl ?_ ?_ | refine WLA.x rfl rfl ?_ (fun x => ?_) | refine WLA.x0 rfl ?_ (fun x => ?_)); first | exact trivial | exact rfl | assumption | omega | (refine ⟨?_, ?_⟩ <;> omega) | (simp only [Room, lenS]; omega) | decide | skip) | (refine Stp.go ?_) | (guard_target =~ WLA _ _ _ _ _ (⟨_, .call ⟨.value (.func 50), _, _⟩, _, _, _, _⟩ :: _) _ _; first | (refine WLA.callX rfl rfl (must_trX) (by intro y; refine QQ.thrw ?_; exact QQ.thrown ⟨y.1, .inr ⟨h0, fun k => of_decide_eq_false y.2.1 (hm5 k), y.2.2⟩⟩ rfl fun w h => (SL.to (L' := L') h).sub hJ.out) ?_; rintro ⟨⟨⟩, hl⟩) | (refine WLA.callX0 rfl (must_trX) (by intro y; refine QQ.thrw ?_; exact QQ.thrown ⟨y.1, .inr ⟨h0, fun k => of_decide_eq_false y.2.1 (hm5 k), y.2.2⟩⟩ rfl fun w h => (SL.to (L' := L') h).sub hJ.out) ?_; rintro ⟨⟨⟩, hl⟩)) | (refine WPA.ifT ?_) | (refine WPA.ifF ?_) | ((first | refine WPA.dec ?_); first | refine .inl ⟨by first | assumption | omega | with_reducible rfl | (refine fun h => h ?_; first | assumption | with_reducible rfl) | (simp only [lenS] <;> omega) | decide, ?_⟩ | refine .inr ⟨by first | assumption | omega | with_reducible rfl | (refine fun h => h ?_; first | assumption | with_reducible rfl) | (simp only [lenS] <;> omega) | decide, ?_⟩) | ((first | refine WPA.ifBt ?_ ?_ | refine WPA.ifBnf ?_ ?_); assumption) | ((first | refine WPA.ifBnt ?_ ?_ | refine WPA.ifBf ?_ ?_); assumption) | ((first | refine WPA.ifs ?_ ?_ | refine WPA.ifB ?_ ?_) <;> intro hc))
    replace hl := of_decide_eq_true hl
    have hent : ∀ k : EntOk o false (befB s 10), _ := fun k => k.2
    have hent2 : (NumOk (nthB (splB (befB s 10) 9) 0) ∧ ((splB (nthB (splB (befB s 10) 9) 1) 32).length : Int) = o) ∧ (∀ w ∈ splB (nthB (splB (befB s 10) 9) 1) 32, PieceP w) ∧ (false = false → NumOk (nthB (splB (befB s 10) 9) 2)) → EntOk o false (befB s 10) := fun k => ⟨by simpa using hl, k⟩
    clear hm5
    generalize hPs : splB (befB s 10) 9 = ps at hv hl hpz hent hent2 ⊢
    have e0 : at_ ps 0 = nthB ps 0 := nth_at ps 0
    have e1 : at_ ps 1 = nthB ps 1 := nth_at ps 1
    have e2 : at_ ps 2 = nthB ps 2 := nth_at ps 2
    have z0 := hpz 0
    have z1 := hpz 1
    have z2 := hpz 2
    have hi0 : (0 : Int) ≤ 0 ∧ (0 : Int) < ps.length := by omega
    have hi1 : (0 : Int) ≤ 1 ∧ (1 : Int) < ps.length := by omega
    generalize nthB ps 0 = p0 at e0 z0 hent hent2 ⊢
    generalize nthB ps 1 = p1 at e1 z1 hent hent2 ⊢
    generalize nthB ps 2 = p2 at e2 z2 hent hent2 ⊢
    have hS := fun {L : List HP} => Split_trS (s := p1) (c := 32) (w0 := w0) (I := J) (L := L) (by omega)
    repeat' ((fail_if_success (guard_target =~ WPA _ _ _ (.region 7 _ _) _ _ _)); first | ((rw [e1])) | ((first | refine WLA.m rfl rfl ?_ ?_ | refine WDQ.m rfl rfl ?_ ?_ | refine WLA.st rfl ?_ ?_ | refine WLA.x rfl rfl ?_ (fun x => ?_) | refine WLA.x0 rfl ?_ (fun x => ?_)); first | exact trivial | exact rfl | assumption | omega | (refine ⟨?_, ?_⟩ <;> omega) | (simp only [Room, lenS]; omega) | decide | skip) | (refine Stp.go ?_) | (guard_target =~ WLA _ _ _ _ _ (⟨_, .call ⟨.value (.func 76), _, _⟩, _, _, _, _⟩ :: _) _ _; refine WLA.call rfl rfl (hS) ?_; rintro ⟨⟨v2, R⟩, hv2⟩) | (refine WPA.ifT ?_) | (refine WPA.ifF ?_) | ((first | refine WPA.dec ?_); first | refine .inl ⟨by first | assumption | omega | with_reducible rfl | (refine fun h => h ?_; first | assumption | with_reducible rfl) | (simp only [lenS] <;> omega) | decide, ?_⟩ | refine .inr ⟨by first | assumption | omega | with_reducible rfl | (refine fun h => h ?_; first | assumption | with_reducible rfl) | (simp only [lenS] <;> omega) | decide, ?_⟩) | ((first | refine WPA.ifBt ?_ ?_ | refine WPA.ifBnf ?_ ?_); assumption) | ((first | refine WPA.ifBnt ?_ ?_ | refine WPA.ifBf ?_ ?_); assumption) | ((first | refine WPA.ifs ?_ ?_ | refine WPA.ifB ?_ ?_) <;> intro hc) | (guard_target =~ WPA _ _ _ (.region 6 _ true) _ _ _; refine WPA.drawT 10 (.q 0 (.q 1 (.q 2 (.q 3 (.q 4 (.q 5 (.q 6 (.b false 7 (.q 8 (.e 9 .fin)) false 9 (.e 7 (.q 8 .fin)))))))))) mixed ?_ ?_; kernel_rfl) | (refine WDA.finish (tl := [⟨_, _, _, _, _, _⟩]) rfl ?_) | (refine WDQ.see rfl ?_) | (first | (refine WDA.two rfl rfl ?_ ?_) | (refine WDA.twoL rfl rfl ?_ ?_) | (refine WDA.twoR rfl rfl ?_ ?_) | (refine WDA.twoW rfl rfl ?_ ?_)) | (refine WDE.see rfl ?_) | (refine WDE.alloc rfl rfl (fun w h => h) (fun x => ?_)) | (refine WDE.stE rfl ?_) | (refine WDE.x rfl rfl ?_ ?_ (fun x => ?_); rotate_left 1; (intro x w h; first | exact h | exact Ent.drop1.sl h | exact SL.unI h | exact SL.to h); rotate_left 1; first | exact trivial | exact rfl | assumption | omega | (refine ⟨?_, ?_⟩ <;> omega) | (simp only [Room, lenS]; omega) | decide | skip) | (guard_target =~ WDE _ _ _ _ _ _ _ ⟨_, .call ⟨.value (.func 76), _, _⟩, _, _, _, _⟩ _ _ _; refine WDE.call rfl rfl (hS) ?_ ?_; (intro x w h; first | exact h | exact Ent.drop1.sl h | exact SL.unI h | exact SL.to h); rintro ⟨⟨v2, R⟩, hv2⟩) | (guard_target =~ WDW _ _ _ _ _ _ _ ⟨_, .call ⟨.value (.func 76), _, _⟩, _, _, _, _⟩ _ _ _; refine WDW.call rfl rfl (hS) ?_; rintro ⟨⟨v2, R⟩, hv2⟩))
    all_goals
      dsimp only at hv2 ⊢
      revert x; intro X9
      revert x; intro X6
      have hKJ : SubI (R ++ J) J := inferInstance
      have hvK : SlI (R ++ J) v ByteArray inferInstance ps := hv.sub
      generalize R ++ J = K at hv2 hKJ hvK ⊢
      have hKI : SubI K I := ⟨fun z hz => hKJ.out (hJ.out hz)⟩
      refine WPA.ent (EntC.out (L' := Bk X9 107 [.int .i64 (n + 1), .slice v2.a v2.n v2.cap, .int .i64 0, .int .i64 0] :: PsH P (aftB s 10, n + 1) :: Bk X6 107 [.int .i64 0, .slice none 0 0, .int .i64 0, .int .i64 0] :: L')) ?_
      have hN := fun {L : List HP} => Number_tr (s := p0) (w0 := w0) (I := K) (L := L)
      by_cases hN0 : NumOk p0
      case neg =>
        rw [(num_no hN0).2] at hN
        repeat' (first | ((rw [e0])) | ((first | refine WLA.m rfl rfl ?_ ?_ | refine WLA.st rfl ?_ ?_ | refine WLA.x rfl rfl ?_ (fun x => ?_) | refine WLA.x0 rfl ?_ (fun x => ?_)); first | exact trivial | exact rfl | assumption | omega | (refine ⟨?_, ?_⟩ <;> omega) | (simp only [Room, lenS]; omega) | decide | skip) | (refine Stp.go ?_) | (guard_target =~ WLA _ _ _ _ _ (⟨_, .call ⟨.value (.func 75), _, _⟩, _, _, _, _⟩ :: _) _ _; refine WLA.cq rfl rfl (hN) ?_) | (guard_target =~ WLA _ _ _ _ _ (⟨_, .call ⟨.value (.func 50), _, _⟩, _, _, _, _⟩ :: _) _ _; first | (refine WLA.callX rfl rfl (must_trX) (by intro y; refine QQ.thrw ?_; exact QQ.thrown ⟨y.1, .inr ⟨h0, fun k => hN0 (hent k).1.1, y.2.2⟩⟩ rfl fun w h => (SL.to (L' := L') h).sub hKI.out) ?_; rintro ⟨⟨⟩, ⟨⟩⟩) | (refine WLA.callX0 rfl (must_trX) (by intro y; refine QQ.thrw ?_; exact QQ.thrown ⟨y.1, .inr ⟨h0, fun k => hN0 (hent k).1.1, y.2.2⟩⟩ rfl fun w h => (SL.to (L' := L') h).sub hKI.out) ?_; rintro ⟨⟨⟩, ⟨⟩⟩)) | (refine WPA.ifT ?_) | (refine WPA.ifF ?_) | (refine WLA.no rfl rfl ?_) | ((first | refine WPA.dec ?_ | ((fail_if_success (guard_target =~ WLA _ _ _ _ _ _ (put1 _ _ (.bool true)) _)); (fail_if_success (guard_target =~ WLA _ _ _ _ _ _ (put1 _ _ (.bool false)) _)); refine WLA.dec rfl rfl ?_) | refine WLA.pk ?_); first | refine .inl ⟨by first | assumption | omega | with_reducible rfl | (refine fun h => h ?_; first | assumption | with_reducible rfl) | (simp only [lenS] <;> omega) | decide, ?_⟩ | refine .inr ⟨by first | assumption | omega | with_reducible rfl | (refine fun h => h ?_; first | assumption | with_reducible rfl) | (simp only [lenS] <;> omega) | decide, ?_⟩) | ((first | refine WPA.ifBt ?_ ?_ | refine WPA.ifBnf ?_ ?_); assumption) | ((first | refine WPA.ifBnt ?_ ?_ | refine WPA.ifBf ?_ ?_); assumption) | ((first | refine WPA.ifs ?_ ?_ | refine WPA.ifB ?_ ?_) <;> intro hc) | ((fail_if_success (guard_target =~ WLA _ _ _ _ _ _ (put1 _ _ (.bool true)) _)); (fail_if_success (guard_target =~ WLA _ _ _ _ _ _ (put1 _ _ (.bool false)) _)); (first | refine WLA.both rfl rfl ?_ ?_ | refine WLA.bothB rfl rfl ?_ ?_) <;> intro hg))
      rw [(num_yes hN0).2] at hN
      generalize numV p0 = N0 at hN ⊢
      generalize hWs : splB p1 32 = ws at hv2 hent hent2 ⊢
      have hwl : ws.length ≤ 1000001 := by rw [← hWs]; unfold splB; rw [splF_len]; have := cnt_le p1 32; omega
      have hwz : ∀ w ∈ ws, w.size ≤ 1000000 := fun w hw => by rw [← hWs] at hw; have := spl_mem hw; omega
      repeat' ((fail_if_success (guard_target =~ WPA _ _ _ (.region 10 _ _) _ _ _)); first | ((rw [e0])) | ((first | refine WLA.m rfl rfl ?_ ?_ | refine WLA.st rfl ?_ ?_ | refine WLA.x rfl rfl ?_ (fun x => ?_) | refine WLA.x0 rfl ?_ (fun x => ?_)); first | exact trivial | exact rfl | assumption | omega | (refine ⟨?_, ?_⟩ <;> omega) | (simp only [Room, lenS]; omega) | decide | skip) | (refine Stp.go ?_) | (guard_target =~ WLA _ _ _ _ _ (⟨_, .call ⟨.value (.func 75), _, _⟩, _, _, _, _⟩ :: _) _ _; refine WLA.cq rfl rfl (hN) ?_) | (guard_target =~ WLA _ _ _ _ _ (⟨_, .call ⟨.value (.func 50), _, _⟩, _, _, _, _⟩ :: _) _ _; first | (refine WLA.callX rfl rfl (must_trX) (by intro y; refine QQ.thrw ?_; exact QQ.thrown ⟨y.1, .inr ⟨h0, fun k => of_decide_eq_false y.2.1 (hent k).1.2, y.2.2⟩⟩ rfl fun w h => (SL.to (L' := L') h).sub hKI.out) ?_; rintro ⟨⟨⟩, hlo⟩) | (refine WLA.callX0 rfl (must_trX) (by intro y; refine QQ.thrw ?_; exact QQ.thrown ⟨y.1, .inr ⟨h0, fun k => of_decide_eq_false y.2.1 (hent k).1.2, y.2.2⟩⟩ rfl fun w h => (SL.to (L' := L') h).sub hKI.out) ?_; rintro ⟨⟨⟩, hlo⟩)) | (refine WPA.ifT ?_) | (refine WPA.ifF ?_) | (refine WLA.no rfl rfl ?_) | ((first | refine WPA.dec ?_ | ((fail_if_success (guard_target =~ WLA _ _ _ _ _ _ (put1 _ _ (.bool true)) _)); (fail_if_success (guard_target =~ WLA _ _ _ _ _ _ (put1 _ _ (.bool false)) _)); refine WLA.dec rfl rfl ?_) | refine WLA.pk ?_); first | refine .inl ⟨by first | assumption | omega | with_reducible rfl | (refine fun h => h ?_; first | assumption | with_reducible rfl) | (simp only [lenS] <;> omega) | decide, ?_⟩ | refine .inr ⟨by first | assumption | omega | with_reducible rfl | (refine fun h => h ?_; first | assumption | with_reducible rfl) | (simp only [lenS] <;> omega) | decide, ?_⟩) | ((first | refine WPA.ifBt ?_ ?_ | refine WPA.ifBnf ?_ ?_); assumption) | ((first | refine WPA.ifBnt ?_ ?_ | refine WPA.ifBf ?_ ?_); assumption) | ((first | refine WPA.ifs ?_ ?_ | refine WPA.ifB ?_ ?_) <;> intro hc) | ((fail_if_success (guard_target =~ WLA _ _ _ _ _ _ (put1 _ _ (.bool true)) _)); (fail_if_success (guard_target =~ WLA _ _ _ _ _ _ (put1 _ _ (.bool false)) _)); (first | refine WLA.both rfl rfl ?_ ?_ | refine WLA.bothB rfl rfl ?_ ?_) <;> intro hg))
      replace hlo := of_decide_eq_true hlo
      repeat' (first | ((first | refine WLA.m rfl rfl ?_ ?_ | refine WLA.st rfl ?_ ?_ | refine WLA.x rfl rfl ?_ (fun x => ?_) | refine WLA.x0 rfl ?_ (fun x => ?_)); first | exact trivial | exact rfl | assumption | omega | (refine ⟨?_, ?_⟩ <;> omega) | (simp only [Room, lenS]; omega) | decide | skip) | (refine Stp.go ?_) | (refine WPA.ifT ?_) | (refine WPA.ifF ?_) | ((first | refine WPA.dec ?_); first | refine .inl ⟨by first | assumption | omega | with_reducible rfl | (refine fun h => h ?_; first | assumption | with_reducible rfl) | (simp only [lenS] <;> omega) | decide, ?_⟩ | refine .inr ⟨by first | assumption | omega | with_reducible rfl | (refine fun h => h ?_; first | assumption | with_reducible rfl) | (simp only [lenS] <;> omega) | decide, ?_⟩) | ((first | refine WPA.ifBt ?_ ?_ | refine WPA.ifBnf ?_ ?_); assumption) | ((first | refine WPA.ifBnt ?_ ?_ | refine WPA.ifBf ?_ ?_); assumption) | ((first | refine WPA.ifs ?_ ?_ | refine WPA.ifB ?_ ?_) <;> intro hc))
      refine WPA.loopS (σ := Nat) (fun j => [(0, .pointer (some ⟨P, 0, none⟩)), (2, .bool false), (6, .pointer (some ⟨X6, 0, none⟩)), (7, .slice v.a v.n v.cap), (9, .pointer (some ⟨X9, 0, none⟩)), (51, .slice v2.a v2.n v2.cap), (52, .int .i64 ws.length), (53, .int .i64 j)]) (fun j => j ≤ ws.length ∧ ∀ i : Nat, i < j → PieceP (nthB ws i))
        (fun _ => SL w0 K (Bk X9 107 [.int .i64 (n + 1), .slice v2.a v2.n v2.cap, .int .i64 N0, .int .i64 0] :: PsH P (aftB s 10, n + 1) :: Bk X6 107 [.int .i64 0, .slice none 0 0, .int .i64 0, .int .i64 0] :: L')) (fun j => ws.length - j) 0 ⟨rfl, rfl, rfl, rfl, rfl, rfl, rfl, rfl, trivial⟩ ⟨Nat.zero_le _, fun i hi => absurd hi (Nat.not_lt_zero i)⟩ (fun w h => h.to) ?_
      rintro j ρ ⟨hj, hD⟩
      by_cases hlt : j < ws.length
      · have hlt' : (j : Int) < ws.length := by omega
        have hir : (0 : Int) ≤ j ∧ (j : Int) < ws.length := by omega
        have ew : at_ ws (j : Int) = nthB ws j := nth_at ws j
        have hwm : nthB ws j ∈ ws := by unfold nthB; rw [List.getD_eq_getElem?_getD, List.getElem?_eq_getElem hlt]; exact List.getElem_mem _
        have hz := hwz _ hwm
        obtain ⟨wj, hwj⟩ : ∃ q, nthB ws j = q := ⟨_, rfl⟩
        rw [hwj] at ew hwm hz
        have hp := fun {L : List HP} => piece_tr (s := wj) (w0 := w0) (I := K) (L := L) hz
        repeat' (first | ((rw [ew])) | ((first | refine WLA.m rfl rfl ?_ ?_ | refine WLA.st rfl ?_ ?_ | refine WLA.x rfl rfl ?_ (fun x => ?_) | refine WLA.x0 rfl ?_ (fun x => ?_)); first | exact trivial | exact rfl | assumption | omega | (refine ⟨?_, ?_⟩ <;> omega) | (simp only [Room, lenS]; omega) | decide | skip) | (refine Stp.go ?_) | (guard_target =~ WLA _ _ _ _ _ (⟨_, .call ⟨.value (.func 77), _, _⟩, _, _, _, _⟩ :: _) _ _; refine WLA.cq rfl rfl (hp) ?_) | (guard_target =~ WLA _ _ _ _ _ (⟨_, .call ⟨.value (.func 50), _, _⟩, _, _, _, _⟩ :: _) _ _; first | (refine WLA.callX rfl rfl (must_trX) (by intro y; refine QQ.thrw ?_; exact QQ.thrown ⟨y.1, .inr ⟨h0, fun k => of_decide_eq_false y.2.1 ((hent k).2.1 wj hwm), y.2.2⟩⟩ rfl fun w h => (SL.to (L' := L') h).sub hKI.out) ?_; rintro ⟨⟨⟩, hpc⟩) | (refine WLA.callX0 rfl (must_trX) (by intro y; refine QQ.thrw ?_; exact QQ.thrown ⟨y.1, .inr ⟨h0, fun k => of_decide_eq_false y.2.1 ((hent k).2.1 wj hwm), y.2.2⟩⟩ rfl fun w h => (SL.to (L' := L') h).sub hKI.out) ?_; rintro ⟨⟨⟩, hpc⟩)) | (refine WPA.ifT ?_) | (refine WPA.ifF ?_) | ((first | refine WPA.dec ?_); first | refine .inl ⟨by first | assumption | omega | with_reducible rfl | (refine fun h => h ?_; first | assumption | with_reducible rfl) | (simp only [lenS] <;> omega) | decide, ?_⟩ | refine .inr ⟨by first | assumption | omega | with_reducible rfl | (refine fun h => h ?_; first | assumption | with_reducible rfl) | (simp only [lenS] <;> omega) | decide, ?_⟩) | ((first | refine WPA.ifBt ?_ ?_ | refine WPA.ifBnf ?_ ?_); assumption) | ((first | refine WPA.ifBnt ?_ ?_ | refine WPA.ifBf ?_ ?_); assumption) | ((first | refine WPA.ifs ?_ ?_ | refine WPA.ifB ?_ ?_) <;> intro hc))
        refine QQ.loopS (j + 1) ⟨rfl, rfl, rfl, rfl, rfl, rfl, rfl, rfl, trivial⟩ ⟨hlt, fun i hi => ?_⟩ (by omega) (fun w h => h.to)
        by_cases e : i = j
        · subst e; rw [hwj]; exact of_decide_eq_true hpc
        · exact hD i (by omega)
      · have hlt' : ¬ (j : Int) < ws.length := by omega
        have hall : ∀ w ∈ ws, PieceP w := fun w hw => by
          obtain ⟨i, hi, rfl⟩ := List.getElem_of_mem hw
          have := hD i (by omega)
          unfold nthB at this
          rw [List.getD_eq_getElem?_getD, List.getElem?_eq_getElem hi] at this
          exact this
        have hi2 : (0 : Int) ≤ 2 ∧ (2 : Int) < ps.length := by omega
        have hbt : (!true) = false := rfl
        have hbf : (!false) = true := rfl
        have hN2 := fun {L : List HP} => Number_tr (s := p2) (w0 := w0) (I := K) (L := L)
        by_cases hk2 : NumOk p2
        · rw [(num_yes hk2).2] at hN2
          repeat' (first | ((rw [e2])) | ((rw [hbf])) | ((first | refine WLA.m rfl rfl ?_ ?_ | refine WLA.st rfl ?_ ?_ | refine WLA.x rfl rfl ?_ (fun x => ?_) | refine WLA.x0 rfl ?_ (fun x => ?_)); first | exact trivial | exact rfl | assumption | omega | (refine ⟨?_, ?_⟩ <;> omega) | (simp only [Room, lenS]; omega) | decide | skip) | (refine Stp.go ?_) | (guard_target =~ WLA _ _ _ _ _ (⟨_, .call ⟨.value (.func 75), _, _⟩, _, _, _, _⟩ :: _) _ _; refine WLA.cq rfl rfl (hN2) ?_) | (guard_target =~ WLA _ _ _ _ _ (⟨_, .call ⟨.value (.func 50), _, _⟩, _, _, _, _⟩ :: _) _ _; refine WLA.call rfl rfl (must_ok) ?_; rintro ⟨⟩) | (refine WPA.ifT ?_) | (refine WPA.ifF ?_) | ((first | refine WPA.dec ?_); first | refine .inl ⟨by first | assumption | omega | with_reducible rfl | (refine fun h => h ?_; first | assumption | with_reducible rfl) | (simp only [lenS] <;> omega) | decide, ?_⟩ | refine .inr ⟨by first | assumption | omega | with_reducible rfl | (refine fun h => h ?_; first | assumption | with_reducible rfl) | (simp only [lenS] <;> omega) | decide, ?_⟩) | ((first | refine WPA.ifBt ?_ ?_ | refine WPA.ifBnf ?_ ?_); assumption) | ((first | refine WPA.ifBnt ?_ ?_ | refine WPA.ifBf ?_ ?_); assumption) | ((first | refine WPA.ifs ?_ ?_ | refine WPA.ifB ?_ ?_) <;> intro hc))
          exact QQ.fnX_ret (QQ.endc rfl ⟨(v2, K), h0, hent2 ⟨⟨hN0, hlo⟩, hall, fun _ => hk2⟩, hKI, hv2⟩ rfl fun w h => h.to)
        · rw [(num_no hk2).2] at hN2
          repeat' (first | ((rw [e2])) | ((rw [hbf])) | ((first | refine WLA.m rfl rfl ?_ ?_ | refine WLA.st rfl ?_ ?_ | refine WLA.x rfl rfl ?_ (fun x => ?_) | refine WLA.x0 rfl ?_ (fun x => ?_)); first | exact trivial | exact rfl | assumption | omega | (refine ⟨?_, ?_⟩ <;> omega) | (simp only [Room, lenS]; omega) | decide | skip) | (refine Stp.go ?_) | (guard_target =~ WLA _ _ _ _ _ (⟨_, .call ⟨.value (.func 75), _, _⟩, _, _, _, _⟩ :: _) _ _; refine WLA.cq rfl rfl (hN2) ?_) | (guard_target =~ WLA _ _ _ _ _ (⟨_, .call ⟨.value (.func 50), _, _⟩, _, _, _, _⟩ :: _) _ _; first | (refine WLA.callX rfl rfl (must_trX) (by intro y; refine QQ.thrw ?_; exact QQ.thrown ⟨y.1, .inr ⟨h0, fun k => hk2 ((hent k).2.2 rfl), y.2.2⟩⟩ rfl fun w h => (SL.to (L' := L') h).sub hKI.out) ?_; rintro ⟨⟨⟩, ⟨⟩⟩) | (refine WLA.callX0 rfl (must_trX) (by intro y; refine QQ.thrw ?_; exact QQ.thrown ⟨y.1, .inr ⟨h0, fun k => hk2 ((hent k).2.2 rfl), y.2.2⟩⟩ rfl fun w h => (SL.to (L' := L') h).sub hKI.out) ?_; rintro ⟨⟨⟩, ⟨⟩⟩)) | (refine WPA.ifT ?_) | (refine WPA.ifF ?_) | ((first | refine WPA.dec ?_); first | refine .inl ⟨by first | assumption | omega | with_reducible rfl | (refine fun h => h ?_; first | assumption | with_reducible rfl) | (simp only [lenS] <;> omega) | decide, ?_⟩ | refine .inr ⟨by first | assumption | omega | with_reducible rfl | (refine fun h => h ?_; first | assumption | with_reducible rfl) | (simp only [lenS] <;> omega) | decide, ?_⟩) | ((first | refine WPA.ifBt ?_ ?_ | refine WPA.ifBnf ?_ ?_); assumption) | ((first | refine WPA.ifBnt ?_ ?_ | refine WPA.ifBf ?_ ?_); assumption) | ((first | refine WPA.ifs ?_ ?_ | refine WPA.ifB ?_ ?_) <;> intro hc))
  | true =>
    repeat' ((fail_if_success (guard_target =~ WPA _ _ _ (.region 5 _ _) _ _ _)); first | ((first | refine WLA.m rfl rfl ?_ ?_ | refine WLA.st rfl ?_ ?_ | refine WLA.x rfl rfl ?_ (fun x => ?_) | refine WLA.x0 rfl ?_ (fun x => ?_)); first | exact trivial | exact rfl | assumption | omega | (refine ⟨?_, ?_⟩ <;> omega) | (simp only [Room, lenS]; omega) | decide | skip) | (refine Stp.go ?_) | (guard_target =~ WLA _ _ _ _ _ (⟨_, .call ⟨.value (.func 51), _, _⟩, _, _, _, _⟩ :: _) _ _; first | (refine WLA.callX rfl rfl (next_trX hsz ⟨hn.1, by omega⟩) (by intro y; refine QQ.thrw ?_; exact QQ.thrown ⟨y.1, .inl y.2⟩ rfl fun w h => h.to) ?_; rintro ⟨⟨⟩, h0⟩) | (refine WLA.callX0 rfl (next_trX hsz ⟨hn.1, by omega⟩) (by intro y; refine QQ.thrw ?_; exact QQ.thrown ⟨y.1, .inl y.2⟩ rfl fun w h => h.to) ?_; rintro ⟨⟨⟩, h0⟩)) | (guard_target =~ WLA _ _ _ _ _ (⟨_, .call ⟨.value (.func 76), _, _⟩, _, _, _, _⟩ :: _) _ _; refine WLA.call rfl rfl (Split_tr hbz) ?_; rintro ⟨v, J⟩; dsimp only; refine WLA.pure fun hv => ?_) | (refine WPA.ifT ?_) | (refine WPA.ifF ?_) | ((first | refine WPA.dec ?_); first | refine .inl ⟨by first | assumption | omega | with_reducible rfl | (refine fun h => h ?_; first | assumption | with_reducible rfl) | (simp only [lenS] <;> omega) | decide, ?_⟩ | refine .inr ⟨by first | assumption | omega | with_reducible rfl | (refine fun h => h ?_; first | assumption | with_reducible rfl) | (simp only [lenS] <;> omega) | decide, ?_⟩) | ((first | refine WPA.ifBt ?_ ?_ | refine WPA.ifBnf ?_ ?_); assumption) | ((first | refine WPA.ifBnt ?_ ?_ | refine WPA.ifBf ?_ ?_); assumption) | ((first | refine WPA.ifs ?_ ?_ | refine WPA.ifB ?_ ?_) <;> intro hc))
    obtain ⟨hJ, hv⟩ := hv
    have hpz := fun i => nth_sz (s := befB s 10) (c := 9) i
    have hm5 : ∀ k : EntOk o true (befB s 10), ((splB (befB s 10) 9).length : Int) = 2 := fun k => by simpa using k.1
    repeat' ((fail_if_success (guard_target =~ WPA _ _ _ (.region 6 _ _) _ _ _)); first | ((first | refine WLA.m rfl rfl ?_ ?_ | refine WLA.st rfl ?_ ?_ | refine WLA.x rfl rfl ?_ (fun x => ?_) | refine WLA.x0 rfl ?_ (fun x => ?_)); first | exact trivial | exact rfl | assumption | omega | (refine ⟨?_, ?_⟩ <;> omega) | (simp only [Room, lenS]; omega) | decide | skip) | (refine Stp.go ?_) | (guard_target =~ WLA _ _ _ _ _ (⟨_, .call ⟨.value (.func 50), _, _⟩, _, _, _, _⟩ :: _) _ _; first | (refine WLA.callX rfl rfl (must_trX) (by intro y; refine QQ.thrw ?_; exact QQ.thrown ⟨y.1, .inr ⟨h0, fun k => of_decide_eq_false y.2.1 (hm5 k), y.2.2⟩⟩ rfl fun w h => (SL.to (L' := L') h).sub hJ.out) ?_; rintro ⟨⟨⟩, hl⟩) | (refine WLA.callX0 rfl (must_trX) (by intro y; refine QQ.thrw ?_; exact QQ.thrown ⟨y.1, .inr ⟨h0, fun k => of_decide_eq_false y.2.1 (hm5 k), y.2.2⟩⟩ rfl fun w h => (SL.to (L' := L') h).sub hJ.out) ?_; rintro ⟨⟨⟩, hl⟩)) | (refine WPA.ifT ?_) | (refine WPA.ifF ?_) | ((first | refine WPA.dec ?_); first | refine .inl ⟨by first | assumption | omega | with_reducible rfl | (refine fun h => h ?_; first | assumption | with_reducible rfl) | (simp only [lenS] <;> omega) | decide, ?_⟩ | refine .inr ⟨by first | assumption | omega | with_reducible rfl | (refine fun h => h ?_; first | assumption | with_reducible rfl) | (simp only [lenS] <;> omega) | decide, ?_⟩) | ((first | refine WPA.ifBt ?_ ?_ | refine WPA.ifBnf ?_ ?_); assumption) | ((first | refine WPA.ifBnt ?_ ?_ | refine WPA.ifBf ?_ ?_); assumption) | ((first | refine WPA.ifs ?_ ?_ | refine WPA.ifB ?_ ?_) <;> intro hc))
    replace hl := of_decide_eq_true hl
    have hent : ∀ k : EntOk o true (befB s 10), _ := fun k => k.2
    have hent2 : (NumOk (nthB (splB (befB s 10) 9) 0) ∧ ((splB (nthB (splB (befB s 10) 9) 1) 32).length : Int) = o) ∧ (∀ w ∈ splB (nthB (splB (befB s 10) 9) 1) 32, PieceP w) ∧ (true = false → NumOk (nthB (splB (befB s 10) 9) 2)) → EntOk o true (befB s 10) := fun k => ⟨by simpa using hl, k⟩
    clear hm5
    generalize hPs : splB (befB s 10) 9 = ps at hv hl hpz hent hent2 ⊢
    have e0 : at_ ps 0 = nthB ps 0 := nth_at ps 0
    have e1 : at_ ps 1 = nthB ps 1 := nth_at ps 1
    have e2 : at_ ps 2 = nthB ps 2 := nth_at ps 2
    have z0 := hpz 0
    have z1 := hpz 1
    have z2 := hpz 2
    have hi0 : (0 : Int) ≤ 0 ∧ (0 : Int) < ps.length := by omega
    have hi1 : (0 : Int) ≤ 1 ∧ (1 : Int) < ps.length := by omega
    generalize nthB ps 0 = p0 at e0 z0 hent hent2 ⊢
    generalize nthB ps 1 = p1 at e1 z1 hent hent2 ⊢
    generalize nthB ps 2 = p2 at e2 z2 hent hent2 ⊢
    have hS := fun {L : List HP} => Split_trS (s := p1) (c := 32) (w0 := w0) (I := J) (L := L) (by omega)
    repeat' ((fail_if_success (guard_target =~ WPA _ _ _ (.region 7 _ _) _ _ _)); first | ((rw [e1])) | ((first | refine WLA.m rfl rfl ?_ ?_ | refine WDQ.m rfl rfl ?_ ?_ | refine WLA.st rfl ?_ ?_ | refine WLA.x rfl rfl ?_ (fun x => ?_) | refine WLA.x0 rfl ?_ (fun x => ?_)); first | exact trivial | exact rfl | assumption | omega | (refine ⟨?_, ?_⟩ <;> omega) | (simp only [Room, lenS]; omega) | decide | skip) | (refine Stp.go ?_) | (guard_target =~ WLA _ _ _ _ _ (⟨_, .call ⟨.value (.func 76), _, _⟩, _, _, _, _⟩ :: _) _ _; refine WLA.call rfl rfl (hS) ?_; rintro ⟨⟨v2, R⟩, hv2⟩) | (refine WPA.ifT ?_) | (refine WPA.ifF ?_) | ((first | refine WPA.dec ?_); first | refine .inl ⟨by first | assumption | omega | with_reducible rfl | (refine fun h => h ?_; first | assumption | with_reducible rfl) | (simp only [lenS] <;> omega) | decide, ?_⟩ | refine .inr ⟨by first | assumption | omega | with_reducible rfl | (refine fun h => h ?_; first | assumption | with_reducible rfl) | (simp only [lenS] <;> omega) | decide, ?_⟩) | ((first | refine WPA.ifBt ?_ ?_ | refine WPA.ifBnf ?_ ?_); assumption) | ((first | refine WPA.ifBnt ?_ ?_ | refine WPA.ifBf ?_ ?_); assumption) | ((first | refine WPA.ifs ?_ ?_ | refine WPA.ifB ?_ ?_) <;> intro hc) | (guard_target =~ WPA _ _ _ (.region 6 _ true) _ _ _; refine WPA.drawT 10 (.q 0 (.q 1 (.q 2 (.q 3 (.q 4 (.q 5 (.q 6 (.b false 7 (.q 8 (.e 9 .fin)) false 9 (.e 7 (.q 8 .fin)))))))))) mixed ?_ ?_; kernel_rfl) | (refine WDA.finish (tl := [⟨_, _, _, _, _, _⟩]) rfl ?_) | (refine WDQ.see rfl ?_) | (first | (refine WDA.two rfl rfl ?_ ?_) | (refine WDA.twoL rfl rfl ?_ ?_) | (refine WDA.twoR rfl rfl ?_ ?_) | (refine WDA.twoW rfl rfl ?_ ?_)) | (refine WDE.see rfl ?_) | (refine WDE.alloc rfl rfl (fun w h => h) (fun x => ?_)) | (refine WDE.stE rfl ?_) | (refine WDE.x rfl rfl ?_ ?_ (fun x => ?_); rotate_left 1; (intro x w h; first | exact h | exact Ent.drop1.sl h | exact SL.unI h | exact SL.to h); rotate_left 1; first | exact trivial | exact rfl | assumption | omega | (refine ⟨?_, ?_⟩ <;> omega) | (simp only [Room, lenS]; omega) | decide | skip) | (guard_target =~ WDE _ _ _ _ _ _ _ ⟨_, .call ⟨.value (.func 76), _, _⟩, _, _, _, _⟩ _ _ _; refine WDE.call rfl rfl (hS) ?_ ?_; (intro x w h; first | exact h | exact Ent.drop1.sl h | exact SL.unI h | exact SL.to h); rintro ⟨⟨v2, R⟩, hv2⟩) | (guard_target =~ WDW _ _ _ _ _ _ _ ⟨_, .call ⟨.value (.func 76), _, _⟩, _, _, _, _⟩ _ _ _; refine WDW.call rfl rfl (hS) ?_; rintro ⟨⟨v2, R⟩, hv2⟩))
    all_goals
      dsimp only at hv2 ⊢
      revert x; intro X9
      revert x; intro X6
      have hKJ : SubI (R ++ J) J := inferInstance
      have hvK : SlI (R ++ J) v ByteArray inferInstance ps := hv.sub
      generalize R ++ J = K at hv2 hKJ hvK ⊢
      have hKI : SubI K I := ⟨fun z hz => hKJ.out (hJ.out hz)⟩
      refine WPA.ent (EntC.out (L' := Bk X9 107 [.int .i64 (n + 1), .slice v2.a v2.n v2.cap, .int .i64 0, .int .i64 0] :: PsH P (aftB s 10, n + 1) :: Bk X6 107 [.int .i64 0, .slice none 0 0, .int .i64 0, .int .i64 0] :: L')) ?_
      have hN := fun {L : List HP} => Number_tr (s := p0) (w0 := w0) (I := K) (L := L)
      by_cases hN0 : NumOk p0
      case neg =>
        rw [(num_no hN0).2] at hN
        repeat' (first | ((rw [e0])) | ((first | refine WLA.m rfl rfl ?_ ?_ | refine WLA.st rfl ?_ ?_ | refine WLA.x rfl rfl ?_ (fun x => ?_) | refine WLA.x0 rfl ?_ (fun x => ?_)); first | exact trivial | exact rfl | assumption | omega | (refine ⟨?_, ?_⟩ <;> omega) | (simp only [Room, lenS]; omega) | decide | skip) | (refine Stp.go ?_) | (guard_target =~ WLA _ _ _ _ _ (⟨_, .call ⟨.value (.func 75), _, _⟩, _, _, _, _⟩ :: _) _ _; refine WLA.cq rfl rfl (hN) ?_) | (guard_target =~ WLA _ _ _ _ _ (⟨_, .call ⟨.value (.func 50), _, _⟩, _, _, _, _⟩ :: _) _ _; first | (refine WLA.callX rfl rfl (must_trX) (by intro y; refine QQ.thrw ?_; exact QQ.thrown ⟨y.1, .inr ⟨h0, fun k => hN0 (hent k).1.1, y.2.2⟩⟩ rfl fun w h => (SL.to (L' := L') h).sub hKI.out) ?_; rintro ⟨⟨⟩, ⟨⟩⟩) | (refine WLA.callX0 rfl (must_trX) (by intro y; refine QQ.thrw ?_; exact QQ.thrown ⟨y.1, .inr ⟨h0, fun k => hN0 (hent k).1.1, y.2.2⟩⟩ rfl fun w h => (SL.to (L' := L') h).sub hKI.out) ?_; rintro ⟨⟨⟩, ⟨⟩⟩)) | (refine WPA.ifT ?_) | (refine WPA.ifF ?_) | (refine WLA.no rfl rfl ?_) | ((first | refine WPA.dec ?_ | ((fail_if_success (guard_target =~ WLA _ _ _ _ _ _ (put1 _ _ (.bool true)) _)); (fail_if_success (guard_target =~ WLA _ _ _ _ _ _ (put1 _ _ (.bool false)) _)); refine WLA.dec rfl rfl ?_) | refine WLA.pk ?_); first | refine .inl ⟨by first | assumption | omega | with_reducible rfl | (refine fun h => h ?_; first | assumption | with_reducible rfl) | (simp only [lenS] <;> omega) | decide, ?_⟩ | refine .inr ⟨by first | assumption | omega | with_reducible rfl | (refine fun h => h ?_; first | assumption | with_reducible rfl) | (simp only [lenS] <;> omega) | decide, ?_⟩) | ((first | refine WPA.ifBt ?_ ?_ | refine WPA.ifBnf ?_ ?_); assumption) | ((first | refine WPA.ifBnt ?_ ?_ | refine WPA.ifBf ?_ ?_); assumption) | ((first | refine WPA.ifs ?_ ?_ | refine WPA.ifB ?_ ?_) <;> intro hc) | ((fail_if_success (guard_target =~ WLA _ _ _ _ _ _ (put1 _ _ (.bool true)) _)); (fail_if_success (guard_target =~ WLA _ _ _ _ _ _ (put1 _ _ (.bool false)) _)); (first | refine WLA.both rfl rfl ?_ ?_ | refine WLA.bothB rfl rfl ?_ ?_) <;> intro hg))
      rw [(num_yes hN0).2] at hN
      generalize numV p0 = N0 at hN ⊢
      generalize hWs : splB p1 32 = ws at hv2 hent hent2 ⊢
      have hwl : ws.length ≤ 1000001 := by rw [← hWs]; unfold splB; rw [splF_len]; have := cnt_le p1 32; omega
      have hwz : ∀ w ∈ ws, w.size ≤ 1000000 := fun w hw => by rw [← hWs] at hw; have := spl_mem hw; omega
      repeat' ((fail_if_success (guard_target =~ WPA _ _ _ (.region 10 _ _) _ _ _)); first | ((rw [e0])) | ((first | refine WLA.m rfl rfl ?_ ?_ | refine WLA.st rfl ?_ ?_ | refine WLA.x rfl rfl ?_ (fun x => ?_) | refine WLA.x0 rfl ?_ (fun x => ?_)); first | exact trivial | exact rfl | assumption | omega | (refine ⟨?_, ?_⟩ <;> omega) | (simp only [Room, lenS]; omega) | decide | skip) | (refine Stp.go ?_) | (guard_target =~ WLA _ _ _ _ _ (⟨_, .call ⟨.value (.func 75), _, _⟩, _, _, _, _⟩ :: _) _ _; refine WLA.cq rfl rfl (hN) ?_) | (guard_target =~ WLA _ _ _ _ _ (⟨_, .call ⟨.value (.func 50), _, _⟩, _, _, _, _⟩ :: _) _ _; first | (refine WLA.callX rfl rfl (must_trX) (by intro y; refine QQ.thrw ?_; exact QQ.thrown ⟨y.1, .inr ⟨h0, fun k => of_decide_eq_false y.2.1 (hent k).1.2, y.2.2⟩⟩ rfl fun w h => (SL.to (L' := L') h).sub hKI.out) ?_; rintro ⟨⟨⟩, hlo⟩) | (refine WLA.callX0 rfl (must_trX) (by intro y; refine QQ.thrw ?_; exact QQ.thrown ⟨y.1, .inr ⟨h0, fun k => of_decide_eq_false y.2.1 (hent k).1.2, y.2.2⟩⟩ rfl fun w h => (SL.to (L' := L') h).sub hKI.out) ?_; rintro ⟨⟨⟩, hlo⟩)) | (refine WPA.ifT ?_) | (refine WPA.ifF ?_) | (refine WLA.no rfl rfl ?_) | ((first | refine WPA.dec ?_ | ((fail_if_success (guard_target =~ WLA _ _ _ _ _ _ (put1 _ _ (.bool true)) _)); (fail_if_success (guard_target =~ WLA _ _ _ _ _ _ (put1 _ _ (.bool false)) _)); refine WLA.dec rfl rfl ?_) | refine WLA.pk ?_); first | refine .inl ⟨by first | assumption | omega | with_reducible rfl | (refine fun h => h ?_; first | assumption | with_reducible rfl) | (simp only [lenS] <;> omega) | decide, ?_⟩ | refine .inr ⟨by first | assumption | omega | with_reducible rfl | (refine fun h => h ?_; first | assumption | with_reducible rfl) | (simp only [lenS] <;> omega) | decide, ?_⟩) | ((first | refine WPA.ifBt ?_ ?_ | refine WPA.ifBnf ?_ ?_); assumption) | ((first | refine WPA.ifBnt ?_ ?_ | refine WPA.ifBf ?_ ?_); assumption) | ((first | refine WPA.ifs ?_ ?_ | refine WPA.ifB ?_ ?_) <;> intro hc) | ((fail_if_success (guard_target =~ WLA _ _ _ _ _ _ (put1 _ _ (.bool true)) _)); (fail_if_success (guard_target =~ WLA _ _ _ _ _ _ (put1 _ _ (.bool false)) _)); (first | refine WLA.both rfl rfl ?_ ?_ | refine WLA.bothB rfl rfl ?_ ?_) <;> intro hg))
      replace hlo := of_decide_eq_true hlo
      repeat' (first | ((first | refine WLA.m rfl rfl ?_ ?_ | refine WLA.st rfl ?_ ?_ | refine WLA.x rfl rfl ?_ (fun x => ?_) | refine WLA.x0 rfl ?_ (fun x => ?_)); first | exact trivial | exact rfl | assumption | omega | (refine ⟨?_, ?_⟩ <;> omega) | (simp only [Room, lenS]; omega) | decide | skip) | (refine Stp.go ?_) | (refine WPA.ifT ?_) | (refine WPA.ifF ?_) | ((first | refine WPA.dec ?_); first | refine .inl ⟨by first | assumption | omega | with_reducible rfl | (refine fun h => h ?_; first | assumption | with_reducible rfl) | (simp only [lenS] <;> omega) | decide, ?_⟩ | refine .inr ⟨by first | assumption | omega | with_reducible rfl | (refine fun h => h ?_; first | assumption | with_reducible rfl) | (simp only [lenS] <;> omega) | decide, ?_⟩) | ((first | refine WPA.ifBt ?_ ?_ | refine WPA.ifBnf ?_ ?_); assumption) | ((first | refine WPA.ifBnt ?_ ?_ | refine WPA.ifBf ?_ ?_); assumption) | ((first | refine WPA.ifs ?_ ?_ | refine WPA.ifB ?_ ?_) <;> intro hc))
      refine WPA.loopS (σ := Nat) (fun j => [(0, .pointer (some ⟨P, 0, none⟩)), (2, .bool true), (6, .pointer (some ⟨X6, 0, none⟩)), (7, .slice v.a v.n v.cap), (9, .pointer (some ⟨X9, 0, none⟩)), (51, .slice v2.a v2.n v2.cap), (52, .int .i64 ws.length), (53, .int .i64 j)]) (fun j => j ≤ ws.length ∧ ∀ i : Nat, i < j → PieceP (nthB ws i))
        (fun _ => SL w0 K (Bk X9 107 [.int .i64 (n + 1), .slice v2.a v2.n v2.cap, .int .i64 N0, .int .i64 0] :: PsH P (aftB s 10, n + 1) :: Bk X6 107 [.int .i64 0, .slice none 0 0, .int .i64 0, .int .i64 0] :: L')) (fun j => ws.length - j) 0 ⟨rfl, rfl, rfl, rfl, rfl, rfl, rfl, rfl, trivial⟩ ⟨Nat.zero_le _, fun i hi => absurd hi (Nat.not_lt_zero i)⟩ (fun w h => h.to) ?_
      rintro j ρ ⟨hj, hD⟩
      by_cases hlt : j < ws.length
      · have hlt' : (j : Int) < ws.length := by omega
        have hir : (0 : Int) ≤ j ∧ (j : Int) < ws.length := by omega
        have ew : at_ ws (j : Int) = nthB ws j := nth_at ws j
        have hwm : nthB ws j ∈ ws := by unfold nthB; rw [List.getD_eq_getElem?_getD, List.getElem?_eq_getElem hlt]; exact List.getElem_mem _
        have hz := hwz _ hwm
        obtain ⟨wj, hwj⟩ : ∃ q, nthB ws j = q := ⟨_, rfl⟩
        rw [hwj] at ew hwm hz
        have hp := fun {L : List HP} => piece_tr (s := wj) (w0 := w0) (I := K) (L := L) hz
        repeat' (first | ((rw [ew])) | ((first | refine WLA.m rfl rfl ?_ ?_ | refine WLA.st rfl ?_ ?_ | refine WLA.x rfl rfl ?_ (fun x => ?_) | refine WLA.x0 rfl ?_ (fun x => ?_)); first | exact trivial | exact rfl | assumption | omega | (refine ⟨?_, ?_⟩ <;> omega) | (simp only [Room, lenS]; omega) | decide | skip) | (refine Stp.go ?_) | (guard_target =~ WLA _ _ _ _ _ (⟨_, .call ⟨.value (.func 77), _, _⟩, _, _, _, _⟩ :: _) _ _; refine WLA.cq rfl rfl (hp) ?_) | (guard_target =~ WLA _ _ _ _ _ (⟨_, .call ⟨.value (.func 50), _, _⟩, _, _, _, _⟩ :: _) _ _; first | (refine WLA.callX rfl rfl (must_trX) (by intro y; refine QQ.thrw ?_; exact QQ.thrown ⟨y.1, .inr ⟨h0, fun k => of_decide_eq_false y.2.1 ((hent k).2.1 wj hwm), y.2.2⟩⟩ rfl fun w h => (SL.to (L' := L') h).sub hKI.out) ?_; rintro ⟨⟨⟩, hpc⟩) | (refine WLA.callX0 rfl (must_trX) (by intro y; refine QQ.thrw ?_; exact QQ.thrown ⟨y.1, .inr ⟨h0, fun k => of_decide_eq_false y.2.1 ((hent k).2.1 wj hwm), y.2.2⟩⟩ rfl fun w h => (SL.to (L' := L') h).sub hKI.out) ?_; rintro ⟨⟨⟩, hpc⟩)) | (refine WPA.ifT ?_) | (refine WPA.ifF ?_) | ((first | refine WPA.dec ?_); first | refine .inl ⟨by first | assumption | omega | with_reducible rfl | (refine fun h => h ?_; first | assumption | with_reducible rfl) | (simp only [lenS] <;> omega) | decide, ?_⟩ | refine .inr ⟨by first | assumption | omega | with_reducible rfl | (refine fun h => h ?_; first | assumption | with_reducible rfl) | (simp only [lenS] <;> omega) | decide, ?_⟩) | ((first | refine WPA.ifBt ?_ ?_ | refine WPA.ifBnf ?_ ?_); assumption) | ((first | refine WPA.ifBnt ?_ ?_ | refine WPA.ifBf ?_ ?_); assumption) | ((first | refine WPA.ifs ?_ ?_ | refine WPA.ifB ?_ ?_) <;> intro hc))
        refine QQ.loopS (j + 1) ⟨rfl, rfl, rfl, rfl, rfl, rfl, rfl, rfl, trivial⟩ ⟨hlt, fun i hi => ?_⟩ (by omega) (fun w h => h.to)
        by_cases e : i = j
        · subst e; rw [hwj]; exact of_decide_eq_true hpc
        · exact hD i (by omega)
      · have hlt' : ¬ (j : Int) < ws.length := by omega
        have hall : ∀ w ∈ ws, PieceP w := fun w hw => by
          obtain ⟨i, hi, rfl⟩ := List.getElem_of_mem hw
          have := hD i (by omega)
          unfold nthB at this
          rw [List.getD_eq_getElem?_getD, List.getElem?_eq_getElem hi] at this
          exact this
        have hbt : (!true) = false := rfl
        repeat' (first | ((rw [hbt])) | ((first | refine WLA.m rfl rfl ?_ ?_ | refine WLA.st rfl ?_ ?_ | refine WLA.x rfl rfl ?_ (fun x => ?_) | refine WLA.x0 rfl ?_ (fun x => ?_)); first | exact trivial | exact rfl | assumption | omega | (refine ⟨?_, ?_⟩ <;> omega) | (simp only [Room, lenS]; omega) | decide | skip) | (refine Stp.go ?_) | (refine WPA.ifT ?_) | (refine WPA.ifF ?_) | ((first | refine WPA.dec ?_); first | refine .inl ⟨by first | assumption | omega | with_reducible rfl | (refine fun h => h ?_; first | assumption | with_reducible rfl) | (simp only [lenS] <;> omega) | decide, ?_⟩ | refine .inr ⟨by first | assumption | omega | with_reducible rfl | (refine fun h => h ?_; first | assumption | with_reducible rfl) | (simp only [lenS] <;> omega) | decide, ?_⟩) | ((first | refine WPA.ifBt ?_ ?_ | refine WPA.ifBnf ?_ ?_); assumption) | ((first | refine WPA.ifBnt ?_ ?_ | refine WPA.ifBf ?_ ?_); assumption) | ((first | refine WPA.ifs ?_ ?_ | refine WPA.ifB ?_ ?_) <;> intro hc))
        exact QQ.fnX_ret (QQ.endc rfl ⟨(v2, K), h0, hent2 ⟨⟨hN0, hlo⟩, hall, fun h => by cases h⟩, hKI, hv2⟩ rfl fun w h => h.to)
end
end Go.Proofs.YthkhneimfjaohaaGreatDoor
namespace Go.Fw
open Go Go.RowKit
set_option linter.unusedVariables false
set_option linter.unusedSimpArgs false
section
variable {P : Program} {ρ : Env} {A : World → Prop} {ty : TypeId}
theorem P_shl {x y : Operand} {t u : TypeId} {k k' : IntKind} {a : Int} {s : Nat} (h1 : evalE ρ x = .int k a) (h2 : evalE ρ y = .int k' (s : Int)) (hs : s ≤ k.bits) : OpP P ρ (.binOp .shl t x y u) ty A (.int k (k.wrap (a * 2 ^ s))) := by
  intro d pos af g w _
  have e : min s k.bits = s := by omega
  simp [execOp, eqGuard, binOp, h1, h2, Op.shift, e, go_sem]
  rw [if_neg (by omega)]
  cases k <;> simp_all [IntKind.bits]
class Pow2 (s : Int) (m : outParam Int) : Prop where
  out : (2 : Int) ^ s.toNat = m ∧ 0 ≤ s ∧ s ≤ 62
instance : Pow2 16 65536 := ⟨by decide⟩
instance : Pow2 8 256 := ⟨by decide⟩
instance {x y : Operand} {t u : TypeId} {k' : IntKind} {a s m : Int} [h1 : Ev ρ x (.int .i64 a)] [h2 : Ev ρ y (.int k' s)] [hp : Pow2 s m] : OpM P ρ A (.binOp .shl t x y u) ty (.int .i64 (a * m)) (-9223372036854775808 ≤ a * m ∧ a * m ≤ 9223372036854775807) := ⟨fun h => by
  have h3 := P_shl (P := P) (A := A) (ty := ty) (t := t) (u := u) (s := s.toNat) h1.out (by rw [h2.out]; congr 1; have := hp.out.2.1; omega) (by have := hp.out.2.2; simp [IntKind.bits]; omega)
  rw [hp.out.1, wrap_i64 h] at h3
  exact h3⟩
theorem P_lssS {x y : Operand} {t u : TypeId} {a b : ByteArray} (h1 : evalE ρ x = .string a) (h2 : evalE ρ y = .string b) : OpP P ρ (.binOp .lss t x y u) ty A (.bool (decide (Op.bytesLess a.data.toList b.data.toList = true))) := by
  intro d pos af g w _; rw [← ByteArray.toList_eq, ← ByteArray.toList_eq]; simp [execOp, eqGuard, binOp, h1, h2, Op.stringOp, go_sem]
instance {x y : Operand} {t u : TypeId} {a b : ByteArray} [h1 : Ev ρ x (.string a)] [h2 : Ev ρ y (.string b)] : OpM P ρ A (.binOp .lss t x y u) ty (.bool (decide (Op.bytesLess a.data.toList b.data.toList = true))) True := ⟨fun _ => P_lssS h1.out h2.out⟩
end
end Go.Fw
