/- The steps of a walk. Conditions: none. -/
import Derived.Test.YtfhelnalegochaaSlApp
namespace Go.Fw
open Go Go.RowKit
set_option linter.unusedVariables false
set_option linter.unusedSimpArgs false

/-- A thing of the form H k v, found by k. -/
class FindK (L : List HP) {κ β : Type} (H : κ → β → HP) (k : κ) (v : outParam β) (L' : outParam (List HP)) : Prop where
  out : Ent L (H k v :: L')
instance {L : List HP} {κ β : Type} {H : κ → β → HP} {k : κ} {v : β} : FindK (H k v :: L) H k v L := ⟨Ent.refl⟩
instance (priority := 900) {L L' : List HP} {p : HP} {κ β : Type} {H : κ → β → HP} {k : κ} {v : β} [h : FindK L H k v L'] : FindK (p :: L) H k v (p :: L') := ⟨(Ent.cons h.out).trans Ent.swap⟩

section
variable {ro : Option Nat} {P : Program} {n : Nat} {Q : Hnd} {ρ : Env} {A : World → Prop} {ops : Array Oper} {rest : List Oper} {op : Op} {ty : TypeId} {pos : String} {af : Array Edge} {g : Option (Nat × Bool)} {d : Tmp}
theorem WLA.m {v : Value} {S : Prop} [h : OpM P ρ A op ty v S] (hw : Region.wanted ⟨some d, op, ty, pos, af, g⟩ (yieldedE n ops ρ) = true) (hd : Nat.blt d n = true) (hs : S) (k : WLA ro P n ops Q rest (put1 ρ d v) A) :
    WLA ro P n ops Q (⟨some d, op, ty, pos, af, g⟩ :: rest) ρ A := WLA.q hw (h.out hs) (by rw [upd_put1 hd]; exact k)
theorem WLA.x {τ : Type} {val : τ → Value} {B : τ → World → Prop} {S : Prop} [h : OpE P ρ A op ty τ val B S] (hw : Region.wanted ⟨some d, op, ty, pos, af, g⟩ (yieldedE n ops ρ) = true) (hd : Nat.blt d n = true) (hs : S) (k : ∀ x, WLA ro P n ops Q rest (put1 ρ d (val x)) (B x)) :
    WLA ro P n ops Q (⟨some d, op, ty, pos, af, g⟩ :: rest) ρ A := WLA.e hw (h.out hs) (fun x => by rw [upd_put1 hd]; exact k x)
theorem WLA.x0 {τ : Type} {val : τ → Value} {B : τ → World → Prop} {S : Prop} [h : OpE P ρ A op ty τ val B S] (hw : Region.wanted ⟨none, op, ty, pos, af, g⟩ (yieldedE n ops ρ) = true) (hs : S) (k : ∀ x, WLA ro P n ops Q rest ρ (B x)) :
    WLA ro P n ops Q (⟨none, op, ty, pos, af, g⟩ :: rest) ρ A := WLA.e0 hw (h.out hs) k
theorem WLA.st {B : World → Prop} {S : Prop} [h : OpS P ρ A op ty B S] (hw : Region.wanted ⟨none, op, ty, pos, af, g⟩ (yieldedE n ops ρ) = true) (hs : S) (k : WLA ro P n ops Q rest ρ B) :
    WLA ro P n ops Q (⟨none, op, ty, pos, af, g⟩ :: rest) ρ A := WLA.s hw (h.out hs) k
theorem WLA.no (hw : Region.wanted ⟨some d, op, ty, pos, af, g⟩ (yieldedE n ops ρ) = false) (hd : Nat.blt d n = true) (k : WLA ro P n ops Q rest (put1 ρ d undef) A) :
    WLA ro P n ops Q (⟨some d, op, ty, pos, af, g⟩ :: rest) ρ A := WLA.off hw (by rw [upd_put1 hd]; exact k)
theorem put1_same {t : Tmp} {v : Value} (h : ρ.f t = v) : put1 ρ t v = ρ := by
  cases ρ with
  | mk f ms =>
    simp only [put1]
    congr 1
    funext i
    cases e : Nat.beq i t with
    | false => rfl
    | true => have := Nat.eq_of_beq_eq_true e; subst this; exact h.symm
theorem yield_val {j : Nat} {b : Bool} {t : Tmp} (hy : yieldedE n ops ρ j = some b) (ht : (ops[j]?).bind (·.dst) = some t) : ρ.f t = .bool b := by
  unfold yieldedE at hy
  rw [ht] at hy
  simp only at hy
  cases hb : Nat.blt t n with
  | false => rw [hb] at hy; simp at hy
  | true =>
    rw [hb] at hy
    simp only [cond_true] at hy
    split at hy
    · rename_i b' e; cases hy; exact e
    · cases hy
/-- A test that is decided: its value is laid as true or false. -/
theorem WLA.yes {dst : Option Tmp} {j : Nat} {c : Bool} {p : Prop} [hp' : Decidable p] {t : Tmp} (hy : yieldedE n ops ρ j = some (decide p)) (ht : (ops[j]?).bind (·.dst) = some t) (hp : p) (k : WLA ro P n ops Q (⟨dst, op, ty, pos, af, some (j, c)⟩ :: rest) (put1 ρ t (.bool true)) A) :
    WLA ro P n ops Q (⟨dst, op, ty, pos, af, some (j, c)⟩ :: rest) ρ A := by
  rw [put1_same (by rw [yield_val hy ht, decide_eq_true hp])] at k; exact k
theorem WLA.nay {dst : Option Tmp} {j : Nat} {c : Bool} {p : Prop} [hp' : Decidable p] {t : Tmp} (hy : yieldedE n ops ρ j = some (decide p)) (ht : (ops[j]?).bind (·.dst) = some t) (hp : ¬ p) (k : WLA ro P n ops Q (⟨dst, op, ty, pos, af, some (j, c)⟩ :: rest) (put1 ρ t (.bool false)) A) :
    WLA ro P n ops Q (⟨dst, op, ty, pos, af, some (j, c)⟩ :: rest) ρ A := by
  rw [put1_same (by rw [yield_val hy ht, decide_eq_false hp])] at k; exact k
theorem WLA.both {dst : Option Tmp} {j : Nat} {c : Bool} {p : Prop} [hp' : Decidable p] {t : Tmp} (hy : yieldedE n ops ρ j = some (decide p)) (ht : (ops[j]?).bind (·.dst) = some t) (k1 : p → WLA ro P n ops Q (⟨dst, op, ty, pos, af, some (j, c)⟩ :: rest) (put1 ρ t (.bool true)) A)
    (k2 : ¬ p → WLA ro P n ops Q (⟨dst, op, ty, pos, af, some (j, c)⟩ :: rest) (put1 ρ t (.bool false)) A) : WLA ro P n ops Q (⟨dst, op, ty, pos, af, some (j, c)⟩ :: rest) ρ A := by
  by_cases hp : p
  · exact WLA.yes hy ht hp (k1 hp)
  · exact WLA.nay hy ht hp (k2 hp)
theorem WLA.bothB {dst : Option Tmp} {j : Nat} {c b : Bool} {t : Tmp} (hy : yieldedE n ops ρ j = some b) (ht : (ops[j]?).bind (·.dst) = some t) (k1 : b = true → WLA ro P n ops Q (⟨dst, op, ty, pos, af, some (j, c)⟩ :: rest) (put1 ρ t (.bool true)) A)
    (k2 : b = false → WLA ro P n ops Q (⟨dst, op, ty, pos, af, some (j, c)⟩ :: rest) (put1 ρ t (.bool false)) A) : WLA ro P n ops Q (⟨dst, op, ty, pos, af, some (j, c)⟩ :: rest) ρ A := by
  cases b with
  | true => have := k1 rfl; rwa [put1_same (yield_val hy ht)] at this
  | false => have := k2 rfl; rwa [put1_same (yield_val hy ht)] at this
/-! A pick by a test that is not decided. -/
theorem WLA.pickT {a b : Operand} {p : Prop} [hp' : Decidable p] {t : Tmp} [hc : Ev ρ (.tmp t) (.bool (decide p))] (hp : p) (k : WLA ro P n ops Q (⟨some d, .pick (.tmp t) a b, ty, pos, af, g⟩ :: rest) (put1 ρ t (.bool true)) A) : WLA ro P n ops Q (⟨some d, .pick (.tmp t) a b, ty, pos, af, g⟩ :: rest) ρ A := by
  rw [put1_same (by have := hc.out; rw [decide_eq_true hp] at this; exact this)] at k; exact k
theorem WLA.pickF {a b : Operand} {p : Prop} [hp' : Decidable p] {t : Tmp} [hc : Ev ρ (.tmp t) (.bool (decide p))] (hp : ¬ p) (k : WLA ro P n ops Q (⟨some d, .pick (.tmp t) a b, ty, pos, af, g⟩ :: rest) (put1 ρ t (.bool false)) A) : WLA ro P n ops Q (⟨some d, .pick (.tmp t) a b, ty, pos, af, g⟩ :: rest) ρ A := by
  rw [put1_same (by have := hc.out; rw [decide_eq_false hp] at this; exact this)] at k; exact k
/-! Calls. -/
theorem OpT.call {f : FuncId} {args : List Operand} {argTypes : Array TypeId} {vs : List Value} [hv : EvAll ρ args vs] [hf : Callb P f] {w0 : World} {I : Foot} {L : List HP} [hA : InSL A w0 I L] {τ : Type} {val : τ → Value} {B : τ → World → Prop} (hc : Tr P f vs.toArray (SL w0 I L) val B) :
    OpT P ρ (.call { callee := .value (.func f), args := args.toArray, argTypes := argTypes }) ty A fun v w => ∃ x, v = val x ∧ B x w := T_callS hf.out (by
  have e : args.toArray.map (evalE ρ) = vs.toArray := by simp [← hv.out]
  rw [e]; exact fun w hw => hc w (hA.out w hw))
theorem OpT.callV {c : Operand} {f : FuncId} {caps : List Value} {args : List Operand} {argTypes : Array TypeId} {vs : List Value} [hv : EvAll ρ args vs] [hcv : Ev ρ c (.func (.func f) #[] caps.toArray)] [hf : Callb P f] {w0 : World} {I : Foot} {L : List HP} [hA : InSL A w0 I L] {τ : Type} {val : τ → Value} {B : τ → World → Prop} (hc : Tr P f (vs ++ caps).toArray (SL w0 I L) val B) :
    OpT P ρ (.call { callee := .value c, args := args.toArray, argTypes := argTypes }) ty A fun v w => ∃ x, v = val x ∧ B x w := T_callV hf.out (by
  have e : args.toArray.map (evalE ρ) ++ caps.toArray = (vs ++ caps).toArray := by simp [← hv.out]
  rw [e]; exact fun w hw => hc w (hA.out w hw)) hcv.out
theorem OpT.yield {c : Operand} {l : Nat} {args : List Operand} {argTypes : Array TypeId} {vs : List Value} [hv : EvAll ρ args vs] [hcv : Ev ρ c (.func (.yield l) #[] #[])] {w0 : World} {I : Foot} {L : List HP} [hA : InSL A w0 I L] {τ : Type} {val : τ → Value} {B : τ → World → Prop} (hc : YTr P l vs.toArray (SL w0 I L) val B) :
    OpT P ρ (.call { callee := .value c, args := args.toArray, argTypes := argTypes }) ty A fun v w => ∃ x, v = val x ∧ B x w := T_yield (by
  have e : args.toArray.map (evalE ρ) = vs.toArray := by simp [← hv.out]
  rw [e]; exact fun w hw => hc w (hA.out w hw)) hcv.out
section
variable {w0 : World} {I : Foot} {L : List HP} {τ : Type} {val : τ → Value} {B : τ → World → Prop} {f : FuncId} {args : List Operand} {argTypes : Array TypeId} {vs : List Value}
theorem WLA.call [hv : EvAll ρ args vs] [hf : Callb P f] [hA : InSL A w0 I L] (hw : Region.wanted ⟨some d, .call { callee := .value (.func f), args := args.toArray, argTypes := argTypes }, ty, pos, af, g⟩ (yieldedE n ops ρ) = true) (hd : Nat.blt d n = true)
    (hc : Tr P f vs.toArray (SL w0 I L) val B) (k : ∀ x, WLA ro P n ops Q rest (put1 ρ d (val x)) (B x)) : WLA ro P n ops Q (⟨some d, .call { callee := .value (.func f), args := args.toArray, argTypes := argTypes }, ty, pos, af, g⟩ :: rest) ρ A :=
  WLA.e hw (OpT.call hc) (fun x => by rw [upd_put1 hd]; exact k x)
theorem WLA.call0 [hv : EvAll ρ args vs] [hf : Callb P f] [hA : InSL A w0 I L] (hw : Region.wanted ⟨none, .call { callee := .value (.func f), args := args.toArray, argTypes := argTypes }, ty, pos, af, g⟩ (yieldedE n ops ρ) = true)
    (hc : Tr P f vs.toArray (SL w0 I L) val B) (k : ∀ x, WLA ro P n ops Q rest ρ (B x)) : WLA ro P n ops Q (⟨none, .call { callee := .value (.func f), args := args.toArray, argTypes := argTypes }, ty, pos, af, g⟩ :: rest) ρ A :=
  WLA.e0 hw (OpT.call hc) k
theorem WLA.callV {c : Operand} {caps : List Value} [hv : EvAll ρ args vs] [hcv : Ev ρ c (.func (.func f) #[] caps.toArray)] [hf : Callb P f] [hA : InSL A w0 I L] (hw : Region.wanted ⟨some d, .call { callee := .value c, args := args.toArray, argTypes := argTypes }, ty, pos, af, g⟩ (yieldedE n ops ρ) = true) (hd : Nat.blt d n = true)
    (hc : Tr P f (vs ++ caps).toArray (SL w0 I L) val B) (k : ∀ x, WLA ro P n ops Q rest (put1 ρ d (val x)) (B x)) : WLA ro P n ops Q (⟨some d, .call { callee := .value c, args := args.toArray, argTypes := argTypes }, ty, pos, af, g⟩ :: rest) ρ A :=
  WLA.e hw (OpT.callV hc) (fun x => by rw [upd_put1 hd]; exact k x)
theorem WLA.yield {c : Operand} {l : Nat} [hv : EvAll ρ args vs] [hcv : Ev ρ c (.func (.yield l) #[] #[])] [hA : InSL A w0 I L] (hw : Region.wanted ⟨some d, .call { callee := .value c, args := args.toArray, argTypes := argTypes }, ty, pos, af, g⟩ (yieldedE n ops ρ) = true) (hd : Nat.blt d n = true)
    (hc : YTr P l vs.toArray (SL w0 I L) val B) (k : ∀ x, WLA ro P n ops Q rest (put1 ρ d (val x)) (B x)) : WLA ro P n ops Q (⟨some d, .call { callee := .value c, args := args.toArray, argTypes := argTypes }, ty, pos, af, g⟩ :: rest) ρ A :=
  WLA.e hw (OpT.yield hc) (fun x => by rw [upd_put1 hd]; exact k x)
theorem TrP.toTr' {w0 : World} {I : Foot} {L : List HP} {A : World → Prop} [hA : InSL A w0 I L] [hd : DrC A] {args : Array Value} {v : Value} (h : TrP P f args (SL w0 I L) v) : Tr P f args A (fun _ : Unit => v) (fun _ => A) :=
  fun w hw => (h w (hA.out w hw)).mono fun e w' ⟨he, k, hl, hk⟩ => ⟨(), he, hk ▸ hd.out w k hl hw⟩
theorem WLA.cq {v : Value} [hv : EvAll ρ args vs] [hf : Callb P f] [hA : InSL A w0 I L] [hdr : DrC A] (hw : Region.wanted ⟨some d, .call { callee := .value (.func f), args := args.toArray, argTypes := argTypes }, ty, pos, af, g⟩ (yieldedE n ops ρ) = true) (hd : Nat.blt d n = true)
    (hc : TrP P f vs.toArray (SL w0 I L) v) (k : WLA ro P n ops Q rest (put1 ρ d v) A) : WLA ro P n ops Q (⟨some d, .call { callee := .value (.func f), args := args.toArray, argTypes := argTypes }, ty, pos, af, g⟩ :: rest) ρ A :=
  WLA.e hw (T_callS hf.out (by
    have e : args.toArray.map (evalE ρ) = vs.toArray := by simp [← hv.out]
    rw [e]; exact TrP.toTr' hc)) (fun _ => by rw [upd_put1 hd]; exact k)
theorem WLA.cqV {v : Value} {c : Operand} {caps : List Value} [hv : EvAll ρ args vs] [hcv : Ev ρ c (.func (.func f) #[] caps.toArray)] [hf : Callb P f] [hA : InSL A w0 I L] [hdr : DrC A] (hw : Region.wanted ⟨some d, .call { callee := .value c, args := args.toArray, argTypes := argTypes }, ty, pos, af, g⟩ (yieldedE n ops ρ) = true) (hd : Nat.blt d n = true)
    (hc : TrP P f (vs ++ caps).toArray (SL w0 I L) v) (k : WLA ro P n ops Q rest (put1 ρ d v) A) : WLA ro P n ops Q (⟨some d, .call { callee := .value c, args := args.toArray, argTypes := argTypes }, ty, pos, af, g⟩ :: rest) ρ A :=
  WLA.e hw (T_callV hf.out (by
    have e : args.toArray.map (evalE ρ) ++ caps.toArray = (vs ++ caps).toArray := by simp [← hv.out]
    rw [e]; exact TrP.toTr' hc) hcv.out) (fun _ => by rw [upd_put1 hd]; exact k)
end
/-! Tests. -/
theorem WPA.ifT {c : Operand} {x y : Code} [hc : Ev ρ c (.bool true)] (h : WPA ro P n x Q ρ A) : WPA ro P n (.cond c x y) Q ρ A := WPA.condTrue hc.out h
theorem WPA.ifF {c : Operand} {x y : Code} [hc : Ev ρ c (.bool false)] (h : WPA ro P n y Q ρ A) : WPA ro P n (.cond c x y) Q ρ A := WPA.condFalse hc.out h
theorem WPA.ifYes {c : Operand} {x y : Code} {p : Prop} [Decidable p] [hc : Ev ρ c (.bool (decide p))] (hp : p) (h : WPA ro P n x Q ρ A) : WPA ro P n (.cond c x y) Q ρ A := WPA.condT hc.out hp h
theorem WPA.ifNo {c : Operand} {x y : Code} {p : Prop} [Decidable p] [hc : Ev ρ c (.bool (decide p))] (hp : ¬ p) (h : WPA ro P n y Q ρ A) : WPA ro P n (.cond c x y) Q ρ A := WPA.condF hc.out hp h
theorem WPA.ifs {c : Operand} {x y : Code} {p : Prop} [Decidable p] [hc : Ev ρ c (.bool (decide p))] (ht : p → WPA ro P n x Q ρ A) (hf : ¬ p → WPA ro P n y Q ρ A) : WPA ro P n (.cond c x y) Q ρ A := WPA.cond hc.out ht hf
theorem WPA.ifB {c : Operand} {x y : Code} {b : Bool} [hc : Ev ρ c (.bool b)] (ht : b = true → WPA ro P n x Q ρ A) (hf : b = false → WPA ro P n y Q ρ A) : WPA ro P n (.cond c x y) Q ρ A := WPA.condB hc.out ht hf
end
/-- B lies within T. -/
class SubT (B T : World → Prop) : Prop where
  out : ∀ w, B w → T w
class SubI (I I' : Foot) : Prop where
  out : I' ⊆ I
instance {I : Foot} : SubI I I := ⟨fun _ h => h⟩
instance {R I I' : Foot} [h : SubI I I'] : SubI (R ++ I) I' := ⟨fun _ hx => List.mem_append_right _ (h.out hx)⟩
instance {w0 : World} {I I' : Foot} {L : List HP} [h : SubI I I'] : SubT (SL w0 I L) (SL w0 I' []) := ⟨fun w hw => (Ent.nil.sl hw).sub h.out⟩
section
variable {ro : Option Nat} {P : Program} {N n i : Nat} {ops : Array Oper} {Q : Hnd} {T : World → Prop} {ρ : Env} {A : World → Prop} {r : Plan} {op : Op} {ty : TypeId} {pos : String} {af : Array Edge} {g : Option (Nat × Bool)} {d : Tmp}
theorem WDQ.m {v : Value} {S : Prop} [h : OpM P ρ A op ty v S] (hw : Region.wanted ⟨some d, op, ty, pos, af, g⟩ (yieldedE N ops ρ) = true) (hd : Nat.blt d N = true) (hs : S) (k : WDA ro P N ops Q T n r (put1 ρ d v) A) : WDQ ro P N ops Q T n ⟨some d, op, ty, pos, af, g⟩ r ρ A :=
  WDQ.v hw (h.out hs) (by rw [upd_put1 hd]; exact k)
theorem WDQ.no (hw : Region.wanted ⟨some d, op, ty, pos, af, g⟩ (yieldedE N ops ρ) = false) (hd : Nat.blt d N = true) (k : WDA ro P N ops Q T n r (put1 ρ d undef) A) : WDQ ro P N ops Q T n ⟨some d, op, ty, pos, af, g⟩ r ρ A :=
  WDQ.off hw (by rw [upd_put1 hd]; exact k)
theorem WDQ.yes {dst : Option Tmp} {j : Nat} {c : Bool} {p : Prop} [hp' : Decidable p] {t : Tmp} (hy : yieldedE N ops ρ j = some (decide p)) (ht : (ops[j]?).bind (·.dst) = some t) (hp : p) (k : WDQ ro P N ops Q T n ⟨dst, op, ty, pos, af, some (j, c)⟩ r (put1 ρ t (.bool true)) A) :
    WDQ ro P N ops Q T n ⟨dst, op, ty, pos, af, some (j, c)⟩ r ρ A := by
  rw [put1_same (by rw [yield_val hy ht, decide_eq_true hp])] at k; exact k
theorem WDQ.nay {dst : Option Tmp} {j : Nat} {c : Bool} {p : Prop} [hp' : Decidable p] {t : Tmp} (hy : yieldedE N ops ρ j = some (decide p)) (ht : (ops[j]?).bind (·.dst) = some t) (hp : ¬ p) (k : WDQ ro P N ops Q T n ⟨dst, op, ty, pos, af, some (j, c)⟩ r (put1 ρ t (.bool false)) A) :
    WDQ ro P N ops Q T n ⟨dst, op, ty, pos, af, some (j, c)⟩ r ρ A := by
  rw [put1_same (by rw [yield_val hy ht, decide_eq_false hp])] at k; exact k
theorem WDQ.both {dst : Option Tmp} {j : Nat} {c : Bool} {p : Prop} [hp' : Decidable p] {t : Tmp} (hy : yieldedE N ops ρ j = some (decide p)) (ht : (ops[j]?).bind (·.dst) = some t) (k1 : p → WDQ ro P N ops Q T n ⟨dst, op, ty, pos, af, some (j, c)⟩ r (put1 ρ t (.bool true)) A)
    (k2 : ¬ p → WDQ ro P N ops Q T n ⟨dst, op, ty, pos, af, some (j, c)⟩ r (put1 ρ t (.bool false)) A) : WDQ ro P N ops Q T n ⟨dst, op, ty, pos, af, some (j, c)⟩ r ρ A := by
  by_cases hp : p
  · exact WDQ.yes hy ht hp (k1 hp)
  · exact WDQ.nay hy ht hp (k2 hp)
section
variable {w0 : World} {I : Foot} {L : List HP} {f : FuncId} {args : List Operand} {argTypes : Array TypeId} {vs : List Value}
theorem WDQ.cq {v : Value} [hv : EvAll ρ args vs] [hf : Callb P f] [hA : InSL A w0 I L] (hw : Region.wanted ⟨some d, .call { callee := .value (.func f), args := args.toArray, argTypes := argTypes }, ty, pos, af, g⟩ (yieldedE N ops ρ) = true) (hd : Nat.blt d N = true)
    (hc : TrP P f vs.toArray (SL w0 I L) v) (k : WDA ro P N ops Q T n r (put1 ρ d v) A) : WDQ ro P N ops Q T n ⟨some d, .call { callee := .value (.func f), args := args.toArray, argTypes := argTypes }, ty, pos, af, g⟩ r ρ A :=
  WDQ.c hw hf.out (vs := vs.toArray) (fun w hw => hc w (hA.out w hw)) (by simp [← hv.out]) (by rw [upd_put1 hd]; exact k)
theorem WDQ.cqV {v : Value} {c : Operand} {caps : List Value} [hv : EvAll ρ args vs] [hcv : Ev ρ c (.func (.func f) #[] caps.toArray)] [hf : Callb P f] [hA : InSL A w0 I L] (hw : Region.wanted ⟨some d, .call { callee := .value c, args := args.toArray, argTypes := argTypes }, ty, pos, af, g⟩ (yieldedE N ops ρ) = true) (hd : Nat.blt d N = true)
    (hc : TrP P f (vs ++ caps).toArray (SL w0 I L) v) (k : WDA ro P N ops Q T n r (put1 ρ d v) A) : WDQ ro P N ops Q T n ⟨some d, .call { callee := .value c, args := args.toArray, argTypes := argTypes }, ty, pos, af, g⟩ r ρ A := fun i hi => by
  refine ⟨_, v, hi, .inl ⟨hw, fun w hw => .inr ⟨f, (vs ++ caps).toArray, ?_, hc w (hA.out w hw)⟩⟩, (by show WDA ro P N ops Q T n r (upd N ρ d v) A; rw [upd_put1 hd]; exact k)⟩
  have e : args.toArray.map (evalE ρ) ++ caps.toArray = (vs ++ caps).toArray := by simp [← hv.out]
  simp [execOp, resolve, hcv.out, Deferred.ofValue, invoke, run_callFunc hf.out, go_sem, e] <;> simp [← hv.out]
/-- Something is done, and what is known stays known. -/
theorem WDE.x {τ : Type} {val : τ → Value} {B : τ → World → Prop} {S : Prop} [h : OpE P ρ A op ty τ val B S] (hw : Region.wanted ⟨some d, op, ty, pos, af, g⟩ (yieldedE N ops ρ) = true) (hd : Nat.blt d N = true) (hs : S) [hdr : ∀ x, DrC (B x)] [hT : ∀ x, SubT (B x) T] (hm : ∀ x w, B x w → A w) (k : ∀ x, WDA ro P N ops Q T n r (put1 ρ d (val x)) (B x)) :
    WDE ro P N ops Q T n ⟨some d, op, ty, pos, af, g⟩ r ρ A := WDE.ev hw (h.out hs) hdr (fun x => (hT x).out) hm (fun x => by rw [upd_put1 hd]; exact k x)
theorem WDE.call {τ : Type} {val : τ → Value} {B : τ → World → Prop} [hv : EvAll ρ args vs] [hf : Callb P f] [hA : InSL A w0 I L] (hw : Region.wanted ⟨some d, .call { callee := .value (.func f), args := args.toArray, argTypes := argTypes }, ty, pos, af, g⟩ (yieldedE N ops ρ) = true) (hd : Nat.blt d N = true)
    (hc : Tr P f vs.toArray (SL w0 I L) val B) [hdr : ∀ x, DrC (B x)] [hT : ∀ x, SubT (B x) T] (hm : ∀ x w, B x w → A w) (k : ∀ x, WDA ro P N ops Q T n r (put1 ρ d (val x)) (B x)) : WDE ro P N ops Q T n ⟨some d, .call { callee := .value (.func f), args := args.toArray, argTypes := argTypes }, ty, pos, af, g⟩ r ρ A :=
  WDE.ev hw (OpT.call hc) hdr (fun x => (hT x).out) hm (fun x => by rw [upd_put1 hd]; exact k x)
end
end
/-! ### Regions with writes; two that may come -/
def WDP (ro : Option Nat) (P : Program) (N : Nat) (ops : Array Oper) (Q : Hnd) (T : World → Prop) (n : Nat) (o : Oper) (r : Plan) (ρ : Env) (A : World → Prop) : Prop := ∀ i, ops[i]? = some o → WDA ro P N ops Q T n (.p i r) ρ A
def WDW (ro : Option Nat) (P : Program) (N : Nat) (ops : Array Oper) (Q : Hnd) (T : World → Prop) (n : Nat) (o : Oper) (r : Plan) (ρ : Env) (A : World → Prop) : Prop := ∀ i, ops[i]? = some o → WDA ro P N ops Q T n (.w i r) ρ A
section
variable {ro : Option Nat} {P : Program} {N n i j : Nat} {ops : Array Oper} {Q : Hnd} {T : World → Prop} {o o' : Oper} {ρ : Env} {A : World → Prop} {r r' : Plan} {op : Op} {ty : TypeId} {pos : String} {af : Array Edge} {g : Option (Nat × Bool)} {d : Tmp}
theorem WPA.drawT {id : Nat} {l : List Oper} {w0 : World} {I : Foot} {L : List HP} [hA : InSL A w0 I L] (n : Nat) (pl : Plan) (hm : P.follows .mixedOrders = true) (hok : drawOk l.toArray n pl = true)
    [hdr : DrC A] (h : WDA ro P N l.toArray Q (SL w0 I []) n pl ρ A) : WPA ro P N (.region id l.toArray true) Q ρ A := WPA.draw n pl hm hok (fun w hw => Ent.nil.sl (hA.out w hw)) h
theorem WDP.see (hi : ops[i]? = some o) (h : WDP ro P N ops Q T n o r ρ A) : WDA ro P N ops Q T n (.p i r) ρ A := h i hi
theorem WDW.see (hi : ops[i]? = some o) (h : WDW ro P N ops Q T n o r ρ A) : WDA ro P N ops Q T n (.w i r) ρ A := h i hi
theorem WDA.two (hi : ops[i]? = some o) (hj : ops[j]? = some o') (h : WDE ro P N ops Q T n o r ρ A) (h' : WDE ro P N ops Q T n o' r' ρ A) : WDA ro P N ops Q T n (.b false i r false j r') ρ A := by
  obtain ⟨a1, a2, a3, a4, a5, a6, a7, a8, at_, a9, a10⟩ := h i hi
  obtain ⟨b1, b2, b3, b4, b5, b6, b7, b8, bt_, b9, b10⟩ := h' j hj
  exact ⟨⟨a1, a2, a3, a4, a5, a6, a7, a8, at_, fun _ => a9, a10⟩, b1, b2, b3, b4, b5, b6, b7, b8, bt_, fun _ => b9, b10⟩
theorem WDA.three {k : Nat} {o'' : Oper} {r'' : Plan} (hi : ops[i]? = some o) (hj : ops[j]? = some o') (hk : ops[k]? = some o'') (h : WDE ro P N ops Q T n o r ρ A) (h' : WDE ro P N ops Q T n o' r' ρ A) (h'' : WDE ro P N ops Q T n o'' r'' ρ A) : WDA ro P N ops Q T n (.t false i r false j r' false k r'') ρ A := by
  obtain ⟨a1, a2, a3, a4, a5, a6, a7, a8, at_, a9, a10⟩ := h i hi
  obtain ⟨b1, b2, b3, b4, b5, b6, b7, b8, bt_, b9, b10⟩ := h' j hj
  obtain ⟨c1, c2, c3, c4, c5, c6, c7, c8, ct_, c9, c10⟩ := h'' k hk
  exact ⟨⟨a1, a2, a3, a4, a5, a6, a7, a8, at_, (fun _ => a9), a10⟩, ⟨b1, b2, b3, b4, b5, b6, b7, b8, bt_, (fun _ => b9), b10⟩, ⟨c1, c2, c3, c4, c5, c6, c7, c8, ct_, (fun _ => c9), c10⟩⟩
theorem WDA.threeL {k : Nat} {o'' : Oper} {r'' : Plan} (hi : ops[i]? = some o) (hj : ops[j]? = some o') (hk : ops[k]? = some o'') (h : WDW ro P N ops Q T n o r ρ A) (h' : WDE ro P N ops Q T n o' r' ρ A) (h'' : WDE ro P N ops Q T n o'' r'' ρ A) : WDA ro P N ops Q T n (.t true i r false j r' false k r'') ρ A := by
  obtain ⟨a1, a2, a3, a4, a5, a6, a7, a8, at_, a10⟩ := h i hi
  obtain ⟨b1, b2, b3, b4, b5, b6, b7, b8, bt_, b9, b10⟩ := h' j hj
  obtain ⟨c1, c2, c3, c4, c5, c6, c7, c8, ct_, c9, c10⟩ := h'' k hk
  exact ⟨⟨a1, a2, a3, a4, a5, a6, a7, a8, at_, (fun h => by cases h), a10⟩, ⟨b1, b2, b3, b4, b5, b6, b7, b8, bt_, (fun _ => b9), b10⟩, ⟨c1, c2, c3, c4, c5, c6, c7, c8, ct_, (fun _ => c9), c10⟩⟩
theorem WDA.threeM {k : Nat} {o'' : Oper} {r'' : Plan} (hi : ops[i]? = some o) (hj : ops[j]? = some o') (hk : ops[k]? = some o'') (h : WDE ro P N ops Q T n o r ρ A) (h' : WDW ro P N ops Q T n o' r' ρ A) (h'' : WDE ro P N ops Q T n o'' r'' ρ A) : WDA ro P N ops Q T n (.t false i r true j r' false k r'') ρ A := by
  obtain ⟨a1, a2, a3, a4, a5, a6, a7, a8, at_, a9, a10⟩ := h i hi
  obtain ⟨b1, b2, b3, b4, b5, b6, b7, b8, bt_, b10⟩ := h' j hj
  obtain ⟨c1, c2, c3, c4, c5, c6, c7, c8, ct_, c9, c10⟩ := h'' k hk
  exact ⟨⟨a1, a2, a3, a4, a5, a6, a7, a8, at_, (fun _ => a9), a10⟩, ⟨b1, b2, b3, b4, b5, b6, b7, b8, bt_, (fun h => by cases h), b10⟩, ⟨c1, c2, c3, c4, c5, c6, c7, c8, ct_, (fun _ => c9), c10⟩⟩
theorem WDA.threeR {k : Nat} {o'' : Oper} {r'' : Plan} (hi : ops[i]? = some o) (hj : ops[j]? = some o') (hk : ops[k]? = some o'') (h : WDE ro P N ops Q T n o r ρ A) (h' : WDE ro P N ops Q T n o' r' ρ A) (h'' : WDW ro P N ops Q T n o'' r'' ρ A) : WDA ro P N ops Q T n (.t false i r false j r' true k r'') ρ A := by
  obtain ⟨a1, a2, a3, a4, a5, a6, a7, a8, at_, a9, a10⟩ := h i hi
  obtain ⟨b1, b2, b3, b4, b5, b6, b7, b8, bt_, b9, b10⟩ := h' j hj
  obtain ⟨c1, c2, c3, c4, c5, c6, c7, c8, ct_, c10⟩ := h'' k hk
  exact ⟨⟨a1, a2, a3, a4, a5, a6, a7, a8, at_, (fun _ => a9), a10⟩, ⟨b1, b2, b3, b4, b5, b6, b7, b8, bt_, (fun _ => b9), b10⟩, ⟨c1, c2, c3, c4, c5, c6, c7, c8, ct_, (fun h => by cases h), c10⟩⟩
theorem WDA.twoL (hi : ops[i]? = some o) (hj : ops[j]? = some o') (h : WDW ro P N ops Q T n o r ρ A) (h' : WDE ro P N ops Q T n o' r' ρ A) : WDA ro P N ops Q T n (.b true i r false j r') ρ A := by
  obtain ⟨a1, a2, a3, a4, a5, a6, a7, a8, at_, a10⟩ := h i hi
  obtain ⟨b1, b2, b3, b4, b5, b6, b7, b8, bt_, b9, b10⟩ := h' j hj
  exact ⟨⟨a1, a2, a3, a4, a5, a6, a7, a8, at_, fun h => (by cases h), a10⟩, b1, b2, b3, b4, b5, b6, b7, b8, bt_, fun _ => b9, b10⟩
theorem WDA.twoR (hi : ops[i]? = some o) (hj : ops[j]? = some o') (h : WDE ro P N ops Q T n o r ρ A) (h' : WDW ro P N ops Q T n o' r' ρ A) : WDA ro P N ops Q T n (.b false i r true j r') ρ A := by
  obtain ⟨a1, a2, a3, a4, a5, a6, a7, a8, at_, a9, a10⟩ := h i hi
  obtain ⟨b1, b2, b3, b4, b5, b6, b7, b8, bt_, b10⟩ := h' j hj
  exact ⟨⟨a1, a2, a3, a4, a5, a6, a7, a8, at_, fun _ => a9, a10⟩, b1, b2, b3, b4, b5, b6, b7, b8, bt_, fun h => (by cases h), b10⟩
theorem WDA.twoW (hi : ops[i]? = some o) (hj : ops[j]? = some o') (h : WDW ro P N ops Q T n o r ρ A) (h' : WDW ro P N ops Q T n o' r' ρ A) : WDA ro P N ops Q T n (.b true i r true j r') ρ A := by
  obtain ⟨a1, a2, a3, a4, a5, a6, a7, a8, at_, a10⟩ := h i hi
  obtain ⟨b1, b2, b3, b4, b5, b6, b7, b8, bt_, b10⟩ := h' j hj
  exact ⟨⟨a1, a2, a3, a4, a5, a6, a7, a8, at_, fun h => (by cases h), a10⟩, b1, b2, b3, b4, b5, b6, b7, b8, bt_, fun h => (by cases h), b10⟩
theorem WDP.m {v : Value} {S : Prop} [h : OpM P ρ T op ty v S] (hw : Region.wanted ⟨some d, op, ty, pos, af, g⟩ (yieldedE N ops ρ) = true) (hd : Nat.blt d N = true) (hs : S) (k : WDA ro P N ops Q T n r (put1 ρ d v) A) : WDP ro P N ops Q T n ⟨some d, op, ty, pos, af, g⟩ r ρ A :=
  fun i hi => ⟨_, v, hi, .inl ⟨hw, fun w hw => h.out hs _ _ _ _ w hw⟩, by show WDA ro P N ops Q T n r (upd N ρ d v) A; rw [upd_put1 hd]; exact k⟩
theorem WDP.no (hw : Region.wanted ⟨some d, op, ty, pos, af, g⟩ (yieldedE N ops ρ) = false) (hd : Nat.blt d N = true) (k : WDA ro P N ops Q T n r (put1 ρ d undef) A) : WDP ro P N ops Q T n ⟨some d, op, ty, pos, af, g⟩ r ρ A :=
  fun i hi => ⟨_, undef, hi, .inr ⟨hw, rfl⟩, by show WDA ro P N ops Q T n r (upd N ρ d undef) A; rw [upd_put1 hd]; exact k⟩
theorem WDW.x {τ : Type} {val : τ → Value} {B : τ → World → Prop} {S : Prop} [h : OpE P ρ A op ty τ val B S] (hw : Region.wanted ⟨some d, op, ty, pos, af, g⟩ (yieldedE N ops ρ) = true) (hd : Nat.blt d N = true) (hs : S) [hdr : ∀ x, DrC (B x)] [hT : ∀ x, SubT (B x) T] (k : ∀ x, WDA ro P N ops Q T n r (put1 ρ d (val x)) (B x)) :
    WDW ro P N ops Q T n ⟨some d, op, ty, pos, af, g⟩ r ρ A := fun i hi => ⟨_, τ, val, B, hi, hw, fun w hA => h.out hs _ _ _ _ w hA, fun x => (hdr x).out, fun x => (hT x).out, fun x => by show WDA ro P N ops Q T n r (upd N ρ d (val x)) (B x); rw [upd_put1 hd]; exact k x⟩
theorem WDW.st {B : World → Prop} {S : Prop} [h : OpS P ρ A op ty B S] (hw : Region.wanted ⟨none, op, ty, pos, af, g⟩ (yieldedE N ops ρ) = true) (hs : S) [hdr : DrC B] [hT : SubT B T] (k : WDA ro P N ops Q T n r ρ B) :
    WDW ro P N ops Q T n ⟨none, op, ty, pos, af, g⟩ r ρ A := fun i hi => ⟨_, Value, id, fun _ => B, hi, hw, fun w hA => (h.out hs _ _ _ _ w hA).mono fun v w' hb => ⟨v, rfl, hb⟩, fun _ => hdr.out, fun _ => hT.out, fun _ => k⟩
section
variable {w0 : World} {I : Foot} {L : List HP} {f : FuncId} {args : List Operand} {argTypes : Array TypeId} {vs : List Value}
theorem WDW.call {τ : Type} {val : τ → Value} {B : τ → World → Prop} [hv : EvAll ρ args vs] [hf : Callb P f] [hA : InSL A w0 I L] (hw : Region.wanted ⟨some d, .call { callee := .value (.func f), args := args.toArray, argTypes := argTypes }, ty, pos, af, g⟩ (yieldedE N ops ρ) = true) (hd : Nat.blt d N = true)
    (hc : Tr P f vs.toArray (SL w0 I L) val B) [hdr : ∀ x, DrC (B x)] [hT : ∀ x, SubT (B x) T] (k : ∀ x, WDA ro P N ops Q T n r (put1 ρ d (val x)) (B x)) : WDW ro P N ops Q T n ⟨some d, .call { callee := .value (.func f), args := args.toArray, argTypes := argTypes }, ty, pos, af, g⟩ r ρ A :=
  fun i hi => ⟨_, τ, val, B, hi, hw, fun w hA => OpT.call hc _ _ _ _ w hA, fun x => (hdr x).out, fun x => (hT x).out, fun x => by show WDA ro P N ops Q T n r (upd N ρ d (val x)) (B x); rw [upd_put1 hd]; exact k x⟩
end
end
/-! ### Stores that fill a whole block -/
class LenL (l : List Value) (n : Nat) : Prop where
  out : l.length = n
instance {n : Nat} [h : IsN n 0] : LenL [] n := ⟨h.out.symm⟩
instance {u : Value} {l : List Value} {n : Nat} [h : LenL l n] : LenL (u :: l) (n + 1) := ⟨by simp [h.out]⟩
section
variable {ro : Option Nat} {P : Program} {N n i : Nat} {ops : Array Oper} {Q : Hnd} {T : World → Prop} {ρ : Env} {A : World → Prop} {r : Plan} {ty : TypeId} {pos : String} {af : Array Edge} {g : Option (Nat × Bool)} {w0 : World} {I : Foot} {L : List HP}
/-- A block of n cells, whatever they hold. -/
def BkE (b : Nat) (t : TypeId) (n : Nat) : HP := fun R => ∃ cs : List Value, cs.length = n ∧ R = [(b, .cells cs.toArray t (0, 0))]
class FindBkE (L : List HP) (b : Nat) (t : outParam TypeId) (n : outParam Nat) (L' : outParam (List HP)) : Prop where
  out : Ent L (BkE b t n :: L')
  back : Ent (BkE b t n :: L') L
instance {L : List HP} {b : Nat} {t : TypeId} {n : Nat} : FindBkE (BkE b t n :: L) b t n L := ⟨Ent.refl, Ent.refl⟩
instance (priority := 900) {L L' : List HP} {p : HP} {b : Nat} {t : TypeId} {n : Nat} [h : FindBkE L b t n L'] : FindBkE (p :: L) b t n (p :: L') := ⟨(Ent.cons h.out).trans Ent.swap, Ent.swap.trans (Ent.cons h.back)⟩
theorem Ent.bkE {b : Nat} {t : TypeId} {n : Nat} {cs : List Value} {L : List HP} (h : cs.length = n) : Ent (Bk b t cs :: L) (BkE b t n :: L) := Ent.of fun R hR => ⟨cs, h, hR⟩
theorem T_storeE {x y : Operand} {t t' : TypeId} {b n : Nat} {v : Value} {vs : List Value} {L' : List HP} {z : List Value} {bytes : Nat} (hx : evalE ρ x = .pointer (some ⟨b, 0, none⟩)) (hy : evalE ρ y = v) (hv : CellsV v vs) (hz : Inf P t z n bytes) (hl : vs.length = n) {w : World} (hw : SL w0 I (BkE b t' n :: L') w) (d pos af g) :
    OpU P (fun _ w => SL w0 I (Bk b t' vs :: L') w) ((execOp (evalE ρ) ⟨d, .store t x y, ty, pos, af, g⟩).run P w) := by
  obtain ⟨H, R, Rs, h1, ⟨cs, hcs, hR⟩, h3, h4⟩ := hw.uncons
  subst hR
  obtain ⟨inf, hinf, hz'⟩ := Option.map_eq_some_iff.1 hz.size
  obtain ⟨w', h5, h6⟩ := run_storeMany (P := P) (w := w) (j := 0) vs cs.toArray 0 0 w _ h4 rfl (by simp; omega) hv.out.2
  have e : (storeVar t ⟨b, 0, none⟩ v).run P w = .ok () w' := by
    have hs : (Go.sizeOf t).run P w = .ok n w := by simp [Go.sizeOf, typeInfo, hinf, hz', go_sem]
    have h2' : (storeCells ⟨b, 0, none⟩ vs).run P w = .ok () w' := h5
    unfold storeVar
    simp only [Sem.run_bind, hs, Result.andThen, hv.out.1, List.size_toArray, hl, ne_eq, not_true_eq_false, if_false]
    exact h2'
  simp only [execOp, Instr.storeAt, Instr.sureAddr, hx, hy, Sem.run_bind, Sem.run_pure, pure_bind, Result.andThen, e, OpU]
  refine SL.cons h1 (R := [(b, .cells vs.toArray t' (0, 0))]) rfl h3 ?_
  rw [Nat.add_zero, fold_put _ _ _ (by omega)] at h6
  simpa [hl, hcs, List.drop_of_length_le] using h6
instance (priority := 900) {x y : Operand} {t t' : TypeId} {b i n' : Nat} {v : Value} {vs : List Value} {L' : List HP} {z : List Value} {bytes : Nat} [hx : Ev ρ x (.pointer (some ⟨b, i, none⟩))] [hi : IsN i 0] [hy : Ev ρ y v] [hv : CellsV v vs] [hz : Inf P t z n' bytes] [hl : LenL vs n'] [hA : InSL A w0 I L] [hb : FindBkE L b t' n' L'] :
    OpS P ρ A (.store t x y) ty (SL w0 I (Bk b t' vs :: L')) True := ⟨fun _ => OpT.slS fun w hw d pos af g => by
  have hx' := hx.out
  rw [hi.out] at hx'
  exact T_storeE hx' hy.out hv hz hl.out (hb.out.sl hw) d pos af g⟩
theorem WDE.stE {x y : Operand} {t t' : TypeId} {b i n' : Nat} {v : Value} {vs : List Value} {L' : List HP} {z : List Value} {bytes : Nat} [hx : Ev ρ x (.pointer (some ⟨b, i, none⟩))] [hi : IsN i 0] [hy : Ev ρ y v] [hv : CellsV v vs] [hz : Inf P t z n' bytes] [hl : LenL vs n'] [hA : IsSL A w0 I L] [hb : FindBkE L b t' n' L'] [hT : SubT (SL w0 I (Bk b t' vs :: L')) T]
    (hw : Region.wanted ⟨none, .store t x y, ty, pos, af, g⟩ (yieldedE N ops ρ) = true) (k : WDA ro P N ops Q T n r ρ (SL w0 I (Bk b t' vs :: L'))) : WDE ro P N ops Q T n ⟨none, .store t x y, ty, pos, af, g⟩ r ρ A := by
  have hA' := hA.out
  subst hA'
  intro j hj
  refine ⟨_, Value, id, fun _ => SL w0 I (Bk b t' vs :: L'), hj, hw, fun w hw => ?_, fun _ => (inferInstance : DrC (SL w0 I (Bk b t' vs :: L'))).out, fun _ => hT.out, fun _ w hw => ((Ent.bkE hl.out).trans hb.back).sl hw, fun _ => k⟩
  have hx' := hx.out
  rw [hi.out] at hx'
  exact (T_storeE hx' hy.out hv hz hl.out (hb.out.sl hw) none pos af g).mono fun v w h => ⟨v, rfl, h⟩
theorem WDE.alloc {t : TypeId} {z : List Value} {d : Tmp} {m bytes : Nat} [hz : Inf P t z m bytes] [hl : LenL z m] [hA : InSL A w0 I L] [hT : ∀ b, SubT (SL w0 I (BkE b t m :: L)) T] (hw : Region.wanted ⟨some d, .alloc t, ty, pos, af, g⟩ (yieldedE N ops ρ) = true) (hd : Nat.blt d N = true) (hm : ∀ w, SL w0 I L w → A w)
    (k : ∀ b, WDA ro P N ops Q T n r (put1 ρ d (.pointer (some ⟨b, 0, none⟩))) (SL w0 I (BkE b t m :: L))) : WDE ro P N ops Q T n ⟨some d, .alloc t, ty, pos, af, g⟩ r ρ A :=
  WDE.ev hw (val := fun b : Nat => .pointer (some ⟨b, 0, none⟩)) (B := fun b => SL w0 I (BkE b t m :: L)) (fun d pos af g w hw => ((inferInstance : OpE P ρ A (.alloc t) ty Nat (fun b => .pointer (some ⟨b, 0, none⟩)) (fun b => SL w0 I (Bk b t z :: L)) True).out trivial d pos af g w hw).mono fun v w' ⟨b, h1, h2⟩ => ⟨b, h1, (Ent.bkE hl.out).sl h2⟩)
    (fun _ => inferInstance) (fun b => (hT b).out) (fun b w h => hm w (Ent.drop1.sl h)) (fun b => by rw [upd_put1 hd]; exact k b)
end
/-! ### The end of a function -/
class EvR (ρ : Env) (rs : List ResultVar) (v : outParam Value) : Prop where
  out : resL ρ rs = some v
instance {ρ : Env} : EvR ρ [] (.tuple #[]) := ⟨rfl⟩
instance {ρ : Env} {t : Tmp} {v : Value} [h : EvT ρ t v] : EvR ρ [.tmp t] v := ⟨by simp [resL, h.out]⟩
instance {ρ : Env} {t u : Tmp} {v x : Value} [h : EvT ρ t v] [k : EvT ρ u x] : EvR ρ [.tmp t, .tmp u] (.tuple #[v, x]) := ⟨by simp [resL, h.out, k.out]⟩
instance {ρ : Env} {t u q : Tmp} {v x y : Value} [h : EvT ρ t v] [k : EvT ρ u x] [l : EvT ρ q y] : EvR ρ [.tmp t, .tmp u, .tmp q] (.tuple #[v, x, y]) := ⟨by simp [resL, h.out, k.out, l.out]⟩
theorem QQ.end_ {P : Program} {fn : Func} {ρ : Env} {A : World → Prop} {rs : List ResultVar} {v : Value} {τ : Type} {val : τ → Value} {B : τ → World → Prop} (hrs : fn.results = rs.toArray) [hv : EvR ρ rs v] (x : τ) (hx : v = val x) (hB : ∀ w, A w → B x w) (hmk : ρ.ms = [] := by rfl) :
    QQ (fnQ P fn fun v w => ∃ x, v = val x ∧ B x w) .ret ρ A := QQ.fn_ret hrs (by unfold resE; exact hv.out) x hx hB hmk
theorem QQ.endn {P : Program} {fn : Func} {ρ : Env} {A : World → Prop} {rs : List ResultVar} {v : Value} {τ : Type} {val : τ → Value} {B : τ → World → Prop} (hrs : fn.results = rs.toArray) [hv : EvR ρ rs v] (x : τ) (hx : v = val x) (hB : ∀ w, A w → B x w) (hmk : ρ.ms = [] := by rfl) :
    QQ (fnQ P fn fun v w => ∃ x, v = val x ∧ B x w) .normal ρ A := QQ.fn_normal hrs (by unfold resE; exact hv.out) x hx hB hmk
/-! ### One list out of another, by search -/
class EntC (L L' : List HP) : Prop where
  out : Ent L L'
instance (priority := 2000) {L : List HP} : EntC L L := ⟨Ent.refl⟩
instance (priority := 1500) {L : List HP} : EntC L [] := ⟨Ent.nil⟩
instance (priority := 1400) {L L1 L' : List HP} {b : Nat} {t : TypeId} {cs : List Value} [h : FindBk L b t cs L1] [k : EntC L1 L'] : EntC L (Bk b t cs :: L') := ⟨Ent.take h.out k.out⟩
instance (priority := 1400) {L L1 L' : List HP} {s : SV} {t : TypeId} {α : Type} {e : Enc α} {xs : List α} [h : FindOwn L s t α e xs L1] [k : EntC L1 L'] : EntC L (OwnS t s xs :: L') := ⟨Ent.take h.out k.out⟩
instance (priority := 1350) {L L' : List HP} {t : TypeId} {α : Type} {e : Enc α} [k : EntC L L'] : EntC L (OwnS t SV.nil ([] : List α) :: L') := ⟨Ent.ownNil k.out⟩
instance (priority := 1300) {L L1 L' : List HP} {κ β : Type} {H : κ → β → HP} {k : κ} {v : β} [h : FindK L H k v L1] [j : EntC L1 L'] : EntC L (H k v :: L') := ⟨Ent.take h.out j.out⟩
instance (priority := 500) {L L' : List HP} {p : HP} [k : EntC L L'] : EntC (p :: L) L' := ⟨Ent.drop k.out⟩
theorem SL.to {w0 : World} {I : Foot} {L L' : List HP} {w : World} [e : EntC L L'] (h : SL w0 I L w) : SL w0 I L' w := e.out.sl h
end Go.Fw
