/- Texts that ArpaParses_law leans on, part 1. Conditions: none. -/
import Derived.WalkKit
import Derived.StillTail
import Derived.LoopNIn
import Derived.TacticsIn
import Derived.CallsIn
import Derived.RangeFuncLeaves
import Derived.RangeFuncRecord
import Derived.OrdersHeld
import Derived.OrdersIn
namespace Go.Fw
theorem lenS : (∀ (α : Type) (a b : List α), (a ++ b).length = a.length + b.length) ∧ (∀ (α : Type) (x : α) (a : List α), (x :: a).length = a.length + 1) ∧ (∀ α : Type, ([] : List α).length = 0) ∧ (∀ (α : Type) (a : List α) (i : Nat) (x : α), (a.set i x).length = a.length) ∧ (∀ (α : Type) (n : Nat) (x : α), (List.replicate n x).length = n) := ⟨fun _ _ _ => List.length_append, fun _ _ _ => List.length_cons, fun _ => List.length_nil, fun _ _ _ _ => List.length_set, fun _ _ _ => List.length_replicate⟩
end Go.Fw
namespace Go.Fw
open Go Go.RowKit
set_option linter.unusedVariables false
structure Env where
  f : Nat → Value
  ms : List Nat
instance : CoeFun Env (fun _ => Nat → Value) := ⟨Env.f⟩
def upd (n : Nat) (ρ : Env) (d : Nat) (v : Value) : Env := ⟨fun i => bif (Nat.beq i d && Nat.blt d n) then v else ρ.f i, ρ.ms⟩
def updO (n : Nat) (ρ : Env) : Option Tmp → Value → Env
  | some d, v => upd n ρ d v
  | none, _ => ρ
def evalE (ρ : Env) : Operand → Value
  | .tmp t => ρ t
  | .const v => v
  | .global g => .pointer (some ⟨g, 0, none⟩)
  | .func f => .func (.func f) #[] #[]
def envOf (l : List Value) : Env := ⟨fun i => l.getD i undef, []⟩
def marks (l : List Nat) : List Deferred := l.map fun D => { target := .collected D, args := #[] }
structure Agree (n : Nat) (ρ : Env) (a : Act) (ds : List Deferred) : Prop where
  sz : a.tmps.size = n
  get : ∀ i, a.tmps.getD i undef = ρ i
  df : a.defers = marks ρ.ms ++ ds
theorem Agree.eval {n : Nat} {ρ : Env} {a : Act} {ds : List Deferred} (h : Agree n ρ a ds) : a.eval = evalE ρ := by
  funext x
  cases x with
  | tmp t => exact h.get t
  | _ => rfl
theorem blt_iff (d n : Nat) : Nat.blt d n = true ↔ d < n := by
  unfold Nat.blt
  rw [Nat.ble_eq]; omega
theorem blt_false (d n : Nat) : Nat.blt d n = false ↔ ¬ d < n := by
  rw [← blt_iff, Bool.not_eq_true]
theorem upd_apply (n : Nat) (ρ : Env) (d : Nat) (v : Value) (i : Nat) : upd n ρ d v i = if i = d ∧ d < n then v else ρ i := by
  unfold upd
  by_cases h1 : i = d
  · by_cases h2 : d < n
    · rw [(blt_iff d n).2 h2]; simp [h1, h2]
    · rw [(blt_false d n).2 h2]; simp [h1, h2]
  · have : Nat.beq i d = false := by
      cases hb : Nat.beq i d with
      | false => rfl
      | true => exact absurd (Nat.eq_of_beq_eq_true hb) h1
    simp [h1, this]
theorem getD_setIfInBounds (xs : Array Value) (d i : Nat) (v : Value) :
    (xs.setIfInBounds d v).getD i undef = if i = d ∧ d < xs.size then v else xs.getD i undef := by
  simp only [Array.getD_eq_getD_getElem?, Array.getElem?_setIfInBounds]
  by_cases h : d = i
  · subst h
    by_cases h2 : d < xs.size
    · simp [h2]
    · simp [h2]
  · rw [if_neg h, if_neg (fun hh => h hh.1.symm)]
theorem Agree.put {n : Nat} {ρ : Env} {a : Act} {ds : List Deferred} (h : Agree n ρ a ds) (dst : Option Tmp) (v : Value) : Agree n (updO n ρ dst v) (a.put dst v) ds := by
  cases dst with
  | none => exact h
  | some d =>
    refine ⟨by simp [Act.put, h.sz], fun i => ?_, h.df⟩
    show (a.tmps.setIfInBounds d v).getD i undef = upd n ρ d v i
    rw [getD_setIfInBounds, upd_apply, h.sz, h.get]
def yieldedE (n : Nat) (ops : Array Oper) (ρ : Env) (j : Nat) : Option Bool :=
  match (ops[j]?).bind (·.dst) with
  | some t => bif Nat.blt t n then (match ρ t with | .bool b => some b | _ => none) else none
  | none => none
theorem Agree.yielded {n : Nat} {ρ : Env} {a : Act} {ds : List Deferred} (h : Agree n ρ a ds) (ops : Array Oper) : Go.yielded ops a.tmps = yieldedE n ops ρ := by
  funext j
  unfold Go.yielded yieldedE
  cases hd : (ops[j]?).bind (·.dst) with
  | none => rfl
  | some t =>
    simp only [Option.bind_some]
    by_cases ht : t < n
    · have e : a.tmps[t]? = some (ρ t) := by
        have := h.get t
        have hs : t < a.tmps.size := by rw [h.sz]; exact ht
        simp [Array.getD_eq_getD_getElem?, hs] at this
        simp [hs, this]
      have hb : Nat.blt t n = true := (blt_iff t n).2 ht
      rw [e, hb]
      cases ρ t <;> rfl
    · have e : a.tmps[t]? = none := by
        have hs : a.tmps.size ≤ t := by rw [h.sz]; exact Nat.le_of_not_lt ht
        exact Array.getElem?_eq_none hs
      have hb : Nat.blt t n = false := (blt_false t n).2 ht
      rw [e, hb]
      rfl
abbrev Hnd := Exit → Env → World → Prop
def QA (n : Nat) (ds : List Deferred) (Q : Hnd) : Exit → Act → World → Prop
  | .panic c, a, w => ∃ ρ : Env, a.defers = marks ρ.ms ++ ds ∧ Q (.panic c) ρ w
  | .outgrown, _, _ => False
  | e, a, w => ∃ ρ, Agree n ρ a ds ∧ Q e ρ w
def FR (ro : Option Nat) : Fence := { Fence.wide with round := ro }
def WPA (ro : Option Nat) (P : Program) (n : Nat) (c : Code) (Q : Hnd) (ρ : Env) (A : World → Prop) : Prop :=
  ∀ (m : Nat × List Deferred) a w, Agree n ρ a m.2 → A w → c.wpIn (FR ro) m.1 P (QA n m.2 Q) a w
def QQ (Q : Hnd) (e : Exit) (ρ : Env) (A : World → Prop) : Prop := ∀ w, A w → Q e ρ w
def WLA (ro : Option Nat) (P : Program) (n : Nat) (ops : Array Oper) (Q : Hnd) (l : List Oper) (ρ : Env) (A : World → Prop) : Prop :=
  ∀ (m : Nat × List Deferred) a w, Agree n ρ a m.2 → A w → wpListIn (FR ro) m.1 P ops (QA n m.2 Q) l a w
def seqQ (ro : Option Nat) (P : Program) (n : Nat) (y : Code) (Q : Hnd) : Hnd
  | .normal, ρ, w => WPA ro P n y Q ρ (fun w' => w' = w)
  | e, ρ, w => Q e ρ w
def blockQ (id : Nat) (Q : Hnd) : Hnd
  | .exit id', ρ, w => if id' = id then Q .normal ρ w else Q (.exit id') ρ w
  | e, ρ, w => Q e ρ w
def loopQ {σ : Type} (C : σ → Env → Prop) (B : σ → World → Prop) (m : σ → Nat) (x : σ) (Q : Hnd) : Hnd
  | .normal, ρ, w => ∃ x', m x' < m x ∧ C x' ρ ∧ B x' w
  | e, ρ, w => Q e ρ w
section rules
variable {ro : Option Nat} {P : Program} {n : Nat} {Q : Hnd} {ρ : Env} {A : World → Prop}
theorem WPA.seq {x y : Code} (h : WPA ro P n x (seqQ ro P n y Q) ρ A) : WPA ro P n (.seq x y) Q ρ A := by
  intro m a w ha hA
  refine wpIn_seq (wpIn_mono (h m a w ha hA) ?_)
  intro e a' w' hq
  cases e with
  | normal => obtain ⟨ρ', ha', hr⟩ := hq; exact hr m a' w' ha' rfl
  | _ => exact hq
theorem QQ.seq_normal {y : Code} (h : WPA ro P n y Q ρ A) : QQ (seqQ ro P n y Q) .normal ρ A :=
  fun w hA m a w' ha hw' => h m a w' ha (hw' ▸ hA)
theorem QQ.seq_ret {y : Code} (h : QQ Q .ret ρ A) : QQ (seqQ ro P n y Q) .ret ρ A := h
theorem QQ.seq_exit {y : Code} {id : Nat} (h : QQ Q (.exit id) ρ A) : QQ (seqQ ro P n y Q) (.exit id) ρ A := h
theorem QQ.block_normal {id : Nat} (h : QQ Q .normal ρ A) : QQ (blockQ id Q) .normal ρ A := h
theorem QQ.block_ret {id : Nat} (h : QQ Q .ret ρ A) : QQ (blockQ id Q) .ret ρ A := h
theorem QQ.block_hit {id : Nat} (h : QQ Q .normal ρ A) : QQ (blockQ id Q) (.exit id) ρ A := by
  intro w hA; simp only [blockQ, if_true]; exact h w hA
theorem QQ.loop_ret {σ : Type} {C : σ → Env → Prop} {B : σ → World → Prop} {m : σ → Nat} {x : σ} (h : QQ Q .ret ρ A) : QQ (loopQ C B m x Q) .ret ρ A := h
theorem QQ.loop_exit {σ : Type} {C : σ → Env → Prop} {B : σ → World → Prop} {m : σ → Nat} {x : σ} {id : Nat} (h : QQ Q (.exit id) ρ A) : QQ (loopQ C B m x Q) (.exit id) ρ A := h
theorem QQ.loop_normal {σ : Type} {C : σ → Env → Prop} {B : σ → World → Prop} {m : σ → Nat} {x : σ} (x' : σ) (hm : m x' < m x) (hC : C x' ρ) (hB : ∀ w, A w → B x' w) :
    QQ (loopQ C B m x Q) .normal ρ A := fun w hA => ⟨x', hm, hC, hB w hA⟩
theorem WPA.skip (h : QQ Q .normal ρ A) : WPA ro P n .skip Q ρ A := fun _ _ w ha hA => wpIn_skip ⟨ρ, ha, h w hA⟩
theorem WPA.ret (h : QQ Q .ret ρ A) : WPA ro P n .ret Q ρ A := fun _ _ w ha hA => wpIn_ret ⟨ρ, ha, h w hA⟩
theorem WPA.exit {id : Nat} (h : QQ Q (.exit id) ρ A) : WPA ro P n (.exit id) Q ρ A := fun _ _ w ha hA => wpIn_exit ⟨ρ, ha, h w hA⟩
theorem WPA.block {id : Nat} {c : Code} (h : WPA ro P n c (blockQ id Q) ρ A) : WPA ro P n (.block id c) Q ρ A := by
  intro m a w ha hA
  refine wpIn_block (wpIn_mono (h m a w ha hA) ?_)
  intro e a' w' hq
  cases e with
  | exit id' =>
    obtain ⟨ρ', ha', hr⟩ := hq
    simp only [blockQ] at hr
    simp only [Exit.inBlock]
    split
    · rename_i e; rw [if_pos e] at hr; exact ⟨ρ', ha', hr⟩
    · rename_i e; rw [if_neg e] at hr; exact ⟨ρ', ha', hr⟩
  | _ => exact hq
theorem WPA.cond {c : Operand} {x y : Code} {p : Prop} [Decidable p] (hc : evalE ρ c = .bool (decide p)) (ht : p → WPA ro P n x Q ρ A) (hf : ¬ p → WPA ro P n y Q ρ A) :
    WPA ro P n (.cond c x y) Q ρ A := by
  intro m a w ha hA
  have hc' : a.eval c = .bool (decide p) := by rw [ha.eval]; exact hc
  by_cases hp : p
  · exact wpIn_cond_true (by rw [hc', decide_eq_true hp]) (ht hp m a w ha hA)
  · exact wpIn_cond_false (by rw [hc', decide_eq_false hp]) (hf hp m a w ha hA)
theorem WPA.condB {c : Operand} {x y : Code} {b : Bool} (hc : evalE ρ c = .bool b) (ht : b = true → WPA ro P n x Q ρ A) (hf : b = false → WPA ro P n y Q ρ A) :
    WPA ro P n (.cond c x y) Q ρ A := by
  intro m a w ha hA
  have hc' : a.eval c = .bool b := by rw [ha.eval]; exact hc
  cases b with
  | true => exact wpIn_cond_true hc' (ht rfl m a w ha hA)
  | false => exact wpIn_cond_false hc' (hf rfl m a w ha hA)
theorem WPA.region {id : Nat} {l : List Oper} (h : WLA ro P n l.toArray Q l ρ A) : WPA ro P n (.region id l.toArray false) Q ρ A :=
  fun _ _ _ ha hA => wpIn_region_lit (h _ _ _ ha hA)
theorem WPA.loop {σ : Type} {c : Code} (C : σ → Env → Prop) (B : σ → World → Prop) (m : σ → Nat) (x : σ) (hC : C x ρ) (hB : ∀ w, A w → B x w)
    (round : ∀ x ρ, C x ρ → WPA ro P n c (loopQ C B m x Q) ρ (B x)) : WPA ro P n (.loop c) Q ρ A := by
  intro mm a w ha hA
  refine wpIn_loop_rounds (m x + 1) ?_
  have key : ∀ k x a w, m x < k → (∃ ρ, Agree n ρ a mm.2 ∧ C x ρ) → B x w → Code.roundsIn (FR ro) mm.1 P c (QA n mm.2 Q) k a w := by
    intro k
    induction k with
    | zero => intro x a w hk; omega
    | succ k ih =>
      intro x a w hk ⟨ρ, ha, hC⟩ hB
      rw [roundsIn_succ]
      refine wpIn_mono (round x ρ hC mm a w ha hB) ?_
      intro e a' w' hq
      cases e with
      | normal =>
        obtain ⟨ρ', ha', x', hlt, hC', hB'⟩ := hq
        exact ih x' a' w' (by omega) ⟨ρ', ha', hC'⟩ hB'
      | _ => exact hq
  exact key _ x a w (Nat.lt_succ_self _) ⟨ρ, ha, hC⟩ (hB w hA)
def OpU (P : Program) (R : Value → World → Prop) : Result Next → Prop
  | .ok (.value v) w' => R v w'
  | .ok .skip w' => R undef w'
  | .ok (.enter f args) w' => Calls P f args w' fun e w'' => ∃ v, e = .returned v ∧ R v w''
  | .ok (.round l f tmps assign body) w' => RoundIn Fence.wide 0 P l f tmps assign body w' fun e w'' => ∃ v, e = .returned v ∧ R v w''
  | _ => False
def OpX (P : Program) (R : Value → World → Prop) (E : List PanicEntry → World → Prop) : Result Next → Prop
  | .ok (.value v) w' => R v w'
  | .ok .skip w' => R undef w'
  | .ok (.enter f args) w' => Calls P f args w' fun e w'' => (∃ v, e = .returned v ∧ R v w'') ∨ ∃ c, e = .panicked c ∧ E c w''
  | .ok (.round l f tmps assign body) w' => RoundIn Fence.wide 0 P l f tmps assign body w' fun e w'' => ∃ v, e = .returned v ∧ R v w''
  | .halt (.panic v) w' => E [{ v := v, recovered := false }] w'
  | _ => False
theorem OpU.toX {R : Value → World → Prop} {E : List PanicEntry → World → Prop} {r : Result Next} (h : OpU P R r) : OpX P R E r := by
  cases r with
  | ok x w => cases x <;> simp only [OpU, OpX] at h ⊢ <;> first | exact h | exact Calls.mono h (fun e w' he => .inl he)
  | halt x w => simp only [OpU] at h
theorem semAt_of_OpU {o : Oper} {ev : Operand → Value} {w : World} {R : Value → World → Prop} (h : OpU P R ((execOp ev o).run P w)) : o.semAt ro ev = execOp ev o := by
  refine Oper.semAt_eq ro ev o fun c hc => ?_
  obtain ⟨d, op, ty, pos, af, g⟩ := o
  simp only at hc
  subst hc
  simp only [execOp, Sem.run_bind] at h
  cases hr : (resolve ev c ty).run P w with
  | ok x w' => rw [hr] at h; simp [Result.andThen, OpU] at h
  | halt x w' => rw [hr] at h; simp [Result.andThen, OpU] at h
theorem roundIn_more {m m' l : Nat} {f : FuncId} {tmps : Array Value} {assign body : Code} {w : World} {R : Ending → World → Prop} (h : RoundIn Fence.wide m P l f tmps assign body w R) : RoundIn (FR ro) m' P l f tmps assign body w R :=
  ⟨trivial, fun c cs _ => h.2 c cs (room_wide _)⟩
theorem upon_of_OpU {m : Nat} {o : Oper} {a : Act} {next : Act → World → Prop} {Q' : Exit → Act → World → Prop} {R : Value → World → Prop} {r : Result Next}
    (h : OpU P R r) (hn : ∀ v w', R v w' → next (a.put o.dst v) w') : o.uponIn (FR ro) m P a next Q' r := by
  cases r with
  | ok x w' =>
    cases x <;> simp only [OpU] at h <;> simp only [Oper.uponIn]
    case value v => exact hn _ _ h
    case skip => exact hn _ _ h
    case enter f args =>
      refine ⟨fun h => (by cases h), ?_⟩
      have hc : CallsIn (FR ro) (m - 1) P f args w' _ := callsIn_wide.2 h
      refine hc.mono ?_
      rintro e w'' ⟨v, rfl, hr⟩
      exact hn _ _ hr
    case round l f tmps assign body =>
      refine ⟨fun h => (by cases h), (roundIn_more h).mono ?_⟩
      rintro e w'' ⟨v, rfl, hr⟩
      exact hn _ _ hr
  | halt x w' => cases x <;> simp only [OpU] at h
theorem upon_of_OpX {m : Nat} {o : Oper} {a : Act} {next : Act → World → Prop} {Q' : Exit → Act → World → Prop} {R : Value → World → Prop} {E : List PanicEntry → World → Prop} {r : Result Next}
    (h : OpX P R E r) (hn : ∀ v w', R v w' → next (a.put o.dst v) w') (hp : ∀ c w', E c w' → Q' (.panic c) a w') : o.uponIn (FR ro) m P a next Q' r := by
  cases r with
  | ok x w' =>
    cases x <;> simp only [OpX] at h <;> simp only [Oper.uponIn]
    case value v => exact hn _ _ h
    case skip => exact hn _ _ h
    case enter f args =>
      refine ⟨fun h => (by cases h), ?_⟩
      have hc : CallsIn (FR ro) (m - 1) P f args w' _ := callsIn_wide.2 h
      refine hc.mono ?_
      rintro e w'' (⟨v, rfl, hr⟩ | ⟨c, rfl, hr⟩)
      · exact hn _ _ hr
      · exact hp _ _ hr
    case round l f tmps assign body =>
      refine ⟨fun h => (by cases h), (roundIn_more h).mono ?_⟩
      rintro e w'' ⟨v, rfl, hr⟩
      exact hn _ _ hr
  | halt x w' => cases x <;> simp only [OpX] at h <;> first | exact hp _ _ h | exact h.elim
def OpT (P : Program) (ρ : Env) (op : Op) (ty : TypeId) (A : World → Prop) (R : Value → World → Prop) : Prop :=
  ∀ d pos af g w, A w → OpU P R ((execOp (evalE ρ) ⟨d, op, ty, pos, af, g⟩).run P w)
def OpP (P : Program) (ρ : Env) (op : Op) (ty : TypeId) (A : World → Prop) (v : Value) : Prop :=
  ∀ d pos af g w, A w → (execOp (evalE ρ) ⟨d, op, ty, pos, af, g⟩).run P w = .ok (.value v) w
theorem OpP.toT {op : Op} {ty : TypeId} {v : Value} (h : OpP P ρ op ty A v) : OpT P ρ op ty A (fun u w => u = v ∧ A w) := by
  intro d pos af g w hA
  rw [h d pos af g w hA]
  exact ⟨rfl, hA⟩
section
variable {ops : Array Oper} {rest : List Oper} {op : Op} {ty : TypeId} {pos : String} {af : Array Edge} {g : Option (Nat × Bool)} {d : Tmp}
theorem WLA.nil (h : QQ Q .normal ρ A) : WLA ro P n ops Q [] ρ A := fun m a w ha hA => wpListIn_nil ⟨ρ, ha, h w hA⟩
theorem WLA.gen {dst : Option Tmp} {R : Value → World → Prop} (hw : Region.wanted ⟨dst, op, ty, pos, af, g⟩ (yieldedE n ops ρ) = true) (h : OpT P ρ op ty A R)
    (k : ∀ v, WLA ro P n ops Q rest (updO n ρ dst v) (R v)) : WLA ro P n ops Q (⟨dst, op, ty, pos, af, g⟩ :: rest) ρ A := by
  intro m a w ha hA
  refine wpListIn_step fun K hK => ?_
  rw [ha.yielded, if_pos hw]
  unfold Oper.wpIn
  rw [ha.eval]
  have hU := h dst pos af g w hA
  refine ⟨fun _ _ => trivial, ?_⟩
  show Oper.uponIn (FR ro) m.1 P _ a K _ (Sem.run P (Oper.semAt ro (evalE ρ) _) w)
  rw [semAt_of_OpU hU]
  exact upon_of_OpU hU fun v w' hR => hK _ _ (k v _ _ _ (ha.put _ _) hR)
theorem WLA.q {v : Value} (hw : Region.wanted ⟨some d, op, ty, pos, af, g⟩ (yieldedE n ops ρ) = true) (h : OpP P ρ op ty A v)
    (k : WLA ro P n ops Q rest (upd n ρ d v) A) : WLA ro P n ops Q (⟨some d, op, ty, pos, af, g⟩ :: rest) ρ A :=
  WLA.gen hw h.toT fun u => by intro m a w ha ⟨e, hA⟩; subst e; exact k m a w ha hA
theorem WLA.e {τ : Type} {val : τ → Value} {B : τ → World → Prop} (hw : Region.wanted ⟨some d, op, ty, pos, af, g⟩ (yieldedE n ops ρ) = true)
    (h : OpT P ρ op ty A fun v w => ∃ x, v = val x ∧ B x w) (k : ∀ x, WLA ro P n ops Q rest (upd n ρ d (val x)) (B x)) : WLA ro P n ops Q (⟨some d, op, ty, pos, af, g⟩ :: rest) ρ A :=
  WLA.gen hw h fun u => by rintro m a w ha ⟨x, rfl, hB⟩; exact k x m a w ha hB
theorem WLA.e0 {τ : Type} {val : τ → Value} {B : τ → World → Prop} (hw : Region.wanted ⟨none, op, ty, pos, af, g⟩ (yieldedE n ops ρ) = true)
    (h : OpT P ρ op ty A fun v w => ∃ x, v = val x ∧ B x w) (k : ∀ x, WLA ro P n ops Q rest ρ (B x)) : WLA ro P n ops Q (⟨none, op, ty, pos, af, g⟩ :: rest) ρ A :=
  WLA.gen hw h fun u => by rintro m a w ha ⟨x, rfl, hB⟩; exact k x m a w ha hB
theorem WLA.s {B : World → Prop} (hw : Region.wanted ⟨none, op, ty, pos, af, g⟩ (yieldedE n ops ρ) = true)
    (h : OpT P ρ op ty A fun _ w => B w) (k : WLA ro P n ops Q rest ρ B) : WLA ro P n ops Q (⟨none, op, ty, pos, af, g⟩ :: rest) ρ A :=
  WLA.gen hw h fun u => by rintro m a w ha hB; exact k m a w ha hB
theorem WLA.off (hw : Region.wanted ⟨some d, op, ty, pos, af, g⟩ (yieldedE n ops ρ) = false) (k : WLA ro P n ops Q rest (upd n ρ d undef) A) :
    WLA ro P n ops Q (⟨some d, op, ty, pos, af, g⟩ :: rest) ρ A := by
  intro m a w ha hA
  refine wpListIn_step fun K hK => ?_
  rw [ha.yielded, hw]
  exact ⟨fun _ _ => trivial, hK _ _ (k _ _ _ (ha.put (some d) undef) hA)⟩
theorem WPA.mono {B : World → Prop} {c : Code} (h : ∀ w, A w → B w) (k : WPA ro P n c Q ρ B) : WPA ro P n c Q ρ A := fun m a w ha hA => k m a w ha (h w hA)
end
def resL (ρ : Env) : List ResultVar → Option Value
  | [] => some (.tuple #[])
  | [.tmp t] => some (ρ t)
  | [.tmp t, .tmp u] => some (.tuple #[ρ t, ρ u])
  | [.tmp t, .tmp u, .tmp v] => some (.tuple #[ρ t, ρ u, ρ v])
  | _ => none
def resE (rs : Array ResultVar) (ρ : Env) : Option Value := resL ρ rs.toList
def closes : List Nat → World → (World → Prop) → Prop
  | [], w, K => K w
  | D :: l, w, K => w.heap[D]? = some (.deferred (some [])) ∧ closes l (w.putObj D (.deferred none)) K
def fnQ (P : Program) (fn : Func) (R : Value → World → Prop) : Hnd
  | .normal, ρ, w => closes ρ.ms w fun w => ∃ v, (∀ a : Array Value, (∀ i, a.getD i undef = ρ i) → (results fn a).run P w = .ok v w) ∧ R v w
  | .ret, ρ, w => closes ρ.ms w fun w => ∃ v, (∀ a : Array Value, (∀ i, a.getD i undef = ρ i) → (results fn a).run P w = .ok v w) ∧ R v w
  | _, _, _ => False
def Tr (P : Program) (f : FuncId) (args : Array Value) (A : World → Prop) {τ : Type} (val : τ → Value) (B : τ → World → Prop) : Prop :=
  ∀ w, A w → Calls P f args w fun e w' => ∃ x, e = .returned (val x) ∧ B x w'
theorem Tr.intro {f : FuncId} {fn : Func} {c : Code} {args : List Value} {τ : Type} {val : τ → Value} {B : τ → World → Prop} {N : Nat}
    (hf : P.funcs[f]? = some fn) (hb : fn.body = some c) (hn : fn.ntmps = N) (hle : Nat.ble args.length N = true)
    (h : WPA none P N c (fnQ P fn fun v w => ∃ x, v = val x ∧ B x w) (envOf args) A) : Tr P f args.toArray A val B := by
  intro w hA
  subst hn
  refine callsIn_wide.1 (callsIn_of_wp_marks (n := 0) hf hb trivial (wpIn_mono (h (0, []) _ w ⟨?_, ?_, rfl⟩ hA) ?_))
  · have : args.length ≤ fn.ntmps := Nat.le_of_ble_eq_true hle
    simp; omega
  · intro i
    simp only [envOf, Array.getD_eq_getD_getElem?, List.getD_eq_getElem?_getD]
    rw [Array.getElem?_append]
    split
    · rename_i hi; simp
    · rename_i hi
      have : args[i]? = none := by simp at hi; simp [hi]
      rw [this]
      rw [Array.getElem?_replicate]
      split <;> rfl
  · have leave : ∀ (l : List Nat) (w' : World) (tmps : Array Value), closes l w' (fun w => ∃ v, (results fn tmps).run P w = .ok v w ∧ ∃ x, v = val x ∧ B x w) →
        LeavesInM Fence.wide 0 P fn tmps (fun e w' => ∃ x, e = Ending.returned (val x) ∧ B x w') (marks l) .returning w' := by
      intro l
      induction l with
      | nil =>
        rintro w' tmps ⟨v, hr, x, rfl, hB⟩
        exact ⟨_, hr, x, rfl, hB⟩
      | cons D l ih =>
        rintro w' tmps ⟨hD, hk⟩
        exact ⟨(fun h => by cases h), .inl ⟨D, _, rfl, run_takeDeferred hD, ih _ _ hk⟩⟩
    have mono : ∀ (l : List Nat) (w' : World) (K K' : World → Prop), (∀ u, K u → K' u) → closes l w' K → closes l w' K' := by
      intro l
      induction l with
      | nil => intro w' K K' h hk; exact h _ hk
      | cons D l ih => intro w' K K' h hk; exact ⟨hk.1, ih _ _ _ h hk.2⟩
    intro e a w' hq
    cases e with
    | normal => obtain ⟨ρ', ha, hq⟩ := hq; show LeavesInM _ _ _ _ _ _ a.defers _ _; rw [ha.df, List.append_nil]; exact leave _ _ _ (mono _ _ _ _ (fun u ⟨v, hr, hx⟩ => ⟨v, hr _ ha.get, hx⟩) hq)
    | ret => obtain ⟨ρ', ha, hq⟩ := hq; show LeavesInM _ _ _ _ _ _ a.defers _ _; rw [ha.df, List.append_nil]; exact leave _ _ _ (mono _ _ _ _ (fun u ⟨v, hr, hx⟩ => ⟨v, hr _ ha.get, hx⟩) hq)
    | panic c => obtain ⟨ρ', ha, hq⟩ := hq; exact hq.elim
    | outgrown => exact hq.elim
    | exit id => obtain ⟨ρ', ha, hq⟩ := hq; exact hq.elim
    | goto l => obtain ⟨ρ', ha, hq⟩ := hq; exact hq.elim
theorem results_of_resE {fn : Func} {rs : Array ResultVar} {v : Value} {w : World} (hrs : fn.results = rs) (h : resE rs ρ = some v) :
    ∀ a : Array Value, (∀ i, a.getD i undef = ρ i) → (results fn a).run P w = .ok v w := by
  intro a ha
  have hl : fn.results = ⟨rs.toList⟩ := by rw [hrs]
  unfold resE at h
  generalize rs.toList = l at h hl
  unfold resL at h
  split at h
  · cases h; exact results_none hl _ _ _
  · cases h; rw [results_tmp hl, ha]
  · cases h; rw [results_tmp2 hl, ha, ha]
  · cases h; rw [results_tmp3 hl, ha, ha, ha]
  · cases h
theorem QQ.fn_ret {fn : Func} {rs : Array ResultVar} {v : Value} {τ : Type} {val : τ → Value} {B : τ → World → Prop} (hrs : fn.results = rs) (hv : resE rs ρ = some v) (x : τ) (hx : v = val x) (hB : ∀ w, A w → B x w) (hmk : ρ.ms = [] := by rfl) :
    QQ (fnQ P fn fun v w => ∃ x, v = val x ∧ B x w) .ret ρ A := fun w hA => by
  show closes ρ.ms w _
  rw [hmk]
  exact ⟨v, results_of_resE hrs hv, x, hx, hB w hA⟩
theorem QQ.fn_normal {fn : Func} {rs : Array ResultVar} {v : Value} {τ : Type} {val : τ → Value} {B : τ → World → Prop} (hrs : fn.results = rs) (hv : resE rs ρ = some v) (x : τ) (hx : v = val x) (hB : ∀ w, A w → B x w) (hmk : ρ.ms = [] := by rfl) :
    QQ (fnQ P fn fun v w => ∃ x, v = val x ∧ B x w) .normal ρ A := fun w hA => by
  show closes ρ.ms w _
  rw [hmk]
  exact ⟨v, results_of_resE hrs hv, x, hx, hB w hA⟩
def Has (ρ : Env) : List (Nat × Value) → Prop
  | [] => True
  | (i, v) :: l => ρ i = v ∧ Has ρ l
def envL : List (Nat × Value) → Env → Env
  | [], ρ => ρ
  | (i, v) :: l, ρ => ⟨fun j => bif Nat.beq j i then v else (envL l ρ).f j, (envL l ρ).ms⟩
theorem envL_has {ρ : Env} : ∀ {l : List (Nat × Value)}, Has ρ l → envL l ρ = ρ
  | [], _ => rfl
  | (i, v) :: l, h => by
    have hf : (fun j => bif Nat.beq j i then v else ρ.f j) = ρ.f := by
      funext j
      cases hb : Nat.beq j i with
      | false => rfl
      | true => have := Nat.eq_of_beq_eq_true hb; subst this; exact h.1.symm
    simp only [envL, envL_has h.2, hf]
def envM (l : List Nat) (ρ : Env) : Env := ⟨ρ.f, l⟩
theorem WPA.loopM {σ : Type} {c : Code} (mks : List Nat) (slots : σ → List (Nat × Value)) (C : σ → Prop) (B : σ → World → Prop) (m : σ → Nat) (x : σ) (hs : Has ρ (slots x)) (hC : C x) (hB : ∀ w, A w → B x w)
    (round : ∀ x ρ, C x → WPA ro P n c (loopQ (fun x ρ => Has ρ (slots x) ∧ C x ∧ ρ.ms = mks) B m x Q) (envM mks (envL (slots x) ρ)) (B x)) (hmk : ρ.ms = mks := by rfl) : WPA ro P n (.loop c) Q ρ A :=
  WPA.loop (fun x ρ => Has ρ (slots x) ∧ C x ∧ ρ.ms = mks) B m x ⟨hs, hC, hmk⟩ hB fun x ρ ⟨hs, hC, hmk⟩ => by
    have := round x ρ hC
    rw [envL_has hs] at this
    subst hmk
    exact this
theorem WPA.loopS {σ : Type} {c : Code} (slots : σ → List (Nat × Value)) (C : σ → Prop) (B : σ → World → Prop) (m : σ → Nat) (x : σ) (hs : Has ρ (slots x)) (hC : C x) (hB : ∀ w, A w → B x w)
    (round : ∀ x ρ, C x → WPA ro P n c (loopQ (fun x ρ => Has ρ (slots x) ∧ C x ∧ ρ.ms = []) B m x Q) (envM [] (envL (slots x) ρ)) (B x)) (hmk : ρ.ms = [] := by rfl) : WPA ro P n (.loop c) Q ρ A :=
  WPA.loopM [] slots C B m x hs hC hB round hmk
theorem QQ.loopS {σ : Type} {mks : List Nat} {slots : σ → List (Nat × Value)} {C : σ → Prop} {B : σ → World → Prop} {m : σ → Nat} {x : σ} (x' : σ) (hs : Has ρ (slots x')) (hC : C x') (hm : m x' < m x) (hB : ∀ w, A w → B x' w) (hmk : ρ.ms = mks := by rfl) :
    QQ (loopQ (fun x ρ => Has ρ (slots x) ∧ C x ∧ ρ.ms = mks) B m x Q) .normal ρ A := QQ.loop_normal x' hm ⟨hs, hC, hmk⟩ hB
end rules
end Go.Fw
namespace Go.Fw
open Go Go.RowKit
set_option linter.unusedVariables false
set_option linter.unusedSimpArgs false
section
variable {P : Program} {ρ : Env} {A : World → Prop} {ty : TypeId}
theorem P_move {x : Operand} {v : Value} (h : evalE ρ x = v) : OpP P ρ (.move x) ty A v := by
  intro d pos af g w _; simp only [execOp, h]; rfl
theorem P_assign {x : Operand} {v : Value} (h : evalE ρ x = v) : OpP P ρ (.assign x) ty A v := by
  intro d pos af g w _; simp only [execOp, h]; rfl
theorem P_pickT {c a b : Operand} {v : Value} {t : Bool} (hc : evalE ρ c = .bool t) (ht : t = true) (h : evalE ρ a = v) : OpP P ρ (.pick c a b) ty A v := by
  intro d pos af g w _; subst ht; simp only [execOp, h, hc]; rfl
theorem P_pickF {c a b : Operand} {v : Value} {t : Bool} (hc : evalE ρ c = .bool t) (ht : t = false) (h : evalE ρ b = v) : OpP P ρ (.pick c a b) ty A v := by
  intro d pos af g w _; subst ht; simp only [execOp, h, hc]; rfl
theorem P_nilCheck {x : Operand} {a : Addr} (h : evalE ρ x = .pointer (some a)) : OpP P ρ (.nilCheck x) ty A (.pointer (some a)) := by
  intro d pos af g w _; simp only [execOp, h]; rfl
theorem P_not {x : Operand} {t : TypeId} {b : Bool} (h : evalE ρ x = .bool b) : OpP P ρ (.unOp .not t x) ty A (.bool (!b)) := by
  intro d pos af g w _; simp only [execOp, h]; rfl
theorem P_notD {x : Operand} {t : TypeId} {p : Prop} [Decidable p] (h : evalE ρ x = .bool (decide p)) : OpP P ρ (.unOp .not t x) ty A (.bool (decide (¬ p))) := by
  intro d pos af g w _; simp only [execOp, h]; simp [decide_not]; rfl
theorem P_extract {x : Operand} {i : Nat} {vs : Array Value} {v : Value} (h : evalE ρ x = .tuple vs) (hv : vs[i]? = some v) : OpP P ρ (.extract x i) ty A v := by
  intro d pos af g w _; simp only [execOp, h, Instr.extract, hv]; rfl
theorem P_len_slice {x : Operand} {t e : TypeId} {a : Option Addr} {k c : Nat} (ht : P.underlying t = some (.slice e)) (h : evalE ρ x = .slice a k c) :
    OpP P ρ (.call { callee := .builtin .len, args := #[x], argTypes := #[t] }) ty A (.int .i64 k) := by
  intro d pos af g w _; simp [execOp, resolve, invoke, builtin, h, run_underlying ht, Builtin.len_, go_sem, goInt]
theorem P_len_str {x : Operand} {t : TypeId} {s : ByteArray} (ht : P.underlying t = some .string) (h : evalE ρ x = .string s) :
    OpP P ρ (.call { callee := .builtin .len, args := #[x], argTypes := #[t] }) ty A (.int .i64 s.size) := by
  intro d pos af g w _; simp [execOp, resolve, invoke, builtin, h, run_underlying ht, Builtin.len_, go_sem, goInt]
theorem P_add {x y : Operand} {t u : TypeId} {k : IntKind} {a b : Int} (h1 : evalE ρ x = .int k a) (h2 : evalE ρ y = .int k b) : OpP P ρ (.binOp .add t x y u) ty A (.int k (k.wrap (a + b))) := by
  intro d pos af g w _; simp [execOp, eqGuard, binOp, h1, h2, Op.intArith, go_sem]
theorem P_sub {x y : Operand} {t u : TypeId} {k : IntKind} {a b : Int} (h1 : evalE ρ x = .int k a) (h2 : evalE ρ y = .int k b) : OpP P ρ (.binOp .sub t x y u) ty A (.int k (k.wrap (a - b))) := by
  intro d pos af g w _; simp [execOp, eqGuard, binOp, h1, h2, Op.intArith, go_sem]
theorem P_mul {x y : Operand} {t u : TypeId} {k : IntKind} {a b : Int} (h1 : evalE ρ x = .int k a) (h2 : evalE ρ y = .int k b) : OpP P ρ (.binOp .mul t x y u) ty A (.int k (k.wrap (a * b))) := by
  intro d pos af g w _; simp [execOp, eqGuard, binOp, h1, h2, Op.intArith, go_sem]
theorem wrap_i64 {a : Int} (h : -9223372036854775808 ≤ a ∧ a ≤ 9223372036854775807) : IntKind.i64.wrap a = a := by
  simp only [IntKind.wrap, IntKind.bits, IntKind.signed]; simp; omega
theorem wrap_u8 {a : Int} (h : 0 ≤ a ∧ a ≤ 255) : IntKind.u8.wrap a = a := by
  simp only [IntKind.wrap, IntKind.bits, IntKind.signed]; simp; omega
theorem wrap_i32 {a : Int} (h : -2147483648 ≤ a ∧ a ≤ 2147483647) : IntKind.i32.wrap a = a := by
  simp only [IntKind.wrap, IntKind.bits, IntKind.signed]; simp; omega
theorem wrap_u64 {a : Int} (h : 0 ≤ a ∧ a ≤ 18446744073709551615) : IntKind.u64.wrap a = a := by
  simp only [IntKind.wrap, IntKind.bits, IntKind.signed]; simp; omega
theorem P_addB {x y : Operand} {t u : TypeId} {a b : Int} (h1 : evalE ρ x = .int .i64 a) (h2 : evalE ρ y = .int .i64 b) (hb : -9223372036854775808 ≤ a + b ∧ a + b ≤ 9223372036854775807) : OpP P ρ (.binOp .add t x y u) ty A (.int .i64 (a + b)) := by
  have := P_add (P := P) (A := A) (ty := ty) (t := t) (u := u) h1 h2; rwa [wrap_i64 hb] at this
theorem P_subB {x y : Operand} {t u : TypeId} {a b : Int} (h1 : evalE ρ x = .int .i64 a) (h2 : evalE ρ y = .int .i64 b) (hb : -9223372036854775808 ≤ a - b ∧ a - b ≤ 9223372036854775807) : OpP P ρ (.binOp .sub t x y u) ty A (.int .i64 (a - b)) := by
  have := P_sub (P := P) (A := A) (ty := ty) (t := t) (u := u) h1 h2; rwa [wrap_i64 hb] at this
theorem P_mulB {x y : Operand} {t u : TypeId} {a b : Int} (h1 : evalE ρ x = .int .i64 a) (h2 : evalE ρ y = .int .i64 b) (hb : -9223372036854775808 ≤ a * b ∧ a * b ≤ 9223372036854775807) : OpP P ρ (.binOp .mul t x y u) ty A (.int .i64 (a * b)) := by
  have := P_mul (P := P) (A := A) (ty := ty) (t := t) (u := u) h1 h2; rwa [wrap_i64 hb] at this
theorem P_bits {op : BinOp} (hop : op = .and ∨ op = .or ∨ op = .xor) {x y : Operand} {t u : TypeId} {k : IntKind} {a b : Int} (h1 : evalE ρ x = .int k a) (h2 : evalE ρ y = .int k b) : OpP P ρ (.binOp op t x y u) ty A (.int k (Go.bits op k a b)) := by
  intro d pos af g w _
  rcases hop with rfl | rfl | rfl <;> simp [execOp, eqGuard, binOp, h1, h2, Op.intBits, Go.bits, go_sem]
theorem P_quo {x y : Operand} {t u : TypeId} {k : IntKind} {a b : Int} (h1 : evalE ρ x = .int k a) (h2 : evalE ρ y = .int k b) (hb : b ≠ 0) : OpP P ρ (.binOp .quo t x y u) ty A (.int k (k.wrap (a.tdiv b))) := by
  intro d pos af g w _; simp [execOp, eqGuard, binOp, h1, h2, Op.intDiv, hb, go_sem]
theorem P_rem {x y : Operand} {t u : TypeId} {k : IntKind} {a b : Int} (h1 : evalE ρ x = .int k a) (h2 : evalE ρ y = .int k b) (hb : b ≠ 0) : OpP P ρ (.binOp .rem t x y u) ty A (.int k (a.tmod b)) := by
  intro d pos af g w _; simp [execOp, eqGuard, binOp, h1, h2, Op.intDiv, hb, go_sem]
theorem P_shr {x y : Operand} {t u : TypeId} {k k' : IntKind} {a : Int} {s : Nat} (h1 : evalE ρ x = .int k a) (h2 : evalE ρ y = .int k' (s : Int)) (hs : s ≤ k.bits) : OpP P ρ (.binOp .shr t x y u) ty A (.int k (a.fdiv (2 ^ s))) := by
  intro d pos af g w _
  have e : min s k.bits = s := by omega
  simp [execOp, eqGuard, binOp, h1, h2, Op.shift, e, go_sem]
  rw [if_neg (by omega)]
  cases k <;> simp_all [IntKind.bits]
theorem P_lss {x y : Operand} {t u : TypeId} {k : IntKind} {a b : Int} (h1 : evalE ρ x = .int k a) (h2 : evalE ρ y = .int k b) : OpP P ρ (.binOp .lss t x y u) ty A (.bool (decide (a < b))) := by
  intro d pos af g w _; simp [execOp, eqGuard, binOp, h1, h2, Op.intCmp, go_sem]
theorem P_leq {x y : Operand} {t u : TypeId} {k : IntKind} {a b : Int} (h1 : evalE ρ x = .int k a) (h2 : evalE ρ y = .int k b) : OpP P ρ (.binOp .leq t x y u) ty A (.bool (decide (a ≤ b))) := by
  intro d pos af g w _; simp [execOp, eqGuard, binOp, h1, h2, Op.intCmp, go_sem]
theorem P_gtr {x y : Operand} {t u : TypeId} {k : IntKind} {a b : Int} (h1 : evalE ρ x = .int k a) (h2 : evalE ρ y = .int k b) : OpP P ρ (.binOp .gtr t x y u) ty A (.bool (decide (b < a))) := by
  intro d pos af g w _; simp [execOp, eqGuard, binOp, h1, h2, Op.intCmp, go_sem]
theorem P_geq {x y : Operand} {t u : TypeId} {k : IntKind} {a b : Int} (h1 : evalE ρ x = .int k a) (h2 : evalE ρ y = .int k b) : OpP P ρ (.binOp .geq t x y u) ty A (.bool (decide (b ≤ a))) := by
  intro d pos af g w _; simp [execOp, eqGuard, binOp, h1, h2, Op.intCmp, go_sem]
theorem P_eqI {x y : Operand} {t u : TypeId} {k : IntKind} {a b : Int} (h1 : evalE ρ x = .int k a) (h2 : evalE ρ y = .int k b) : OpP P ρ (.binOp .eql t x y u) ty A (.bool (decide (a = b))) := by
  intro d pos af g w _; simp [execOp, eqGuard, binOp, h1, h2, Op.intCmp, go_sem]; rfl
theorem P_neI {x y : Operand} {t u : TypeId} {k : IntKind} {a b : Int} (h1 : evalE ρ x = .int k a) (h2 : evalE ρ y = .int k b) : OpP P ρ (.binOp .neq t x y u) ty A (.bool (decide (a ≠ b))) := by
  intro d pos af g w _; simp [execOp, eqGuard, binOp, h1, h2, Op.intCmp, go_sem, bne, BEq.beq]
theorem bytes_eq (a b : ByteArray) : (a.toList == b.toList) = decide (a = b) := by
  rw [ByteArray.toList_eq, ByteArray.toList_eq, Bool.eq_iff_iff]
  simp only [beq_iff_eq, decide_eq_true_eq]
  constructor
  · intro h; cases a; cases b; simp at h; simp [h]
  · rintro rfl; rfl
theorem P_eqS {x y : Operand} {t u : TypeId} {a b : ByteArray} (h1 : evalE ρ x = .string a) (h2 : evalE ρ y = .string b) : OpP P ρ (.binOp .eql t x y u) ty A (.bool (decide (a = b))) := by
  intro d pos af g w _; rw [← bytes_eq]; simp [execOp, eqGuard, binOp, h1, h2, Op.stringOp, go_sem]
theorem P_neS {x y : Operand} {t u : TypeId} {a b : ByteArray} (h1 : evalE ρ x = .string a) (h2 : evalE ρ y = .string b) : OpP P ρ (.binOp .neq t x y u) ty A (.bool (decide (a ≠ b))) := by
  intro d pos af g w _; rw [decide_not, ← bytes_eq]; simp [execOp, eqGuard, binOp, h1, h2, Op.stringOp, go_sem]
theorem P_catS {x y : Operand} {t u : TypeId} {a b : ByteArray} (h1 : evalE ρ x = .string a) (h2 : evalE ρ y = .string b) (hb : a.size + b.size ≤ 9223372036854775807) : OpP P ρ (.binOp .add t x y u) ty A (.string (a ++ b)) := by
  intro d pos af g w _
  have := run_string_add_sum (P := P) (w := w) a b hb
  simp [execOp, eqGuard, binOp, h1, h2, this, go_sem]
theorem P_convInt {x : Operand} {src dst : TypeId} {k k' : IntKind} {a : Int} {dd : TypeDesc} (hs : P.underlying src = some dd) (hd : P.underlying dst = some (.int k)) (h : evalE ρ x = .int k' a) : OpP P ρ (.convert src dst x) ty A (.int k (k.wrap a)) := by
  intro d pos af g w _; simp [execOp, convert, h, run_underlying hs, run_underlying hd, Conv.intToInt, go_sem]
def bt (s : ByteArray) (i : Int) : Int := if h : i.toNat < s.size then ((s[i.toNat]'h).toNat : Int) else 0
theorem bt_range (s : ByteArray) (i : Int) : 0 ≤ bt s i ∧ bt s i ≤ 255 := by
  unfold bt
  split
  · rename_i h; have := (s[i.toNat]'h).toNat_lt; omega
  · omega
theorem P_index_str {x y : Operand} {t : TypeId} {k : IntKind} {s : ByteArray} {i : Int} (ht : P.underlying t = some .string) (h1 : evalE ρ x = .string s) (h2 : evalE ρ y = .int k i) (h0 : 0 ≤ i) (hi : i < (s.size : Int)) :
    OpP P ρ (.index t x y) ty A (.int .u8 (bt s i)) := by
  intro d pos af g w _
  have hl : i.toNat < s.size := by omega
  have e : s[i.toNat]? = some (s[i.toNat]'hl) := by simp [hl]
  simp [execOp, Instr.index, asIntOf, h1, h2, run_underlying ht, e, h0, bt, hl, go_sem]
theorem P_indexAddr {x y : Operand} {t e : TypeId} {k : IntKind} {b o len cap : Nat} {i : Int} {sz : Nat} (ht : P.underlying t = some (.slice e)) (hz : (P.info? e).map (·.size) = some sz)
    (h1 : evalE ρ x = .slice (some ⟨b, o, none⟩) len cap) (h2 : evalE ρ y = .int k i) (h0 : 0 ≤ i) (hi : i < (len : Int)) :
    OpP P ρ (.indexAddr t x y) ty A (.pointer (some ⟨b, o + i.toNat * sz, none⟩)) := by
  intro d pos af g w _
  obtain ⟨inf, hinf, hz'⟩ := Option.map_eq_some_iff.1 hz
  have ea : (⟨b, o, none⟩ : Addr).add (i.toNat * sz) = ⟨b, o + i.toNat * sz, none⟩ := by
    unfold Addr.add; split
    · rename_i h; simp [h]
    · rfl
  simp [execOp, Instr.indexAt, asIntOf, h1, h2, run_underlying ht, h0, hi, Go.sizeOf, typeInfo, hinf, hz', ea, go_sem]
end
end Go.Fw
namespace Go.Fw
open Go Go.RowKit
set_option linter.unusedVariables false
set_option linter.unusedSimpArgs false
abbrev HeapP := Nat → Option Obj
structure St (w0 : World) (H : HeapP) (L : List (Nat × Obj)) (w : World) : Prop where
  below : Below w0.heap.size w0 w
  imm : ∀ b o, H b = some o → w.heap[b]? = some o
  own : ∀ p ∈ L, w.heap[p.1]? = some p.2 ∧ H p.1 = none ∧ w0.heap.size ≤ p.1
  nodup : (L.map (·.1)).Nodup
  drw : w0.drawn ≤ w.drawn
def HLe (H H' : HeapP) : Prop := ∀ b o, H b = some o → H' b = some o
section
variable {w0 : World} {H : HeapP} {L : List (Nat × Obj)} {w : World}
theorem St.at_ (h : St w0 H L w) {j b : Nat} {o : Obj} (hj : L[j]? = some (b, o)) : w.heap[b]? = some o := (h.own (b, o) (List.mem_of_getElem? hj)).1
theorem St.drop {L' : List (Nat × Obj)} (h : St w0 H L w) (hs : L'.Sublist L) : St w0 H L' w :=
  ⟨h.below, h.imm, fun p hp => h.own p (hs.subset hp), (hs.map (fun p : Nat × Obj => p.1)).nodup h.nodup, h.drw⟩
theorem St.perm {L' : List (Nat × Obj)} (h : St w0 H L w) (hs : L.Perm L') : St w0 H L' w :=
  ⟨h.below, h.imm, fun p hp => h.own p (hs.symm.subset hp), (hs.map (fun p : Nat × Obj => p.1)).nodup h.nodup, h.drw⟩
theorem St.drawn (h : St w0 H L w) (k : Nat) (hk : w.drawn ≤ k) : St w0 H L { w with drawn := k } := ⟨⟨h.below.os, h.below.tape, h.below.output, h.below.size, h.below.block⟩, h.imm, h.own, h.nodup, Nat.le_trans h.drw hk⟩
theorem St.push (h : St w0 H L w) (o : Obj) : St w0 H ((w.heap.size, o) :: L) { w with heap := w.heap.push o } := by
  have hlt : ∀ b u, w.heap[b]? = some u → b < w.heap.size := fun b u e => (Array.getElem?_eq_some_iff.1 e).1
  have hk : ∀ b u, w.heap[b]? = some u → (w.heap.push o)[b]? = some u := fun b u e => by
    rw [Array.getElem?_push, if_neg (by have := hlt b u e; omega)]; exact e
  refine ⟨⟨h.below.os, h.below.tape, h.below.output, by have := h.below.size; simp; omega, fun k hk' => ?_⟩, fun b u e => hk b u (h.imm b u e), fun p hp => ?_, ?_, h.drw⟩
  · have hb := h.below.size
    show (w.heap.push o)[k]? = _
    rw [Array.getElem?_push, if_neg (by omega)]
    exact h.below.block k hk'
  · rcases List.mem_cons.1 hp with rfl | hp
    · refine ⟨by simp, ?_, h.below.size⟩
      cases e : H w.heap.size with
      | none => rfl
      | some u => have := hlt _ _ (h.imm _ _ e); omega
    · obtain ⟨h1, h2, h3⟩ := h.own p hp
      exact ⟨hk _ _ h1, h2, h3⟩
  · rw [List.map_cons, List.nodup_cons]
    refine ⟨fun hm => ?_, h.nodup⟩
    obtain ⟨p, hp, e⟩ := List.mem_map.1 hm
    have := hlt _ _ (h.own p hp).1
    simp only at e
    omega
theorem St.put (h : St w0 H L w) {j b : Nat} {o o' : Obj} (hj : L[j]? = some (b, o)) {w' : World} (hh : ∀ k, w'.heap[k]? = if k = b then some o' else w.heap[k]?)
    (hs : w'.heap.size = w.heap.size) (h1 : w'.os = w.os) (h2 : w'.tape = w.tape) (h3 : w'.output = w.output) (h4 : w.drawn ≤ w'.drawn) : St w0 H (L.set j (b, o')) w' := by
  have hb := h.own _ (List.mem_of_getElem? hj)
  have hjl : j < L.length := (List.getElem?_eq_some_iff.1 hj).1
  have hjb : (L[j]).1 = b := by
    have := (List.getElem?_eq_some_iff.1 hj).2
    rw [this]
  have hnd : ∀ i (hi : i < L.length), i ≠ j → (L[i]).1 ≠ b := by
    intro i hi hne e
    have hn := List.pairwise_iff_getElem.1 h.nodup
    rcases Nat.lt_or_gt_of_ne hne with hlt | hlt
    · have := hn i j (by simpa using hi) (by simpa using hjl) hlt
      simp only [List.getElem_map] at this
      exact this (e.trans hjb.symm)
    · have := hn j i (by simpa using hjl) (by simpa using hi) hlt
      simp only [List.getElem_map] at this
      exact this (hjb.trans e.symm)
  have keys : (L.set j (b, o')).map (·.1) = L.map (·.1) := by
    apply List.ext_getElem
    · simp
    · intro i h1 h2
      simp only [List.getElem_map, List.getElem_set]
      split
      · rename_i e; subst e
        have := (List.getElem?_eq_some_iff.1 hj).2
        rw [this]
      · rfl
  refine ⟨⟨h1.trans h.below.os, h2.trans h.below.tape, h3.trans h.below.output, by rw [hs]; exact h.below.size, fun k hk => ?_⟩, fun k u e => ?_, fun p hp => ?_, by rw [keys]; exact h.nodup, Nat.le_trans h.drw h4⟩
  · rw [hh k, if_neg (by have := hb.2.2; simp only at this; omega)]; exact h.below.block k hk
  · rw [hh k, if_neg (by rintro rfl; have := hb.2.1; simp only at this; rw [this] at e; cases e)]; exact h.imm k u e
  · obtain ⟨i, hi, e⟩ := List.getElem_of_mem hp
    rw [List.getElem_set] at e
    split at e
    · subst e; exact ⟨by rw [hh]; simp, hb.2.1, hb.2.2⟩
    · rename_i hij
      have hi' : i < L.length := by simpa using hi
      have hm : p ∈ L := e ▸ List.getElem_mem hi'
      obtain ⟨g1, g2, g3⟩ := h.own p hm
      exact ⟨by rw [hh, if_neg (by rw [← e]; exact hnd i hi' (Ne.symm hij))]; exact g1, g2, g3⟩
theorem heap_setCell_eq (w : World) (b i : Nat) (v : Value) {cs : Array Value} {t : TypeId} {fr : Nat × Nat} (hb : w.heap[b]? = some (.cells cs t fr)) (k : Nat) :
    (w.setCell ⟨b, i, none⟩ v).heap[k]? = if k = b then some (.cells (cs.setIfInBounds i v) t fr) else w.heap[k]? := by
  by_cases e : k = b
  · subst e; simp [World.setCell, Array.getElem?_modify, hb]
  · rw [if_neg e]; exact Below.heap_setCell w _ v k e
theorem St.setCell (h : St w0 H L w) {j b : Nat} {cs : Array Value} {t : TypeId} {fr : Nat × Nat} (hj : L[j]? = some (b, .cells cs t fr)) (i : Nat) (v : Value) :
    St w0 H (L.set j (b, .cells (cs.setIfInBounds i v) t fr)) (w.setCell ⟨b, i, none⟩ v) :=
  h.put hj (heap_setCell_eq w b i v (h.at_ hj)) (by simp [World.setCell]) rfl rfl rfl (Nat.le_refl _)
theorem St.freeze {b : Nat} {o : Obj} (h : St w0 H ((b, o) :: L) w) : ∃ H', HLe H H' ∧ H' b = some o ∧ St w0 H' L w := by
  have hb := h.own (b, o) (List.mem_cons_self ..)
  simp only at hb
  have hn := h.nodup
  rw [List.map_cons, List.nodup_cons] at hn
  refine ⟨fun k => if k = b then some o else H k, fun k u e => ?_, by simp, ?_⟩
  · by_cases e' : k = b
    · subst e'; rw [hb.2.1] at e; cases e
    · simp [e', e]
  · refine ⟨h.below, fun k u e => ?_, fun p hp => ?_, hn.2, h.drw⟩
    · by_cases e' : k = b
      · subst e'; simp at e; subst e; exact hb.1
      · simp only [e', if_false] at e; exact h.imm k u e
    · obtain ⟨g1, g2, g3⟩ := h.own p (List.mem_cons_of_mem _ hp)
      have hne : p.1 ≠ b := fun e => hn.1 (List.mem_map.2 ⟨p, hp, e⟩)
      exact ⟨g1, by simp only [hne, if_false]; exact g2, g3⟩
end
class DrC (A : World → Prop) : Prop where
  out : ∀ w k, w.drawn ≤ k → A w → A { w with drawn := k }
def oneTy (P : Program) (t : TypeId) : Bool :=
  match P.underlying t with
  | some (.struct _) | some (.array ..) | none => false
  | _ => true
def aggTy (P : Program) (t : TypeId) : Option Nat :=
  match P.underlying t with
  | some (.struct _) | some (.array ..) => (P.info? t).map (·.size)
  | _ => none
section
variable {P : Program} {ρ : Env} {A : World → Prop} {ty : TypeId}
theorem run_isAgg_one {t : TypeId} (h : oneTy P t = true) (w : World) : (isAgg t).run P w = .ok false w := by
  unfold oneTy at h
  cases e : P.underlying t with
  | none => rw [e] at h; cases h
  | some d =>
    rw [e] at h
    cases d <;> first | (simp [isAgg, run_underlying e, go_sem]; done) | (exact absurd h (by simp))
theorem run_isAgg_agg {t : TypeId} {k : Nat} (h : aggTy P t = some k) (w : World) : (isAgg t).run P w = .ok true w ∧ (Go.sizeOf t).run P w = .ok k w := by
  unfold aggTy at h
  cases e : P.underlying t with
  | none => rw [e] at h; cases h
  | some d =>
    rw [e] at h
    cases d <;> first
      | (simp at h; done)
      | (obtain ⟨inf, hi, hz⟩ := Option.map_eq_some_iff.1 h
         exact ⟨by simp [isAgg, run_underlying e, go_sem], by simp [Go.sizeOf, typeInfo, hi, hz, go_sem]⟩)
theorem cell_of_heap {w : World} {b i : Nat} {cs : Array Value} {t : TypeId} {fr : Nat × Nat} {v : Value} (hb : w.heap[b]? = some (.cells cs t fr)) (hi : cs[i]? = some v) : w.cell? ⟨b, i, none⟩ = some v := by
  simp [World.cell?, hb, hi]
theorem P_load {x : Operand} {t : TypeId} {b i : Nat} {v : Value} (ht : oneTy P t = true) (h : evalE ρ x = .pointer (some ⟨b, i, none⟩)) (hA : ∀ w, A w → w.cell? ⟨b, i, none⟩ = some v) :
    OpP P ρ (.load t x) ty A v := by
  intro d pos af g w hw
  simp [execOp, Instr.loadAt, Instr.sureAddr, loadVar, h, run_isAgg_one ht, load, Sem.run, hA w hw, go_sem]
theorem P_loadAgg {x : Operand} {t : TypeId} {b i k : Nat} {vs : List Value} (ht : aggTy P t = some k) (h : evalE ρ x = .pointer (some ⟨b, i, none⟩)) (hk : vs.length = k)
    (hA : ∀ w, A w → ∀ j v, vs[j]? = some v → w.cell? ⟨b, i + j, none⟩ = some v) : OpP P ρ (.load t x) ty A (.agg vs.toArray) := by
  intro d pos af g w hw
  have ha : ∀ j, (⟨b, i, none⟩ : Addr).add j = ⟨b, i + j, none⟩ := fun j => by
    unfold Addr.add; split
    · rename_i e; simp [e]
    · rfl
  have hl := run_loadCells_list (P := P) (w := w) ⟨b, i, none⟩ vs (fun j v e => by rw [ha]; exact hA w hw j v e)
  rw [hk] at hl
  have hl' : (loadCellsFrom ⟨b, i, none⟩ 0 k #[]).run P w = .ok vs.toArray w := hl
  simp [execOp, Instr.loadAt, Instr.sureAddr, loadVar, h, (run_isAgg_agg ht w).1, (run_isAgg_agg ht w).2, hl', go_sem]
variable {w0 : World} {H : HeapP} {L : List (Nat × Obj)}
def fieldOff (P : Program) (s : TypeId) (f : Nat) : Option Nat :=
  match P.underlying s with
  | some (.struct fields) => (fields[f]?).bind fun fd => (P.info? fd.type).bind fun i => if i.size = 0 then none else some fd.offset
  | _ => none
theorem P_fieldAddr {x : Operand} {s : TypeId} {f off : Nat} {b i : Nat} (hf : fieldOff P s f = some off) (h : evalE ρ x = .pointer (some ⟨b, i, none⟩)) :
    OpP P ρ (.fieldAddr s x f) ty A (.pointer (some ⟨b, i + off, none⟩)) := by
  intro d pos af g w _
  unfold fieldOff at hf
  split at hf
  · rename_i fields e
    cases e2 : fields[f]? with
    | none => rw [e2] at hf; cases hf
    | some fd =>
      rw [e2] at hf
      simp only [Option.bind_some] at hf
      cases e3 : P.info? fd.type with
      | none => rw [e3] at hf; cases hf
      | some inf =>
        rw [e3] at hf
        simp only [Option.bind_some] at hf
        split at hf
        · cases hf
        · rename_i hz
          cases hf
          have ha : (⟨b, i, none⟩ : Addr).add fd.offset = ⟨b, i + fd.offset, none⟩ := by
            unfold Addr.add; split
            · rename_i e; simp [e]
            · rfl
          simp [execOp, Instr.fieldAt, Instr.sureAddr, run_underlying e, e2, fieldPlace, Go.sizeOf, typeInfo, e3, hz, ha, h, go_sem]
  · cases hf
theorem T_store (j : Nat) {x y : Operand} {t t' : TypeId} {b i : Nat} {cs : Array Value} {v : Value} (hz : (P.info? t).map (·.size) = some 1) (h : evalE ρ x = .pointer (some ⟨b, i, none⟩))
    (hv : evalE ρ y = v) (h1 : v.oneCell' = true) (hj : L[j]? = some (b, .cells cs t' (0, 0))) (hi : i < cs.size) :
    OpT P ρ (.store t x y) ty (St w0 H L) fun _ w => St w0 H (L.set j (b, .cells (cs.setIfInBounds i v) t' (0, 0))) w := by
  intro d pos af g w hw
  obtain ⟨inf, hinf, hz'⟩ := Option.map_eq_some_iff.1 hz
  have hb := hw.at_ hj
  have hc : w.cell? ⟨b, i, none⟩ = some (cs[i]) := cell_of_heap hb (by simp [hi])
  have hfz : w.frozen? ⟨b, i, none⟩ = false := by simp [World.frozen?, hb]
  have e : (storeVar t ⟨b, i, none⟩ v).run P w = .ok () (w.setCell ⟨b, i, none⟩ v) := by
    have ha0 : (⟨b, i, none⟩ : Addr).add 0 = ⟨b, i, none⟩ := rfl
    cases v <;> first
      | (simp [Value.oneCell'] at h1; done)
      | (simp [storeVar, Go.sizeOf, typeInfo, hinf, hz', storeCells, ha0, store, Sem.run, hc, hfz, go_sem]; done)
  simp only [execOp, Instr.storeAt, Instr.sureAddr, h, hv, Sem.run_bind, Sem.run_pure, pure_bind, Result.andThen, e, OpU]
  exact hw.setCell hj i v
theorem T_alloc {t : TypeId} {z : Value} (hz : (P.info? t).bind (·.zero) = some z) :
    OpT P ρ (.alloc t) ty (St w0 H L) fun v w => ∃ b, v = .pointer (some ⟨b, 0, none⟩) ∧ St w0 H ((b, .cells z.cells t (0, 0)) :: L) w := by
  intro d pos af g w hw
  obtain ⟨inf, hinf, hz'⟩ := Option.bind_eq_some_iff.1 hz
  simp [execOp, Instr.alloc, zeroValue, typeInfo, hinf, hz', newVar, newRow, newObj, go_sem, OpU, Sem.run]
  exact hw.push _
theorem T_box {t : TypeId} {x : Operand} {v : Value} (h : evalE ρ x = v) :
    OpT P ρ (.box t x) ty (St w0 H L) fun u w => ∃ b, u = .pointer (some ⟨b, 0, none⟩) ∧ St w0 H ((b, .cells v.cells t (0, 0)) :: L) w := by
  intro d pos af g w hw
  simp [execOp, Instr.box, h, newVar, newRow, newObj, go_sem, OpU, Sem.run]
  exact hw.push _
end
end Go.Fw
namespace Go.Fw
open Go Go.RowKit
set_option linter.unusedVariables false
set_option linter.unusedSimpArgs false
def callable (P : Program) (f : FuncId) : Bool :=
  match P.funcs[f]? with
  | some fn => fn.body.isSome && !(fn.name == "runtime.NumGoroutine")
  | none => false
section
variable {P : Program} {ρ : Env} {A : World → Prop} {ty : TypeId}
theorem run_callFunc {f : FuncId} (h : callable P f = true) (args : Array Value) (w : World) : (callFunc f args).run P w = .ok (.enter f args) w := by
  unfold callable at h
  cases e : P.funcs[f]? with
  | none => rw [e] at h; cases h
  | some fn =>
    rw [e] at h
    simp only [Bool.and_eq_true, Bool.not_eq_true'] at h
    obtain ⟨h1, h2⟩ := h
    have h3 : ¬ fn.body = none := by cases hb : fn.body <;> simp_all
    have h4 : ¬ fn.name = "runtime.NumGoroutine" := by simpa using h2
    simp [callFunc, e, h4, h3, go_sem]
theorem T_callS {f : FuncId} {args : Array Operand} {argTypes : Array TypeId} {τ : Type} {val : τ → Value} {B : τ → World → Prop} (hf : callable P f = true)
    (hc : Tr P f (args.map (evalE ρ)) A val B) : OpT P ρ (.call { callee := .value (.func f), args := args, argTypes := argTypes }) ty A fun v w => ∃ x, v = val x ∧ B x w := by
  intro d pos af g w hA
  have e : (execOp (evalE ρ) ⟨d, .call { callee := .value (.func f), args := args, argTypes := argTypes }, ty, pos, af, g⟩).run P w = .ok (.enter f (args.map (evalE ρ))) w := by
    simp [execOp, resolve, evalE, Deferred.ofValue, invoke, run_callFunc hf, go_sem]
  rw [e]
  refine (hc w hA).mono ?_
  rintro e w' ⟨x, rfl, hB⟩
  exact ⟨_, rfl, x, rfl, hB⟩
theorem T_callV {c : Operand} {f : FuncId} {caps : Array Value} {args : Array Operand} {argTypes : Array TypeId} {τ : Type} {val : τ → Value} {B : τ → World → Prop} (hf : callable P f = true)
    (hc : Tr P f (args.map (evalE ρ) ++ caps) A val B) (hv : evalE ρ c = .func (.func f) #[] caps) : OpT P ρ (.call { callee := .value c, args := args, argTypes := argTypes }) ty A fun v w => ∃ x, v = val x ∧ B x w := by
  intro d pos af g w hA
  have e : (execOp (evalE ρ) ⟨d, .call { callee := .value c, args := args, argTypes := argTypes }, ty, pos, af, g⟩).run P w = .ok (.enter f (args.map (evalE ρ) ++ caps)) w := by
    simp [execOp, resolve, hv, Deferred.ofValue, invoke, run_callFunc hf, go_sem]
  rw [e]
  refine (hc w hA).mono ?_
  rintro e w' ⟨x, rfl, hB⟩
  exact ⟨_, rfl, x, rfl, hB⟩
def TrP (P : Program) (f : FuncId) (args : Array Value) (A : World → Prop) (v : Value) : Prop := ∀ w, A w → Calls P f args w fun e w' => e = .returned v ∧ ∃ k, w.drawn ≤ k ∧ w' = { w with drawn := k }
end
section
variable {ro : Option Nat} {m : Nat} {P : Program} {ops : Array Oper} {md : Region.Mode}
def YieldsX (P : Program) (ops : Array Oper) (S : World → Prop) (o : Oper) (v : Value) (a : Act) : Prop :=
  (Region.wanted o (yielded ops a.tmps) = true ∧ ∀ w, S w → ((execOp a.eval o).run P w = .ok (.value v) w ∨ ∃ f args, (execOp a.eval o).run P w = .ok (.enter f args) w ∧ Calls P f args w fun e w' => e = .returned v ∧ ∃ k, w.drawn ≤ k ∧ w' = { w with drawn := k })) ∨
  (Region.wanted o (yielded ops a.tmps) = false ∧ v = undef)
theorem YieldsX.mono {S S' : World → Prop} {o : Oper} {v : Value} {a : Act} (h : YieldsX P ops S o v a) (hs : ∀ u, S' u → S u) : YieldsX P ops S' o v a :=
  h.imp (fun ⟨hw, hv⟩ => ⟨hw, fun w hw' => hv w (hs w hw')⟩) id
theorem YieldsX.wpOp {S : World → Prop} {Q' : Exit → Act → World → Prop} {i : Nat} {o : Oper} {v : Value} {a : Act} (hi : ops[i]? = some o) (hy : YieldsX P ops S o v a)
    {K : Act → World → Prop} {w : World} (hS : S w) (h : K (a.put o.dst v) w) (hk : ∀ k, w.drawn ≤ k → K (a.put o.dst v) { w with drawn := k }) : wpOpIn (FR ro) m P ops Q' i K a w := by
  unfold Go.wpOpIn
  simp only [hi]
  rcases hy with ⟨hw, hv⟩ | ⟨hw, rfl⟩
  · rcases hv w hS with e | ⟨f, args, e, hc⟩
    · have hs : o.semAt ro a.eval = execOp a.eval o := semAt_of_OpU (R := fun _ _ => True) (P := P) (w := w) (by rw [e]; trivial)
      rw [if_pos hw]
      refine ⟨fun _ _ => trivial, ?_⟩
      show Oper.uponIn (FR ro) m P _ a K _ (Sem.run P (Oper.semAt ro _ _) w)
      rw [hs, e]; exact h
    · have hs : o.semAt ro a.eval = execOp a.eval o := semAt_of_OpU (R := fun _ _ => True) (P := P) (w := w) (by rw [e]; exact hc.mono fun e' w' he => ⟨v, he.1, trivial⟩)
      rw [if_pos hw]
      refine ⟨fun _ _ => trivial, ?_⟩
      show Oper.uponIn (FR ro) m P _ a K _ (Sem.run P (Oper.semAt ro _ _) w)
      rw [hs, e]
      refine ⟨fun h => (by cases h), ?_⟩
      have hc' : CallsIn (FR ro) (m - 1) P f args w _ := callsIn_wide.2 hc
      refine hc'.mono ?_
      rintro e w' ⟨rfl, k, hk', rfl⟩
      exact hk k hk'
  · simp only [hw, Bool.false_eq_true, if_false]; exact ⟨fun _ _ => trivial, h⟩
theorem YieldsX.of_same {S : World → Prop} {o : Oper} {v : Value} {a a' : Act} (hy : YieldsX P ops S o v a) (he : execOp a'.eval o = execOp a.eval o)
    (hw : Region.wanted o (yielded ops a'.tmps) = Region.wanted o (yielded ops a.tmps)) : YieldsX P ops S o v a' := by
  unfold YieldsX at *
  rw [he, hw]
  exact hy
theorem wpOp_putX {S : World → Prop} {Q' : Exit → Act → World → Prop} {j : Nat} {oi oj : Oper} {v : Value} (hj : ops[j]? = some oj) (hap : oi.apart ops oj = true)
    (hsi : ∀ cs b, oi.op ≠ .select cs b) (hsj : ∀ cs b, oj.op ≠ .select cs b) (hdj : ∀ c, oj.op ≠ .defer c) (hQ : ∀ c a w, Q' (.panic c) (a.put oi.dst v) w → Q' (.panic c) a w) (hO : ¬ LetsOut Q')
    {K : Act → World → Prop} {a : Act} {w : World} (hy : YieldsX P ops S oi v a) (h : wpOpIn (FR ro) m P ops Q' j K (a.put oi.dst v) w) :
    wpOpIn (FR ro) m P ops Q' j (fun a' w' => YieldsX P ops S oi v a' ∧ K (a'.put oi.dst v) w') a w := by
  obtain ⟨h1, h2, h3⟩ := Oper.apart_spec hap
  have keep : ∀ (a : Act), YieldsX P ops S oi v a → ∀ u, YieldsX P ops S oi v (a.put oj.dst u) := fun a hy u =>
    hy.of_same (execOp_put oi hsi a oj.dst u h3) (wanted_put oi a oj.dst u h3)
  unfold wpOpIn at *
  simp only [hj] at *
  rw [wanted_put oj a oi.dst v h1] at h
  split
  · rename_i hw
    simp only [hw, if_true] at h
    have h := h.2
    refine ⟨fun _ _ => trivial, ?_⟩
    rw [Oper.semAt_eq _ _ _ hdj] at h ⊢
    rw [execOp_put oj hsj a oi.dst v h1] at h
    generalize (execOp a.eval oj).run P w = r at *
    cases r with
    | ok x w' =>
      cases x <;> simp only [Oper.uponIn] at h ⊢ <;> try exact h
      case value u => exact ⟨keep a hy _, by rw [← Act.put_comm a v u h2]; exact h⟩
      case skip => exact ⟨keep a hy _, by rw [← Act.put_comm a v undef h2]; exact h⟩
      case defer d =>
        refine ⟨?_, ?_⟩
        · exact (keep { a with defers := d :: a.defers } hy undef)
        · rw [← Act.put_comm _ v undef h2, ← Act.put_defers]; exact h
      case enter f args =>
        refine ⟨h.1, h.2.mono fun e w'' he => ?_⟩
        cases e with
        | returned u => exact ⟨keep a hy _, by rw [← Act.put_comm a v u h2]; exact he⟩
        | panicked c => exact hQ _ _ _ he
        | outgrown => exact he
      case row row args => exact ⟨h.1, h.2.mono fun u w'' he => ⟨keep a hy _, by rw [← Act.put_comm a v u h2]; exact he⟩⟩
      case round l f tmps as_ bd =>
        refine ⟨h.1, h.2.mono fun e w'' he => ?_⟩
        cases e with
        | returned u => exact ⟨keep a hy _, by rw [← Act.put_comm a v u h2]; exact he⟩
        | panicked c => exact hQ _ _ _ he
        | outgrown => exact he
    | halt x w' => cases x <;> simp only [Oper.uponIn] at h ⊢ <;> first | exact hQ _ _ _ h | exact h
  · rename_i hw
    simp only [hw] at h
    exact ⟨fun _ _ => trivial, keep a hy _, by rw [← Act.put_comm a v undef h2]; exact h.2⟩
def noDefer (ops : Array Oper) : Bool := ops.all fun o => match o.op with | .defer _ => false | _ => true
theorem noDefer_spec (h : noDefer ops = true) (j : Nat) (o : Oper) (c : Call) (hj : ops[j]? = some o) : o.op ≠ .defer c := by
  intro e
  have hm : o ∈ ops := Array.mem_of_getElem? hj
  have := Array.all_eq_true_iff_forall_mem.1 h o hm
  rw [e] at this
  cases this
def drawTail (md : Region.Mode) (ops : Array Oper) (n : Nat) : Bool := decide (n = ops.size) || (decide (n < ops.size) && Region.sinkB md ops n && Region.chainB md ops n)
theorem head_only {n : Nat} {listed : Array Bool} (ht : drawTail md ops n = true) (inv : HeadInv md ops n listed) {i j : Nat} (hin : i < n) (hun : listed.getD i true = false) (hj : j ∈ Region.ready md ops listed) : j < n := by
  rcases Nat.lt_or_ge j n with h | h
  · exact h
  · simp only [drawTail, Bool.or_eq_true, Bool.and_eq_true, decide_eq_true_eq] at ht
    rcases ht with ht | ⟨⟨h1, h2⟩, h3⟩
    · obtain ⟨_, oj, hoj, _⟩ := mem_ready.1 hj
      have := (Array.getElem?_eq_some_iff.1 hoj).1
      omega
    · exact absurd hj (tail_waits h2 h3 h1 inv _ i rfl hin hun j h)
def Dr (S : World → Prop) : Prop := ∀ w k, w.drawn ≤ k → S w → S { w with drawn := k }
def wpX (ro : Option Nat) (m : Nat) (P : Program) (md : Region.Mode) (ops : Array Oper) (Q' : Exit → Act → World → Prop) (n : Nat) (L : Array Bool → Act → World → Prop) (W : Nat → Bool) (T : World → Prop) : Nat → (World → Prop) → Array Bool → Act → Prop
  | 0, S, listed, a => ∀ w, S w → L listed a w
  | f + 1, S, listed, a =>
    Region.ready md ops listed ≠ [] ∧ ∀ i ∈ Region.ready md ops listed, i < n ∧ ∀ w, S w →
      wpOpIn (FR ro) m P ops Q' i (fun a' w' => ∃ S' : World → Prop, (W i = false → ∀ u, S' u → S u) ∧ (∀ u, S' u → T u) ∧ Dr S' ∧ S' w' ∧ wpX ro m P md ops Q' n L W T f S' (listed.setIfInBounds i true) a') a w
theorem wpAny_of_X {Q' : Exit → Act → World → Prop} {n g : Nat} {W : Nat → Bool} {T : World → Prop} {L : Array Bool → Act → World → Prop} (hL : ∀ listed a w, L listed a w → wpAnyIn (FR ro) m P md ops Q' g listed a w) :
    ∀ (f : Nat) (S : World → Prop) (listed : Array Bool) (a : Act) (w : World), S w → wpX ro m P md ops Q' n L W T f S listed a → wpAnyIn (FR ro) m P md ops Q' (f + g) listed a w
  | 0, _, listed, a, w, hS, h => by rw [Nat.zero_add]; exact hL _ _ _ (h w hS)
  | f + 1, S, listed, a, w, hS, h => by
    rw [show f + 1 + g = (f + g) + 1 by omega]
    exact ⟨fun h0 => absurd h0 h.1, fun i hi => wpOpIn_mono (fun a' w' ⟨S', _, _, _, hS', h'⟩ => wpAny_of_X hL f S' _ a' w' hS' h') ((h.2 i hi).2 w hS)⟩
def ancB (md : Region.Mode) (ops : Array Oper) : Nat → Nat → Nat → Bool
  | 0, _, _ => false
  | f + 1, i, j => match ops[j]? with
    | some o => o.after.any fun e => Region.binds md e && (Nat.beq e.on i || ancB md ops f i e.on)
    | none => false
theorem anc_listed {n : Nat} {listed : Array Bool} (inv : HeadInv md ops n listed) {i : Nat} : ∀ (f j : Nat), ancB md ops f i j = true → (∀ oj, ops[j]? = some oj → ∀ e ∈ oj.after, Region.binds md e = true → listed.getD e.on false = true) → listed.getD i false = true := by
  intro f
  induction f with
  | zero => intro j h; cases h
  | succ f ih =>
    intro j h hd
    unfold ancB at h
    cases e : ops[j]? with
    | none => rw [e] at h; cases h
    | some o =>
      rw [e] at h
      simp only [Array.any_eq_true', Bool.and_eq_true, Bool.or_eq_true] at h
      obtain ⟨x, hx, hb, h1⟩ := h
      have hl := hd o e x hx hb
      rcases h1 with h1 | h1
      · rwa [← Nat.eq_of_beq_eq_true h1]
      · exact ih x.on h1 fun oj hoj => inv.closed x.on oj hoj hl
def Zc (b : Bool) (T S : World → Prop) : World → Prop := fun u => (b = true ∧ T u) ∨ S u
theorem getD_set_mono {listed : Array Bool} {j k : Nat} (h : listed.getD k true = true) : (listed.setIfInBounds j true).getD k true = true := by
  by_cases hjk : j = k
  · subst hjk
    by_cases hj : j < listed.size
    · simp [Array.getD, hj]
    · simp [Array.getD, hj]
  · rw [getD_set_ne true hjk]; exact h
theorem wpX_first {Q' : Exit → Act → World → Prop} {n i : Nat} {oi : Oper} {v : Value} {L : Array Bool → Act → World → Prop} {W : Nat → Bool} {T : World → Prop} {b : Bool} (hi : ops[i]? = some oi) (hsel : ∀ (j : Nat) (o : Oper) cs b, ops[j]? = some o → o.op ≠ .select cs b) (hdef : ∀ (j : Nat) (o : Oper) c, ops[j]? = some o → o.op ≠ .defer c)
    (hQ : ∀ c a w, Q' (.panic c) (a.put oi.dst v) w → Q' (.panic c) a w) (hO : ¬ LetsOut Q') (hWi : W i = false)
    (ht : drawTail md ops n = true) (hin : i < n) (hdone : ∀ listed a w, L listed a w → ∀ j ∈ Region.ready md ops listed, n ≤ j) :
    ∀ (f : Nat) (S : World → Prop) (listed : Array Bool) (a : Act), HeadInv md ops n listed → (∃ w, S w) → Dr S → (∀ u, S u → T u) →
      (∀ j oj, ops[j]? = some oj → j ≠ i → listed.getD j true = false → (∀ e ∈ oj.after, Region.binds md e = true → e.on ≠ i) → oi.apart ops oj = true) →
      i ∈ Region.ready md ops listed → (b = false → ∀ j, W j = true → ancB md ops ops.size i j = true ∨ listed.getD j true = true) → YieldsX P ops (Zc b T S) oi v a →
      wpX ro m P md ops Q' n L W T f S (listed.setIfInBounds i true) (a.put oi.dst v) → wpX ro m P md ops Q' n L W T (f + 1) S listed a := by
  intro f
  induction f with
  | zero =>
    intro S listed a inv hne hd hT _ hr _ hy H
    have hun := (mem_ready.1 hr).1
    refine ⟨fun h => (by rw [h] at hr; cases hr), fun j hj => ?_⟩
    have hjn := head_only ht inv hin hun hj
    refine ⟨hjn, fun w hS => ?_⟩
    by_cases hji : j = i
    · subst hji; exact hy.wpOp hi (.inr hS) ⟨S, fun _ _ h => h, hT, hd, hS, H⟩ fun k hk => ⟨S, fun _ _ h => h, hT, hd, hd w k hk hS, H⟩
    · obtain ⟨w1, hw1⟩ := hne
      have := hdone _ _ _ (H w1 hw1) j (ready_mono hj hji)
      omega
  | succ f ih =>
    intro S listed a inv hne hd hT hfree hr hanc hy H
    have hun := (mem_ready.1 hr).1
    refine ⟨fun h => (by rw [h] at hr; cases hr), fun j hj => ?_⟩
    have hjn := head_only ht inv hin hun hj
    refine ⟨hjn, fun w hS => ?_⟩
    by_cases hji : j = i
    · subst hji; exact hy.wpOp hi (.inr hS) ⟨S, fun _ _ h => h, hT, hd, hS, H⟩ fun k hk => ⟨S, fun _ _ h => h, hT, hd, hd w k hk hS, H⟩
    · have h1 := (H.2 j (ready_mono hj hji)).2 w hS
      obtain ⟨hjun, oj, hoj, hall⟩ := mem_ready.1 hj
      have hnot : ∀ e ∈ oj.after, Region.binds md e = true → e.on ≠ i := fun e he hb heq => by
        have h1 := hall e he hb
        rw [heq, getD_both hun] at h1
        cases h1
      have hWj : b = false → W j = false := fun hb => by
        cases hw : W j with
        | false => rfl
        | true =>
          rcases hanc hb j hw with h0 | h0
          · have h2 := anc_listed inv ops.size j h0 fun oj' hoj' e he hbd => by
              rw [hoj] at hoj'; cases hoj'; exact hall e he hbd
            rw [getD_both hun] at h2
            cases h2
          · rw [hjun] at h0; cases h0
      have h2 := wpOp_putX hoj (hfree j oj hoj hji hjun hnot) (fun cs b => hsel i oi cs b hi) (fun cs b => hsel j oj cs b hoj) (fun c => hdef j oj c hoj) hQ hO hy h1
      have hfree' : ∀ k ok, ops[k]? = some ok → k ≠ i → (listed.setIfInBounds j true).getD k true = false →
          (∀ e ∈ ok.after, Region.binds md e = true → e.on ≠ i) → oi.apart ops ok = true := fun k ok hk hki hun hno => by
        refine hfree k ok hk hki ?_ hno
        by_cases hjk : j = k
        · subst hjk; exact hjun
        · rw [getD_set_ne true hjk] at hun; exact hun
      refine wpOpIn_mono (fun a' w' h3 => ?_) h2
      obtain ⟨hy', S', hs, hT', hd', hS', hx⟩ := h3
      have hz : ∀ u, Zc b T S' u → Zc b T S u := fun u hu => by
        cases b with
        | true => exact hu.elim (fun h => .inl h) (fun h => .inl ⟨rfl, hT' u h⟩)
        | false => exact hu.elim (fun h => .inl h) (fun h => .inr (hs (hWj rfl) u h))
      refine ⟨S', hs, hT', hd', hS', ih S' (listed.setIfInBounds j true) a' (inv.set hj hjn) ⟨w', hS'⟩ hd' hT' hfree' (ready_mono hr (Ne.symm hji)) (fun hb k hk => (hanc hb k hk).imp id fun h => getD_set_mono h) (hy'.mono hz) ?_⟩
      rw [Array.setIfInBounds_comm _ _ hji]
      exact hx
theorem wpAnyIn_of_seq {Q' : Exit → Act → World → Prop} : ∀ (l : List Oper) (k : Nat) (listed : Array Bool) (a : Act) (w : World), (∀ j, l[j]? = ops[k + j]?) →
    Region.seqB md ops l.length k listed = true → wpListIn (FR ro) m P ops Q' l a w → wpAnyIn (FR ro) m P md ops Q' l.length listed a w
  | [], _, _, _, _, _, hB, h => ⟨by simpa [Region.seqB] using hB, h⟩
  | o :: l, k, listed, a, w, hl, hB, h => by
    have h0 : ops[k]? = some o := by simpa using (hl 0).symm
    simp only [List.length_cons, Region.seqB, Bool.and_eq_true, decide_eq_true_eq] at hB
    refine ⟨fun h1 => (by rw [hB.1] at h1; cases h1), fun i hi => ?_⟩
    rw [hB.1] at hi
    have hik : i = k := by simpa using hi
    subst hik
    have hw : wpOpIn (FR ro) m P ops Q' i (wpListIn (FR ro) m P ops Q' l) a w := by unfold wpOpIn; simp only [h0]; exact h
    exact wpOpIn_mono (fun a' w' h' => wpAnyIn_of_seq l (i + 1) _ a' w' (fun j => by have := hl (j + 1); simpa [Nat.add_assoc, Nat.add_comm 1 j] using this) hB.2 h') hw
inductive Plan where
  | fin
  | q (i : Nat) (r : Plan)
  | p (i : Nat) (r : Plan)
  | e (i : Nat) (r : Plan)
  | w (i : Nat) (r : Plan)
  | b (wi : Bool) (i : Nat) (ri : Plan) (wj : Bool) (j : Nat) (rj : Plan)
  | t (wi : Bool) (i : Nat) (ri : Plan) (wj : Bool) (j : Nat) (rj : Plan) (wk : Bool) (k : Nat) (rk : Plan)
def Plan.writes : Plan → List Nat
  | .fin => []
  | .q _ r | .p _ r | .e _ r => r.writes
  | .w i r => i :: r.writes
  | .b wi i r wj j r' => (bif wi then [i] else []) ++ (bif wj then [j] else []) ++ r.writes ++ r'.writes
  | .t wi i r wj j r' wk k r'' => (bif wi then [i] else []) ++ ((bif wj then [j] else []) ++ ((bif wk then [k] else []) ++ (r.writes ++ (r'.writes ++ r''.writes))))
def Plan.ok (md : Region.Mode) (ops : Array Oper) (n : Nat) (W : List Nat) : Plan → Nat → Array Bool → Bool
  | .fin, f, listed => decide (f = 0) && Region.seqB md ops (ops.size - n) n listed
  | .q i r, f, listed => decide (0 < f) && decide (i < n) && (Region.ready md ops listed).contains i && Region.free md ops listed i && (!W.contains i && W.all fun j => ancB md ops ops.size i j || listed.getD j true) && r.ok md ops n W (f - 1) (listed.setIfInBounds i true)
  | .p i r, f, listed => decide (0 < f) && decide (i < n) && (Region.ready md ops listed).contains i && Region.free md ops listed i && !W.contains i && r.ok md ops n W (f - 1) (listed.setIfInBounds i true)
  | .e i r, f, listed => decide (0 < f) && decide (i < n) && decide (Region.ready md ops listed = [i]) && r.ok md ops n W (f - 1) (listed.setIfInBounds i true)
  | .w i r, f, listed => decide (0 < f) && decide (i < n) && decide (Region.ready md ops listed = [i]) && W.contains i && r.ok md ops n W (f - 1) (listed.setIfInBounds i true)
  | .b wi i ri wj j rj, f, listed => decide (0 < f) && decide (i < n) && decide (j < n) && (!wi || W.contains i) && (!wj || W.contains j) && decide (Region.ready md ops listed = [i, j]) && ri.ok md ops n W (f - 1) (listed.setIfInBounds i true) && rj.ok md ops n W (f - 1) (listed.setIfInBounds j true)
  | .t wi i ri wj j rj wk k rk, f, listed => decide (0 < f) && (decide (i < n) && (decide (j < n) && (decide (k < n) && ((!wi || W.contains i) && ((!wj || W.contains j) && ((!wk || W.contains k) && (decide (Region.ready md ops listed = [i, j, k]) && (ri.ok md ops n W (f - 1) (listed.setIfInBounds i true) && (rj.ok md ops n W (f - 1) (listed.setIfInBounds j true) && rk.ok md ops n W (f - 1) (listed.setIfInBounds k true))))))))))
def WDA (ro : Option Nat) (P : Program) (N : Nat) (ops : Array Oper) (Q : Hnd) (T : World → Prop) (n : Nat) : Plan → Env → (World → Prop) → Prop
  | .fin, ρ, A => WLA ro P N ops Q (ops.toList.drop n) ρ A
  | .q i r, ρ, A => ∃ o v, ops[i]? = some o ∧ ((Region.wanted o (yieldedE N ops ρ) = true ∧ ∀ w, A w → ((execOp (evalE ρ) o).run P w = .ok (.value v) w ∨ ∃ f args, (execOp (evalE ρ) o).run P w = .ok (.enter f args) w ∧ Calls P f args w fun e w' => e = .returned v ∧ ∃ k, w.drawn ≤ k ∧ w' = { w with drawn := k })) ∨ (Region.wanted o (yieldedE N ops ρ) = false ∧ v = undef)) ∧
      WDA ro P N ops Q T n r (updO N ρ o.dst v) A
  | .p i r, ρ, A => ∃ o v, ops[i]? = some o ∧ ((Region.wanted o (yieldedE N ops ρ) = true ∧ ∀ w, T w → (execOp (evalE ρ) o).run P w = .ok (.value v) w) ∨ (Region.wanted o (yieldedE N ops ρ) = false ∧ v = undef)) ∧
      WDA ro P N ops Q T n r (updO N ρ o.dst v) A
  | .w i r, ρ, A => ∃ (o : Oper) (τ : Type) (val : τ → Value) (B : τ → World → Prop), ops[i]? = some o ∧ Region.wanted o (yieldedE N ops ρ) = true ∧ (∀ w, A w → OpX P (fun v w => ∃ x, v = val x ∧ B x w) (fun c w => Q (.panic c) ρ w) ((execOp (evalE ρ) o).run P w)) ∧ (∀ x, Dr (B x)) ∧ (∀ x w, B x w → T w) ∧ ∀ x, WDA ro P N ops Q T n r (updO N ρ o.dst (val x)) (B x)
  | .e i r, ρ, A => ∃ (o : Oper) (τ : Type) (val : τ → Value) (B : τ → World → Prop), ops[i]? = some o ∧ Region.wanted o (yieldedE N ops ρ) = true ∧ (∀ w, A w → OpX P (fun v w => ∃ x, v = val x ∧ B x w) (fun c w => Q (.panic c) ρ w) ((execOp (evalE ρ) o).run P w)) ∧ (∀ x, Dr (B x)) ∧ (∀ x w, B x w → T w) ∧ (∀ x w, B x w → A w) ∧ ∀ x, WDA ro P N ops Q T n r (updO N ρ o.dst (val x)) (B x)
  | .b wi i ri wj j rj, ρ, A =>
      (∃ (o : Oper) (τ : Type) (val : τ → Value) (B : τ → World → Prop), ops[i]? = some o ∧ Region.wanted o (yieldedE N ops ρ) = true ∧ (∀ w, A w → OpX P (fun v w => ∃ x, v = val x ∧ B x w) (fun c w => Q (.panic c) ρ w) ((execOp (evalE ρ) o).run P w)) ∧ (∀ x, Dr (B x)) ∧ (∀ x w, B x w → T w) ∧ (wi = false → ∀ x w, B x w → A w) ∧ ∀ x, WDA ro P N ops Q T n ri (updO N ρ o.dst (val x)) (B x)) ∧
      (∃ (o : Oper) (τ : Type) (val : τ → Value) (B : τ → World → Prop), ops[j]? = some o ∧ Region.wanted o (yieldedE N ops ρ) = true ∧ (∀ w, A w → OpX P (fun v w => ∃ x, v = val x ∧ B x w) (fun c w => Q (.panic c) ρ w) ((execOp (evalE ρ) o).run P w)) ∧ (∀ x, Dr (B x)) ∧ (∀ x w, B x w → T w) ∧ (wj = false → ∀ x w, B x w → A w) ∧ ∀ x, WDA ro P N ops Q T n rj (updO N ρ o.dst (val x)) (B x))
  | .t wi i ri wj j rj wk k rk, ρ, A =>
      (∃ (o : Oper) (τ : Type) (val : τ → Value) (B : τ → World → Prop), ops[i]? = some o ∧ Region.wanted o (yieldedE N ops ρ) = true ∧ (∀ w, A w → OpX P (fun v w => ∃ x, v = val x ∧ B x w) (fun c w => Q (.panic c) ρ w) ((execOp (evalE ρ) o).run P w)) ∧ (∀ x, Dr (B x)) ∧ (∀ x w, B x w → T w) ∧ (wi = false → ∀ x w, B x w → A w) ∧ ∀ x, WDA ro P N ops Q T n ri (updO N ρ o.dst (val x)) (B x)) ∧
      (∃ (o : Oper) (τ : Type) (val : τ → Value) (B : τ → World → Prop), ops[j]? = some o ∧ Region.wanted o (yieldedE N ops ρ) = true ∧ (∀ w, A w → OpX P (fun v w => ∃ x, v = val x ∧ B x w) (fun c w => Q (.panic c) ρ w) ((execOp (evalE ρ) o).run P w)) ∧ (∀ x, Dr (B x)) ∧ (∀ x w, B x w → T w) ∧ (wj = false → ∀ x w, B x w → A w) ∧ ∀ x, WDA ro P N ops Q T n rj (updO N ρ o.dst (val x)) (B x)) ∧
      (∃ (o : Oper) (τ : Type) (val : τ → Value) (B : τ → World → Prop), ops[k]? = some o ∧ Region.wanted o (yieldedE N ops ρ) = true ∧ (∀ w, A w → OpX P (fun v w => ∃ x, v = val x ∧ B x w) (fun c w => Q (.panic c) ρ w) ((execOp (evalE ρ) o).run P w)) ∧ (∀ x, Dr (B x)) ∧ (∀ x w, B x w → T w) ∧ (wk = false → ∀ x w, B x w → A w) ∧ ∀ x, WDA ro P N ops Q T n rk (updO N ρ o.dst (val x)) (B x))
theorem QA_panic {N : Nat} {ds : List Deferred} {Q : Hnd} {c : List PanicEntry} {a : Act} {w : World} {d : Option Tmp} {v : Value} (h : QA N ds Q (.panic c) (a.put d v) w) : QA N ds Q (.panic c) a w := by
  obtain ⟨ρ, h1, h2⟩ := h
  exact ⟨ρ, by cases d <;> exact h1, h2⟩
theorem QA_out {N : Nat} {ds : List Deferred} {Q : Hnd} : ¬ LetsOut (QA N ds Q) := fun ⟨_, _, h⟩ => h
theorem wpOp_eff {N : Nat} {ds : List Deferred} {Q : Hnd} {i : Nat} {o : Oper} {R : Value → World → Prop} {ρ : Env} {A : World → Prop} {a : Act} {w : World} {K : Act → World → Prop} (hi : ops[i]? = some o)
    (hw : Region.wanted o (yieldedE N ops ρ) = true) (hnd : ∀ c, o.op ≠ .defer c) (h : ∀ w, A w → OpX P R (fun c w => Q (.panic c) ρ w) ((execOp (evalE ρ) o).run P w)) (ha : Agree N ρ a ds) (hA : A w) (hK : ∀ v w', R v w' → K (a.put o.dst v) w') : wpOpIn (FR ro) m P ops (QA N ds Q) i K a w := by
  unfold wpOpIn
  simp only [hi]
  rw [ha.yielded, if_pos hw]
  have hU := h w hA
  refine ⟨fun _ _ => trivial, ?_⟩
  rw [ha.eval]
  show Oper.uponIn (FR ro) m P _ a K _ (Sem.run P (Oper.semAt ro (evalE ρ) _) w)
  rw [Oper.semAt_eq ro (evalE ρ) o fun c h => absurd h (hnd c)]
  exact upon_of_OpX hU hK fun c w' hE => ⟨ρ, ha.df, hE⟩
theorem wpX_of_plan {N : Nat} {ds : List Deferred} {Q : Hnd} {n : Nat} {T : World → Prop} (W : List Nat) (hns : Region.noSelect ops = true) (hnd : noDefer ops = true) (ht : drawTail md ops n = true) : ∀ (pl : Plan) (f : Nat) (listed : Array Bool) (ρ : Env) (A : World → Prop) (a : Act),
    pl.ok md ops n W f listed = true → WDA ro P N ops Q T n pl ρ A → HeadInv md ops n listed → Agree N ρ a ds → (∃ w, A w) → Dr A → (∀ u, A u → T u) →
    wpX ro m P md ops (QA N ds Q) n (fun listed a w => Region.seqB md ops (ops.size - n) n listed = true ∧ wpListIn (FR ro) m P ops (QA N ds Q) (ops.toList.drop n) a w) W.contains T f A listed a := by
  have hdone : ∀ (listed : Array Bool) (a : Act) (w : World), (Region.seqB md ops (ops.size - n) n listed = true ∧ wpListIn (FR ro) m P ops (QA N ds Q) (ops.toList.drop n) a w) → ∀ j ∈ Region.ready md ops listed, n ≤ j := fun listed a w h => seqB_ready h.1
  intro pl
  induction pl with
  | fin =>
    intro f listed ρ A a hok hwd inv ha hne hd hT
    simp only [Plan.ok, Bool.and_eq_true, decide_eq_true_eq] at hok
    obtain ⟨rfl, hq⟩ := hok
    exact fun w hA => ⟨hq, hwd (m, ds) a w ha hA⟩
  | q i r ih =>
    intro f listed ρ A a hok hwd inv ha hne hd hT
    simp only [Plan.ok, Bool.and_eq_true, decide_eq_true_eq, Bool.not_eq_true'] at hok
    obtain ⟨⟨⟨⟨⟨hf, hin⟩, hr⟩, hfr⟩, hWi, hWa⟩, hok⟩ := hok
    obtain ⟨f, rfl⟩ : ∃ m, f = m + 1 := ⟨f - 1, by omega⟩
    obtain ⟨o, v, hi, hy, hwd⟩ := hwd
    have hr' : i ∈ Region.ready md ops listed := by simpa using hr
    refine wpX_first (b := false) hi (Region.noSelect_spec hns) (fun j o c hj => noDefer_spec hnd j o c hj) (fun c a w h => QA_panic h) QA_out hWi ht hin hdone f A listed a inv hne hd hT (Region.free_spec hi hfr) hr' (fun _ j hj => by have := List.all_eq_true.1 hWa j (by simpa using hj); simpa using this) ?_ (ih f _ _ A _ hok hwd (inv.set hr' hin) (ha.put _ _) hne hd hT)
    unfold YieldsX
    rw [ha.eval, ha.yielded]
    exact hy.imp (fun ⟨h1, h2⟩ => ⟨h1, fun w hw => h2 w (hw.elim (fun h => by cases h.1) id)⟩) id
  | p i r ih =>
    intro f listed ρ A a hok hwd inv ha hne hd hT
    simp only [Plan.ok, Bool.and_eq_true, decide_eq_true_eq, Bool.not_eq_true'] at hok
    obtain ⟨⟨⟨⟨⟨hf, hin⟩, hr⟩, hfr⟩, hWi⟩, hok⟩ := hok
    obtain ⟨f, rfl⟩ : ∃ m, f = m + 1 := ⟨f - 1, by omega⟩
    obtain ⟨o, v, hi, hy, hwd⟩ := hwd
    have hr' : i ∈ Region.ready md ops listed := by simpa using hr
    refine wpX_first (b := true) hi (Region.noSelect_spec hns) (fun j o c hj => noDefer_spec hnd j o c hj) (fun c a w h => QA_panic h) QA_out hWi ht hin hdone f A listed a inv hne hd hT (Region.free_spec hi hfr) hr' (fun h => by cases h) ?_ (ih f _ _ A _ hok hwd (inv.set hr' hin) (ha.put _ _) hne hd hT)
    unfold YieldsX
    rw [ha.eval, ha.yielded]
    exact hy.imp (fun ⟨h1, h2⟩ => ⟨h1, fun w hw => .inl (h2 w (hw.elim (fun h => h.2) (hT w)))⟩) id
  | e i r ih =>
    intro f listed ρ A a hok hwd inv ha hne hd hT
    simp only [Plan.ok, Bool.and_eq_true, decide_eq_true_eq] at hok
    obtain ⟨⟨⟨hf, hin⟩, hr⟩, hok⟩ := hok
    obtain ⟨f, rfl⟩ : ∃ m, f = m + 1 := ⟨f - 1, by omega⟩
    obtain ⟨o, τ, val, B, hi, hw, h, hdB, hTB, hm, hwd⟩ := hwd
    refine ⟨by rw [hr]; simp, fun j hj => ?_⟩
    have hij : j = i := by rw [hr] at hj; simpa using hj
    subst hij
    exact ⟨hin, fun w hA => wpOp_eff hi hw (fun c => noDefer_spec hnd _ _ c hi) h ha hA fun v w' ⟨x, e, hR⟩ => ⟨B x, fun _ u hu => hm x u hu, hTB x, hdB x, hR, ih f _ _ _ _ hok (hwd x) (inv.set hj hin) (by rw [e]; exact ha.put _ _) ⟨w', hR⟩ (hdB x) (hTB x)⟩⟩
  | w i r ih =>
    intro f listed ρ A a hok hwd inv ha hne hd hT
    simp only [Plan.ok, Bool.and_eq_true, decide_eq_true_eq] at hok
    obtain ⟨⟨⟨⟨hf, hin⟩, hr⟩, hWi⟩, hok⟩ := hok
    obtain ⟨f, rfl⟩ : ∃ m, f = m + 1 := ⟨f - 1, by omega⟩
    obtain ⟨o, τ, val, B, hi, hw, h, hdB, hTB, hwd⟩ := hwd
    refine ⟨by rw [hr]; simp, fun j hj => ?_⟩
    have hij : j = i := by rw [hr] at hj; simpa using hj
    subst hij
    exact ⟨hin, fun w hA => wpOp_eff hi hw (fun c => noDefer_spec hnd _ _ c hi) h ha hA fun v w' ⟨x, e, hR⟩ => ⟨B x, fun hk => (by rw [hWi] at hk; cases hk), hTB x, hdB x, hR, ih f _ _ _ _ hok (hwd x) (inv.set hj hin) (by rw [e]; exact ha.put _ _) ⟨w', hR⟩ (hdB x) (hTB x)⟩⟩
  | b wi i ri wj j rj ihi ihj =>
    intro f listed ρ A a hok hwd inv ha hne hd hT
    simp only [Plan.ok, Bool.and_eq_true, decide_eq_true_eq, Bool.or_eq_true, Bool.not_eq_true'] at hok
    obtain ⟨⟨⟨⟨⟨⟨⟨hf, hin⟩, hjn⟩, hwi⟩, hwj⟩, hr⟩, hoki⟩, hokj⟩ := hok
    obtain ⟨f, rfl⟩ : ∃ m, f = m + 1 := ⟨f - 1, by omega⟩
    obtain ⟨⟨o, τ, val, B, hi, hw, h, hdB, hTB, hm, hwd⟩, o', τ', val', B', hi', hw', h', hdB', hTB', hm', hwd'⟩ := hwd
    have key : ∀ {wk : Bool} {k : Nat}, (wk = false ∨ W.contains k = true) → W.contains k = false → wk = false := fun h hk => h.elim id (fun h => by rw [hk] at h; cases h)
    refine ⟨by rw [hr]; simp, fun k hk => ?_⟩
    have hij : k = i ∨ k = j := by rw [hr] at hk; simpa using hk
    rcases hij with rfl | rfl
    · exact ⟨hin, fun w hA => wpOp_eff hi hw (fun c => noDefer_spec hnd _ _ c hi) h ha hA fun v w' ⟨x, e, hR⟩ => ⟨B x, fun hc u hu => hm (key hwi hc) x u hu, hTB x, hdB x, hR, ihi f _ _ _ _ hoki (hwd x) (inv.set hk hin) (by rw [e]; exact ha.put _ _) ⟨w', hR⟩ (hdB x) (hTB x)⟩⟩
    · exact ⟨hjn, fun w hA => wpOp_eff hi' hw' (fun c => noDefer_spec hnd _ _ c hi') h' ha hA fun v w' ⟨x, e, hR⟩ => ⟨B' x, fun hc u hu => hm' (key hwj hc) x u hu, hTB' x, hdB' x, hR, ihj f _ _ _ _ hokj (hwd' x) (inv.set hk hjn) (by rw [e]; exact ha.put _ _) ⟨w', hR⟩ (hdB' x) (hTB' x)⟩⟩
  | t wi i ri wj j rj wk k rk ihi ihj ihk =>
    intro f listed ρ A a hok hwd inv ha hne hd hT
    simp only [Plan.ok, Bool.and_eq_true, decide_eq_true_eq, Bool.or_eq_true, Bool.not_eq_true'] at hok
    obtain ⟨hf, hin, hjn, hkn, hwi, hwj, hwk, hr, hoki, hokj, hokk⟩ := hok
    obtain ⟨f, rfl⟩ : ∃ m, f = m + 1 := ⟨f - 1, by omega⟩
    obtain ⟨⟨o, τ, val, B, hi, hw, h, hdB, hTB, hm, hwd⟩, ⟨o', τ', val', B', hi', hw', h', hdB', hTB', hm', hwd'⟩, o'', τ'', val'', B'', hi'', hw'', h'', hdB'', hTB'', hm'', hwd''⟩ := hwd
    have key : ∀ {wk : Bool} {k : Nat}, (wk = false ∨ W.contains k = true) → W.contains k = false → wk = false := fun h hk => h.elim id (fun h => by rw [hk] at h; cases h)
    refine ⟨by rw [hr]; simp, fun l hl => ?_⟩
    have hij : l = i ∨ l = j ∨ l = k := by rw [hr] at hl; simpa using hl
    rcases hij with rfl | rfl | rfl
    · exact ⟨hin, fun w hA => wpOp_eff hi hw (fun c => noDefer_spec hnd _ _ c hi) h ha hA fun v w' ⟨x, e, hR⟩ => ⟨B x, fun hc u hu => hm (key hwi hc) x u hu, hTB x, hdB x, hR, ihi f _ _ _ _ hoki (hwd x) (inv.set hl hin) (by rw [e]; exact ha.put _ _) ⟨w', hR⟩ (hdB x) (hTB x)⟩⟩
    · exact ⟨hjn, fun w hA => wpOp_eff hi' hw' (fun c => noDefer_spec hnd _ _ c hi') h' ha hA fun v w' ⟨x, e, hR⟩ => ⟨B' x, fun hc u hu => hm' (key hwj hc) x u hu, hTB' x, hdB' x, hR, ihj f _ _ _ _ hokj (hwd' x) (inv.set hl hjn) (by rw [e]; exact ha.put _ _) ⟨w', hR⟩ (hdB' x) (hTB' x)⟩⟩
    · exact ⟨hkn, fun w hA => wpOp_eff hi'' hw'' (fun c => noDefer_spec hnd _ _ c hi'') h'' ha hA fun v w' ⟨x, e, hR⟩ => ⟨B'' x, fun hc u hu => hm'' (key hwk hc) x u hu, hTB'' x, hdB'' x, hR, ihk f _ _ _ _ hokk (hwd'' x) (inv.set hl hkn) (by rw [e]; exact ha.put _ _) ⟨w', hR⟩ (hdB'' x) (hTB'' x)⟩⟩
def drawOk (ops : Array Oper) (n : Nat) (pl : Plan) : Bool := Region.noSelect ops && noDefer ops && decide (n ≤ ops.size) && drawTail .any ops n && pl.ok .any ops n pl.writes n (Array.replicate ops.size false)
theorem WPA.draw {N : Nat} {Q : Hnd} {ρ : Env} {A : World → Prop} {id : Nat} {l : List Oper} (n : Nat) (pl : Plan) (hm : P.follows .mixedOrders = true) (hok : drawOk l.toArray n pl = true)
    [hdr : DrC A] {T : World → Prop} (hT : ∀ w, A w → T w) (h : WDA ro P N l.toArray Q T n pl ρ A) : WPA ro P N (.region id l.toArray true) Q ρ A := by
  intro m a w ha hA
  simp only [drawOk, Bool.and_eq_true, decide_eq_true_eq] at hok
  obtain ⟨⟨⟨⟨hns, hnd⟩, hle⟩, ht⟩, hok⟩ := hok
  refine wpIn_region_any hm ?_
  have inv : HeadInv .any l.toArray n (Array.replicate l.toArray.size false) := by
    refine ⟨by simp, fun j oj hj hl => ?_, fun t _ ht => ?_⟩
    · rw [getD_replicate_false] at hl; cases hl
    · exact getD_in (by simpa using ht) (getD_replicate_false _ _)
  have hx := wpX_of_plan (ro := ro) (m := m.1) (ds := m.2) pl.writes hns hnd ht pl n _ ρ A a hok h inv ha ⟨w, hA⟩ hdr.out hT
  have := wpAny_of_X (g := l.toArray.size - n) (fun listed a w hL => ?_) n A _ a _ (hdr.out w (w.drawn + 1) (Nat.le_succ _) hA) hx
  · rwa [show n + (l.toArray.size - n) = l.toArray.size by omega] at this
  · have hlen : (l.toArray.toList.drop n).length = l.toArray.size - n := by simp
    have := wpAnyIn_of_seq (l.toArray.toList.drop n) n listed a w (fun j => by simp) (by rw [hlen]; exact hL.1) hL.2
    rwa [hlen] at this
variable {N : Nat} {Q : Hnd} {T : World → Prop} {ρ : Env} {A : World → Prop} {n i : Nat} {r : Plan} {d : Tmp} {op : Op} {ty : TypeId} {pos : String} {af : Array Edge} {g : Option (Nat × Bool)}
theorem WDA.finish {tl : List Oper} (htl : ops.toList.drop n = tl) (h : WLA ro P N ops Q tl ρ A) : WDA ro P N ops Q T n .fin ρ A := by
  subst htl; exact h
theorem WDA.v {v : Value} (hi : ops[i]? = some ⟨some d, op, ty, pos, af, g⟩) (hw : Region.wanted ⟨some d, op, ty, pos, af, g⟩ (yieldedE N ops ρ) = true) (h : OpP P ρ op ty A v) (k : WDA ro P N ops Q T n r (upd N ρ d v) A) : WDA ro P N ops Q T n (.q i r) ρ A :=
  ⟨_, v, hi, .inl ⟨hw, fun w hA => .inl (h _ _ _ _ w hA)⟩, k⟩
theorem WDA.off (hi : ops[i]? = some ⟨some d, op, ty, pos, af, g⟩) (hw : Region.wanted ⟨some d, op, ty, pos, af, g⟩ (yieldedE N ops ρ) = false) (k : WDA ro P N ops Q T n r (upd N ρ d undef) A) : WDA ro P N ops Q T n (.q i r) ρ A :=
  ⟨_, undef, hi, .inr ⟨hw, rfl⟩, k⟩
theorem WDA.c {f : FuncId} {args : Array Operand} {vs : Array Value} {v : Value} {argTypes : Array TypeId} (hi : ops[i]? = some ⟨some d, .call { callee := .value (.func f), args := args, argTypes := argTypes }, ty, pos, af, g⟩)
    (hw : Region.wanted ⟨some d, .call { callee := .value (.func f), args := args, argTypes := argTypes }, ty, pos, af, g⟩ (yieldedE N ops ρ) = true) (hf : callable P f = true) (hc : TrP P f vs A v) (h1 : args.map (evalE ρ) = vs)
    (k : WDA ro P N ops Q T n r (upd N ρ d v) A) : WDA ro P N ops Q T n (.q i r) ρ A := by
  subst h1
  refine ⟨_, v, hi, .inl ⟨hw, fun w hA => .inr ⟨f, _, ?_, hc w hA⟩⟩, k⟩
  simp [execOp, resolve, evalE, Deferred.ofValue, invoke, run_callFunc hf, go_sem]
theorem WDA.ev {τ : Type} {val : τ → Value} {B : τ → World → Prop} (hi : ops[i]? = some ⟨some d, op, ty, pos, af, g⟩) (hw : Region.wanted ⟨some d, op, ty, pos, af, g⟩ (yieldedE N ops ρ) = true)
    (h : OpT P ρ op ty A fun v w => ∃ x, v = val x ∧ B x w) (hd : ∀ x, DrC (B x)) (hTB : ∀ x w, B x w → T w) (hm : ∀ x w, B x w → A w) (k : ∀ x, WDA ro P N ops Q T n r (upd N ρ d (val x)) (B x)) : WDA ro P N ops Q T n (.e i r) ρ A := by
  exact ⟨_, τ, val, B, hi, hw, fun w hA => (h _ _ _ _ w hA).toX, fun x => (hd x).out, hTB, hm, k⟩
end
end Go.Fw
namespace Go.Fw
open Go Go.RowKit
set_option linter.unusedVariables false
set_option linter.unusedSimpArgs false
section
variable {ro : Option Nat} {P : Program} {n : Nat} {Q : Hnd} {ρ : Env} {A : World → Prop}
theorem WPA.condT {c : Operand} {x y : Code} {p : Prop} [Decidable p] (hc : evalE ρ c = .bool (decide p)) (hp : p) (h : WPA ro P n x Q ρ A) : WPA ro P n (.cond c x y) Q ρ A := WPA.cond hc (fun _ => h) (fun k => absurd hp k)
theorem WPA.condF {c : Operand} {x y : Code} {p : Prop} [Decidable p] (hc : evalE ρ c = .bool (decide p)) (hp : ¬ p) (h : WPA ro P n y Q ρ A) : WPA ro P n (.cond c x y) Q ρ A := WPA.cond hc (fun k => absurd k hp) (fun _ => h)
theorem WPA.condTrue {c : Operand} {x y : Code} (hc : evalE ρ c = .bool true) (h : WPA ro P n x Q ρ A) : WPA ro P n (.cond c x y) Q ρ A := WPA.condB hc (fun _ => h) (fun k => by cases k)
theorem WPA.condFalse {c : Operand} {x y : Code} (hc : evalE ρ c = .bool false) (h : WPA ro P n y Q ρ A) : WPA ro P n (.cond c x y) Q ρ A := WPA.condB hc (fun k => by cases k) (fun _ => h)
end
def WDQ (ro : Option Nat) (P : Program) (N : Nat) (ops : Array Oper) (Q : Hnd) (T : World → Prop) (n : Nat) (o : Oper) (r : Plan) (ρ : Env) (A : World → Prop) : Prop := ∀ i, ops[i]? = some o → WDA ro P N ops Q T n (.q i r) ρ A
def WDE (ro : Option Nat) (P : Program) (N : Nat) (ops : Array Oper) (Q : Hnd) (T : World → Prop) (n : Nat) (o : Oper) (r : Plan) (ρ : Env) (A : World → Prop) : Prop := ∀ i, ops[i]? = some o → WDA ro P N ops Q T n (.e i r) ρ A
section
variable {ro : Option Nat} {P : Program} {N n i : Nat} {ops : Array Oper} {Q : Hnd} {T : World → Prop} {o : Oper} {ρ : Env} {A : World → Prop} {r : Plan} {d : Tmp} {op : Op} {ty : TypeId} {pos : String} {af : Array Edge} {g : Option (Nat × Bool)}
theorem WDQ.see (hi : ops[i]? = some o) (h : WDQ ro P N ops Q T n o r ρ A) : WDA ro P N ops Q T n (.q i r) ρ A := h i hi
theorem WDE.see (hi : ops[i]? = some o) (h : WDE ro P N ops Q T n o r ρ A) : WDA ro P N ops Q T n (.e i r) ρ A := h i hi
theorem WDQ.v {v : Value} (hw : Region.wanted ⟨some d, op, ty, pos, af, g⟩ (yieldedE N ops ρ) = true) (h : OpP P ρ op ty A v) (k : WDA ro P N ops Q T n r (upd N ρ d v) A) : WDQ ro P N ops Q T n ⟨some d, op, ty, pos, af, g⟩ r ρ A :=
  fun _ hi => WDA.v hi hw h k
theorem WDQ.off (hw : Region.wanted ⟨some d, op, ty, pos, af, g⟩ (yieldedE N ops ρ) = false) (k : WDA ro P N ops Q T n r (upd N ρ d undef) A) : WDQ ro P N ops Q T n ⟨some d, op, ty, pos, af, g⟩ r ρ A :=
  fun _ hi => WDA.off hi hw k
theorem WDQ.c {f : FuncId} {args : Array Operand} {vs : Array Value} {v : Value} {argTypes : Array TypeId}
    (hw : Region.wanted ⟨some d, .call { callee := .value (.func f), args := args, argTypes := argTypes }, ty, pos, af, g⟩ (yieldedE N ops ρ) = true) (hf : callable P f = true) (hc : TrP P f vs A v) (h1 : args.map (evalE ρ) = vs)
    (k : WDA ro P N ops Q T n r (upd N ρ d v) A) : WDQ ro P N ops Q T n ⟨some d, .call { callee := .value (.func f), args := args, argTypes := argTypes }, ty, pos, af, g⟩ r ρ A :=
  fun _ hi => WDA.c hi hw hf hc h1 k
theorem WDE.ev {τ : Type} {val : τ → Value} {B : τ → World → Prop} (hw : Region.wanted ⟨some d, op, ty, pos, af, g⟩ (yieldedE N ops ρ) = true)
    (h : OpT P ρ op ty A fun v w => ∃ x, v = val x ∧ B x w) (hd : ∀ x, DrC (B x)) (hTB : ∀ x w, B x w → T w) (hm : ∀ x w, B x w → A w) (k : ∀ x, WDA ro P N ops Q T n r (upd N ρ d (val x)) (B x)) : WDE ro P N ops Q T n ⟨some d, op, ty, pos, af, g⟩ r ρ A :=
  fun _ hi => WDA.ev hi hw h hd hTB hm k
end
section
variable {P : Program} {ρ : Env} {A : World → Prop} {ty : TypeId}
theorem P_eqpointer_nil {x y : Operand} {t e u : TypeId} {p : Option Addr} (ht : P.underlying t = some (.pointer e)) (h1 : evalE ρ x = .pointer p) (h2 : evalE ρ y = .pointer none) : OpP P ρ (.binOp .eql t x y u) ty A (.bool p.isNone) := by
  intro d pos af g w _
  have hp : P.pointee t = e := by simp [Program.pointee, ht]
  have := run_equal_pointer_nil (P := P) (w := w) t p (by rw [hp]; exact ht)
  simp [execOp, eqGuard, binOp, h1, h2, this, go_sem]
end
def OwnR (e : TypeId) (size : Nat) (v : Value) (n : Nat) (xs : List Value) (R : List (Nat × Obj)) : Prop :=
  xs.length = n * size ∧ ((v = .slice none 0 0 ∧ n = 0 ∧ R = []) ∨
    ∃ g cap cur, v = .slice (some ⟨g, 0, none⟩) n cap ∧ n ≤ cap ∧ cap ≤ maxLen ∧ cur.size = cap * size ∧ cur.toList.take (n * size) = xs ∧ R = [(g, .cells cur e (0, 0))])
theorem OwnR.nil (e : TypeId) (size : Nat) : OwnR e size (.slice none 0 0) 0 [] [] := ⟨by simp, .inl ⟨rfl, rfl, rfl⟩⟩
theorem OwnR.slice {e : TypeId} {size : Nat} {v : Value} {n : Nat} {xs : List Value} {R : List (Nat × Obj)} (h : OwnR e size v n xs R) : ∃ a cap, v = .slice a n cap ∧ n ≤ cap := by
  rcases h.2 with ⟨rfl, rfl, _⟩ | ⟨g, cap, cur, rfl, h1, _⟩
  · exact ⟨none, 0, rfl, Nat.le_refl _⟩
  · exact ⟨_, cap, rfl, h1⟩
section
variable {P : Program} {ρ : Env} {ty : TypeId} {w0 : World} {H : HeapP} {L : List (Nat × Obj)}
theorem St.putRow {w : World} {g : Nat} {cur : Array Value} {e : TypeId} (h : St w0 H ((g, .cells cur e (0, 0)) :: L) w) (cs : Array Value) : St w0 H ((g, .cells cs e (0, 0)) :: L) (w.setRow g cs) := by
  have := h.put (j := 0) (b := g) (o := .cells cur e (0, 0)) (o' := .cells cs e (0, 0)) rfl (w' := w.setRow g cs) (fun k => ?_) (by simp) rfl rfl rfl (Nat.le_refl _)
  · exact this
  · by_cases hk : k = g
    · subst hk; rw [if_pos rfl]; exact setRow_heap w k cur cs e _ (h.at_ (j := 0) rfl)
    · rw [if_neg hk]; exact setRow_other w g k _ hk
theorem T_append {s x : Operand} {t e : TypeId} {z : Value} {size bytes : Nat} (ht : P.underlying t = some (.slice e)) (hi : (P.info? e).map (fun i => (i.zero, i.size, i.bytes)) = some (some z, size, bytes)) (hzs : z.cells.size = size) (hsz : 0 < size)
    {v : Value} {n : Nat} {xs : List Value} {R : List (Nat × Obj)} (hs : evalE ρ s = v) (hown : OwnR e size v n xs R)
    {a : Addr} {m c : Nat} {news : List Value} (hx : evalE ρ x = .slice (some a) m c) (hl : news.length = m * size) (hnews : ∀ w, St w0 H (R ++ L) w → ∀ j u, news[j]? = some u → w.cell? (a.add j) = some u) (h1 : ∀ u ∈ news, u.oneCell' = true)
    (h63 : n + m ≤ maxLen) (hbytes : (n + m) * bytes ≤ 140737488355328) :
    OpT P ρ (.call { callee := .builtin .append, args := #[s, x], argTypes := #[t, t] }) ty (St w0 H (R ++ L))
      fun v' w => ∃ q : Value × List (Nat × Obj), v' = q.1 ∧ (OwnR e size q.1 (n + m) (xs ++ news) q.2 ∧ St w0 H (q.2 ++ L) w) := by
  obtain ⟨i, hi', hzz⟩ := Option.map_eq_some_iff.1 hi
  simp only [Prod.mk.injEq] at hzz
  obtain ⟨hz, rfl, rfl⟩ := hzz
  have hsmall : n + m ≤ 9223372036854775807 := by simp only [maxLen] at h63; omega
  have hlen : (xs ++ news).length = (n + m) * i.size := by rw [List.length_append, hown.1, hl, Nat.add_mul]
  intro d pos af g w hw
  have key : ∃ v' w', (Builtin.append_ #[t, t] ty #[v, .slice (some a) m c]).run P w = .ok v' w' ∧ ∃ R', OwnR e i.size v' (n + m) (xs ++ news) R' ∧ St w0 H (R' ++ L) w' := by
    have hnw := hnews w hw
    have grown : ∀ (old : Nat), old < n + m → St w0 H L w →
        ∃ R', OwnR e i.size (.slice (some ⟨w.heap.size, 0, none⟩) (n + m) (grownCap w (n + m) old e)) (n + m) (xs ++ news) R' ∧
          St w0 H (R' ++ L) (w.drew.alloc (.cells (xs.toArray ++ news.toArray ++ Builtin.zeroCells z.cells (grownCap w (n + m) old e - (n + m))) e)) := by
      intro old ho hst
      have hge := grownCap_ge w (n + m) old e
      have hcm : grownCap w (n + m) old e ≤ maxLen := grownCap_le_maxLen w (n + m) old e h63
      refine ⟨[(w.heap.size, .cells (xs.toArray ++ news.toArray ++ Builtin.zeroCells z.cells (grownCap w (n + m) old e - (n + m))) e (0, 0))], ⟨hlen, .inr ⟨w.heap.size, _, _, rfl, hge, hcm, ?_, ?_, rfl⟩⟩, ?_⟩
      · simp only [Array.size_append, List.size_toArray, size_zeroCells, hzs, hown.1, hl, ← Nat.add_mul]
        congr 1
        omega
      · simp only [Array.toList_append, List.append_assoc]
        rw [← List.append_assoc, ← hlen]
        exact List.take_left
      · exact (hst.drawn (w.drawn + 1) (Nat.le_succ _)).push _
    rcases hown.2 with ⟨rfl, rfl, rfl⟩ | ⟨gb, cap, cur, rfl, hnc, hcm, hcs, htake, rfl⟩
    · have hx0 : xs = [] := List.eq_nil_of_length_eq_zero (by simpa using hown.1)
      subst hx0
      by_cases hm : m = 0
      · subst hm
        have hn : news = [] := List.eq_nil_of_length_eq_zero (by simpa using hl)
        subst hn
        refine ⟨.slice none 0 0, w, ?_, [], OwnR.nil _ _, hw⟩
        simp [Builtin.append_, run_underlying ht, sizeOf, typeInfo, hi', Builtin.lenOf, Builtin.firstCells, loadCells, loadCellsFrom]
      · have hr := run_append_nil (P := P) w t ty e i z ht hi' hz a m c news hl hnw (by omega) (by omega) (by have hb := hbytes; simp only [Nat.zero_add] at hb; omega)
        obtain ⟨R', g1, g2⟩ := grown 0 (by omega) hw
        simp only [Nat.zero_add, List.nil_append, Array.empty_append] at g1 g2 ⊢
        exact ⟨_, _, hr, R', g1, by simpa using g2⟩
    · by_cases hroom : n + m ≤ cap
      · have hfit : n * i.size + news.length ≤ cur.size := by rw [hl, hcs, ← Nat.add_mul]; exact Nat.mul_le_mul_right _ hroom
        have hr := run_append_room (P := P) w t ty e i ht hi' gb n cap cur (hw.at_ (j := 0) rfl) a m c news hl hnw h1 hroom hfit
        refine ⟨_, _, hr, [(gb, .cells (cur.toList.take (n * i.size) ++ news ++ cur.toList.drop (n * i.size + news.length)).toArray e (0, 0))], ⟨hlen, .inr ⟨gb, cap, _, rfl, hroom, hcm, ?_, ?_, rfl⟩⟩, hw.putRow _⟩
        · simp only [List.size_toArray, List.length_append, List.length_take, List.length_drop, Array.length_toList]
          omega
        · rw [htake, ← hlen]
          exact List.take_left
      · have holds : ∀ j u, xs[j]? = some u → w.cell? ((⟨gb, 0, none⟩ : Addr).add j) = some u := by
          intro j u hu
          have ha : (⟨gb, 0, none⟩ : Addr).add j = ⟨gb, j, none⟩ := by unfold Addr.add; split <;> simp_all
          rw [ha]
          refine cell_of_heap (hw.at_ (j := 0) rfl) ?_
          rw [← htake, List.getElem?_take] at hu
          split at hu
          · simpa using hu
          · cases hu
        have hr := run_append_grow (P := P) w t ty e i z ht hi' hz ⟨gb, 0, none⟩ n cap xs hown.1 holds a m c news hl hnw (by omega) (by omega) (growslice_fits (by omega) hbytes)
        obtain ⟨R', g1, g2⟩ := grown cap (by omega) (hw.drop (List.sublist_cons_self _ _))
        exact ⟨_, _, hr, R', g1, g2⟩
  obtain ⟨v', w', hr, R', g1, g2⟩ := key
  have e1 : (execOp (evalE ρ) ⟨d, .call { callee := .builtin .append, args := #[s, x], argTypes := #[t, t] }, ty, pos, af, g⟩).run P w = .ok (.value v') w' := by
    unfold execOp
    simp only [resolve, invoke, builtin, Sem.run_bind, Sem.run_pure, Result.andThen_ok, List.map_toArray, List.map_cons, List.map_nil, hs, hx, hr]
  rw [e1]
  exact ⟨(v', R'), rfl, g1, g2⟩
end
end Go.Fw
