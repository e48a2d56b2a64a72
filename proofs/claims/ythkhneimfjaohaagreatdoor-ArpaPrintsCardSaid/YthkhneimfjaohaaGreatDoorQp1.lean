/- Texts that ArpaPrints_law leans on, part 1. Conditions: none. -/
import Derived.WalkKit
import Derived.StillTail
import Derived.LoopNIn
import Derived.TacticsIn
import Derived.CallsIn
import Derived.RangeFuncLeaves
import Derived.RangeFuncRecord
namespace Go.Fw
theorem lenS : (∀ (α : Type) (a b : List α), (a ++ b).length = a.length + b.length) ∧ (∀ (α : Type) (x : α) (a : List α), (x :: a).length = a.length + 1) ∧ (∀ α : Type, ([] : List α).length = 0) ∧ (∀ (α : Type) (a : List α) (i : Nat) (x : α), (a.set i x).length = a.length) ∧ (∀ (α : Type) (n : Nat) (x : α), (List.replicate n x).length = n) := ⟨fun _ _ _ => List.length_append, fun _ _ _ => List.length_cons, fun _ => List.length_nil, fun _ _ _ _ => List.length_set, fun _ _ _ => List.length_replicate⟩
end Go.Fw
namespace Go.Fw
open Go Go.RowKit
set_option linter.unusedVariables false
structure Env where
  f : Nat → Value
  ms : List Nat
instance : CoeFun Env (fun _ => Nat → Value) := ⟨Env.f⟩
def upd (n : Nat) (ρ : Env) (d : Nat) (v : Value) : Env := ⟨fun i => bif (Nat.beq i d && Nat.blt d n) then v else ρ.f i, ρ.ms⟩
def updO (n : Nat) (ρ : Env) : Option Tmp → Value → Env
  | some d, v => upd n ρ d v
  | none, _ => ρ
def evalE (ρ : Env) : Operand → Value
  | .tmp t => ρ t
  | .const v => v
  | .global g => .pointer (some ⟨g, 0, none⟩)
  | .func f => .func (.func f) #[] #[]
def envOf (l : List Value) : Env := ⟨fun i => l.getD i undef, []⟩
def marks (l : List Nat) : List Deferred := l.map fun D => { target := .collected D, args := #[] }
structure Agree (n : Nat) (ρ : Env) (a : Act) (ds : List Deferred) : Prop where
  sz : a.tmps.size = n
  get : ∀ i, a.tmps.getD i undef = ρ i
  df : a.defers = marks ρ.ms ++ ds
theorem Agree.eval {n : Nat} {ρ : Env} {a : Act} {ds : List Deferred} (h : Agree n ρ a ds) : a.eval = evalE ρ := by
  funext x
  cases x with
  | tmp t => exact h.get t
  | _ => rfl
theorem blt_iff (d n : Nat) : Nat.blt d n = true ↔ d < n := by
  unfold Nat.blt
  rw [Nat.ble_eq]; omega
theorem blt_false (d n : Nat) : Nat.blt d n = false ↔ ¬ d < n := by
  rw [← blt_iff, Bool.not_eq_true]
theorem upd_apply (n : Nat) (ρ : Env) (d : Nat) (v : Value) (i : Nat) : upd n ρ d v i = if i = d ∧ d < n then v else ρ i := by
  unfold upd
  by_cases h1 : i = d
  · by_cases h2 : d < n
    · rw [(blt_iff d n).2 h2]; simp [h1, h2]
    · rw [(blt_false d n).2 h2]; simp [h1, h2]
  · have : Nat.beq i d = false := by
      cases hb : Nat.beq i d with
      | false => rfl
      | true => exact absurd (Nat.eq_of_beq_eq_true hb) h1
    simp [h1, this]
theorem getD_setIfInBounds (xs : Array Value) (d i : Nat) (v : Value) :
    (xs.setIfInBounds d v).getD i undef = if i = d ∧ d < xs.size then v else xs.getD i undef := by
  simp only [Array.getD_eq_getD_getElem?, Array.getElem?_setIfInBounds]
  by_cases h : d = i
  · subst h
    by_cases h2 : d < xs.size
    · simp [h2]
    · simp [h2]
  · rw [if_neg h, if_neg (fun hh => h hh.1.symm)]
theorem Agree.put {n : Nat} {ρ : Env} {a : Act} {ds : List Deferred} (h : Agree n ρ a ds) (dst : Option Tmp) (v : Value) : Agree n (updO n ρ dst v) (a.put dst v) ds := by
  cases dst with
  | none => exact h
  | some d =>
    refine ⟨by simp [Act.put, h.sz], fun i => ?_, h.df⟩
    show (a.tmps.setIfInBounds d v).getD i undef = upd n ρ d v i
    rw [getD_setIfInBounds, upd_apply, h.sz, h.get]
def yieldedE (n : Nat) (ops : Array Oper) (ρ : Env) (j : Nat) : Option Bool :=
  match (ops[j]?).bind (·.dst) with
  | some t => bif Nat.blt t n then (match ρ t with | .bool b => some b | _ => none) else none
  | none => none
theorem Agree.yielded {n : Nat} {ρ : Env} {a : Act} {ds : List Deferred} (h : Agree n ρ a ds) (ops : Array Oper) : Go.yielded ops a.tmps = yieldedE n ops ρ := by
  funext j
  unfold Go.yielded yieldedE
  cases hd : (ops[j]?).bind (·.dst) with
  | none => rfl
  | some t =>
    simp only [Option.bind_some]
    by_cases ht : t < n
    · have e : a.tmps[t]? = some (ρ t) := by
        have := h.get t
        have hs : t < a.tmps.size := by rw [h.sz]; exact ht
        simp [Array.getD_eq_getD_getElem?, hs] at this
        simp [hs, this]
      have hb : Nat.blt t n = true := (blt_iff t n).2 ht
      rw [e, hb]
      cases ρ t <;> rfl
    · have e : a.tmps[t]? = none := by
        have hs : a.tmps.size ≤ t := by rw [h.sz]; exact Nat.le_of_not_lt ht
        exact Array.getElem?_eq_none hs
      have hb : Nat.blt t n = false := (blt_false t n).2 ht
      rw [e, hb]
      rfl
abbrev Hnd := Exit → Env → World → Prop
def QA (n : Nat) (ds : List Deferred) (Q : Hnd) : Exit → Act → World → Prop
  | .panic c, a, w => ∃ ρ : Env, a.defers = marks ρ.ms ++ ds ∧ Q (.panic c) ρ w
  | .outgrown, _, _ => False
  | e, a, w => ∃ ρ, Agree n ρ a ds ∧ Q e ρ w
def FR (ro : Option Nat) : Fence := { Fence.wide with round := ro }
def WPA (ro : Option Nat) (P : Program) (n : Nat) (c : Code) (Q : Hnd) (ρ : Env) (A : World → Prop) : Prop :=
  ∀ (m : Nat × List Deferred) a w, Agree n ρ a m.2 → A w → c.wpIn (FR ro) m.1 P (QA n m.2 Q) a w
def QQ (Q : Hnd) (e : Exit) (ρ : Env) (A : World → Prop) : Prop := ∀ w, A w → Q e ρ w
def WLA (ro : Option Nat) (P : Program) (n : Nat) (ops : Array Oper) (Q : Hnd) (l : List Oper) (ρ : Env) (A : World → Prop) : Prop :=
  ∀ (m : Nat × List Deferred) a w, Agree n ρ a m.2 → A w → wpListIn (FR ro) m.1 P ops (QA n m.2 Q) l a w
def seqQ (ro : Option Nat) (P : Program) (n : Nat) (y : Code) (Q : Hnd) : Hnd
  | .normal, ρ, w => WPA ro P n y Q ρ (fun w' => w' = w)
  | e, ρ, w => Q e ρ w
def blockQ (id : Nat) (Q : Hnd) : Hnd
  | .exit id', ρ, w => if id' = id then Q .normal ρ w else Q (.exit id') ρ w
  | e, ρ, w => Q e ρ w
def loopQ {σ : Type} (C : σ → Env → Prop) (B : σ → World → Prop) (m : σ → Nat) (x : σ) (Q : Hnd) : Hnd
  | .normal, ρ, w => ∃ x', m x' < m x ∧ C x' ρ ∧ B x' w
  | e, ρ, w => Q e ρ w
section rules
variable {ro : Option Nat} {P : Program} {n : Nat} {Q : Hnd} {ρ : Env} {A : World → Prop}
theorem WPA.seq {x y : Code} (h : WPA ro P n x (seqQ ro P n y Q) ρ A) : WPA ro P n (.seq x y) Q ρ A := by
  intro m a w ha hA
  refine wpIn_seq (wpIn_mono (h m a w ha hA) ?_)
  intro e a' w' hq
  cases e with
  | normal => obtain ⟨ρ', ha', hr⟩ := hq; exact hr m a' w' ha' rfl
  | _ => exact hq
theorem QQ.seq_normal {y : Code} (h : WPA ro P n y Q ρ A) : QQ (seqQ ro P n y Q) .normal ρ A :=
  fun w hA m a w' ha hw' => h m a w' ha (hw' ▸ hA)
theorem QQ.seq_ret {y : Code} (h : QQ Q .ret ρ A) : QQ (seqQ ro P n y Q) .ret ρ A := h
theorem QQ.seq_exit {y : Code} {id : Nat} (h : QQ Q (.exit id) ρ A) : QQ (seqQ ro P n y Q) (.exit id) ρ A := h
theorem QQ.block_normal {id : Nat} (h : QQ Q .normal ρ A) : QQ (blockQ id Q) .normal ρ A := h
theorem QQ.block_ret {id : Nat} (h : QQ Q .ret ρ A) : QQ (blockQ id Q) .ret ρ A := h
theorem QQ.block_hit {id : Nat} (h : QQ Q .normal ρ A) : QQ (blockQ id Q) (.exit id) ρ A := by
  intro w hA; simp only [blockQ, if_true]; exact h w hA
theorem QQ.block_miss {id id' : Nat} (hne : Nat.beq id' id = false) (h : QQ Q (.exit id') ρ A) : QQ (blockQ id Q) (.exit id') ρ A := by
  intro w hA
  simp only [blockQ]
  rw [if_neg (by intro e; subst e; simp at hne)]
  exact h w hA
theorem QQ.loop_ret {σ : Type} {C : σ → Env → Prop} {B : σ → World → Prop} {m : σ → Nat} {x : σ} (h : QQ Q .ret ρ A) : QQ (loopQ C B m x Q) .ret ρ A := h
theorem QQ.loop_exit {σ : Type} {C : σ → Env → Prop} {B : σ → World → Prop} {m : σ → Nat} {x : σ} {id : Nat} (h : QQ Q (.exit id) ρ A) : QQ (loopQ C B m x Q) (.exit id) ρ A := h
theorem QQ.loop_normal {σ : Type} {C : σ → Env → Prop} {B : σ → World → Prop} {m : σ → Nat} {x : σ} (x' : σ) (hm : m x' < m x) (hC : C x' ρ) (hB : ∀ w, A w → B x' w) :
    QQ (loopQ C B m x Q) .normal ρ A := fun w hA => ⟨x', hm, hC, hB w hA⟩
theorem WPA.skip (h : QQ Q .normal ρ A) : WPA ro P n .skip Q ρ A := fun _ _ w ha hA => wpIn_skip ⟨ρ, ha, h w hA⟩
theorem WPA.ret (h : QQ Q .ret ρ A) : WPA ro P n .ret Q ρ A := fun _ _ w ha hA => wpIn_ret ⟨ρ, ha, h w hA⟩
theorem WPA.exit {id : Nat} (h : QQ Q (.exit id) ρ A) : WPA ro P n (.exit id) Q ρ A := fun _ _ w ha hA => wpIn_exit ⟨ρ, ha, h w hA⟩
theorem WPA.block {id : Nat} {c : Code} (h : WPA ro P n c (blockQ id Q) ρ A) : WPA ro P n (.block id c) Q ρ A := by
  intro m a w ha hA
  refine wpIn_block (wpIn_mono (h m a w ha hA) ?_)
  intro e a' w' hq
  cases e with
  | exit id' =>
    obtain ⟨ρ', ha', hr⟩ := hq
    simp only [blockQ] at hr
    simp only [Exit.inBlock]
    split
    · rename_i e; rw [if_pos e] at hr; exact ⟨ρ', ha', hr⟩
    · rename_i e; rw [if_neg e] at hr; exact ⟨ρ', ha', hr⟩
  | _ => exact hq
theorem WPA.cond {c : Operand} {x y : Code} {p : Prop} [Decidable p] (hc : evalE ρ c = .bool (decide p)) (ht : p → WPA ro P n x Q ρ A) (hf : ¬ p → WPA ro P n y Q ρ A) :
    WPA ro P n (.cond c x y) Q ρ A := by
  intro m a w ha hA
  have hc' : a.eval c = .bool (decide p) := by rw [ha.eval]; exact hc
  by_cases hp : p
  · exact wpIn_cond_true (by rw [hc', decide_eq_true hp]) (ht hp m a w ha hA)
  · exact wpIn_cond_false (by rw [hc', decide_eq_false hp]) (hf hp m a w ha hA)
theorem WPA.condB {c : Operand} {x y : Code} {b : Bool} (hc : evalE ρ c = .bool b) (ht : b = true → WPA ro P n x Q ρ A) (hf : b = false → WPA ro P n y Q ρ A) :
    WPA ro P n (.cond c x y) Q ρ A := by
  intro m a w ha hA
  have hc' : a.eval c = .bool b := by rw [ha.eval]; exact hc
  cases b with
  | true => exact wpIn_cond_true hc' (ht rfl m a w ha hA)
  | false => exact wpIn_cond_false hc' (hf rfl m a w ha hA)
theorem WPA.region {id : Nat} {l : List Oper} (h : WLA ro P n l.toArray Q l ρ A) : WPA ro P n (.region id l.toArray false) Q ρ A :=
  fun _ _ _ ha hA => wpIn_region_lit (h _ _ _ ha hA)
theorem WPA.loop {σ : Type} {c : Code} (C : σ → Env → Prop) (B : σ → World → Prop) (m : σ → Nat) (x : σ) (hC : C x ρ) (hB : ∀ w, A w → B x w)
    (round : ∀ x ρ, C x ρ → WPA ro P n c (loopQ C B m x Q) ρ (B x)) : WPA ro P n (.loop c) Q ρ A := by
  intro mm a w ha hA
  refine wpIn_loop_rounds (m x + 1) ?_
  have key : ∀ k x a w, m x < k → (∃ ρ, Agree n ρ a mm.2 ∧ C x ρ) → B x w → Code.roundsIn (FR ro) mm.1 P c (QA n mm.2 Q) k a w := by
    intro k
    induction k with
    | zero => intro x a w hk; omega
    | succ k ih =>
      intro x a w hk ⟨ρ, ha, hC⟩ hB
      rw [roundsIn_succ]
      refine wpIn_mono (round x ρ hC mm a w ha hB) ?_
      intro e a' w' hq
      cases e with
      | normal =>
        obtain ⟨ρ', ha', x', hlt, hC', hB'⟩ := hq
        exact ih x' a' w' (by omega) ⟨ρ', ha', hC'⟩ hB'
      | _ => exact hq
  exact key _ x a w (Nat.lt_succ_self _) ⟨ρ, ha, hC⟩ (hB w hA)
def OpU (P : Program) (R : Value → World → Prop) : Result Next → Prop
  | .ok (.value v) w' => R v w'
  | .ok .skip w' => R undef w'
  | .ok (.enter f args) w' => Calls P f args w' fun e w'' => ∃ v, e = .returned v ∧ R v w''
  | .ok (.round l f tmps assign body) w' => RoundIn Fence.wide 0 P l f tmps assign body w' fun e w'' => ∃ v, e = .returned v ∧ R v w''
  | _ => False
def OpX (P : Program) (R : Value → World → Prop) (E : List PanicEntry → World → Prop) : Result Next → Prop
  | .ok (.value v) w' => R v w'
  | .ok .skip w' => R undef w'
  | .ok (.enter f args) w' => Calls P f args w' fun e w'' => (∃ v, e = .returned v ∧ R v w'') ∨ ∃ c, e = .panicked c ∧ E c w''
  | .ok (.round l f tmps assign body) w' => RoundIn Fence.wide 0 P l f tmps assign body w' fun e w'' => ∃ v, e = .returned v ∧ R v w''
  | .halt (.panic v) w' => E [{ v := v, recovered := false }] w'
  | _ => False
theorem OpU.toX {R : Value → World → Prop} {E : List PanicEntry → World → Prop} {r : Result Next} (h : OpU P R r) : OpX P R E r := by
  cases r with
  | ok x w => cases x <;> simp only [OpU, OpX] at h ⊢ <;> first | exact h | exact Calls.mono h (fun e w' he => .inl he)
  | halt x w => simp only [OpU] at h
theorem semAt_of_OpU {o : Oper} {ev : Operand → Value} {w : World} {R : Value → World → Prop} (h : OpU P R ((execOp ev o).run P w)) : o.semAt ro ev = execOp ev o := by
  refine Oper.semAt_eq ro ev o fun c hc => ?_
  obtain ⟨d, op, ty, pos, af, g⟩ := o
  simp only at hc
  subst hc
  simp only [execOp, Sem.run_bind] at h
  cases hr : (resolve ev c ty).run P w with
  | ok x w' => rw [hr] at h; simp [Result.andThen, OpU] at h
  | halt x w' => rw [hr] at h; simp [Result.andThen, OpU] at h
theorem roundIn_more {m m' l : Nat} {f : FuncId} {tmps : Array Value} {assign body : Code} {w : World} {R : Ending → World → Prop} (h : RoundIn Fence.wide m P l f tmps assign body w R) : RoundIn (FR ro) m' P l f tmps assign body w R :=
  ⟨trivial, fun c cs _ => h.2 c cs (room_wide _)⟩
theorem upon_of_OpU {m : Nat} {o : Oper} {a : Act} {next : Act → World → Prop} {Q' : Exit → Act → World → Prop} {R : Value → World → Prop} {r : Result Next}
    (h : OpU P R r) (hn : ∀ v w', R v w' → next (a.put o.dst v) w') : o.uponIn (FR ro) m P a next Q' r := by
  cases r with
  | ok x w' =>
    cases x <;> simp only [OpU] at h <;> simp only [Oper.uponIn]
    case value v => exact hn _ _ h
    case skip => exact hn _ _ h
    case enter f args =>
      refine ⟨fun h => (by cases h), ?_⟩
      have hc : CallsIn (FR ro) (m - 1) P f args w' _ := callsIn_wide.2 h
      refine hc.mono ?_
      rintro e w'' ⟨v, rfl, hr⟩
      exact hn _ _ hr
    case round l f tmps assign body =>
      refine ⟨fun h => (by cases h), (roundIn_more h).mono ?_⟩
      rintro e w'' ⟨v, rfl, hr⟩
      exact hn _ _ hr
  | halt x w' => cases x <;> simp only [OpU] at h
theorem upon_of_OpX {m : Nat} {o : Oper} {a : Act} {next : Act → World → Prop} {Q' : Exit → Act → World → Prop} {R : Value → World → Prop} {E : List PanicEntry → World → Prop} {r : Result Next}
    (h : OpX P R E r) (hn : ∀ v w', R v w' → next (a.put o.dst v) w') (hp : ∀ c w', E c w' → Q' (.panic c) a w') : o.uponIn (FR ro) m P a next Q' r := by
  cases r with
  | ok x w' =>
    cases x <;> simp only [OpX] at h <;> simp only [Oper.uponIn]
    case value v => exact hn _ _ h
    case skip => exact hn _ _ h
    case enter f args =>
      refine ⟨fun h => (by cases h), ?_⟩
      have hc : CallsIn (FR ro) (m - 1) P f args w' _ := callsIn_wide.2 h
      refine hc.mono ?_
      rintro e w'' (⟨v, rfl, hr⟩ | ⟨c, rfl, hr⟩)
      · exact hn _ _ hr
      · exact hp _ _ hr
    case round l f tmps assign body =>
      refine ⟨fun h => (by cases h), (roundIn_more h).mono ?_⟩
      rintro e w'' ⟨v, rfl, hr⟩
      exact hn _ _ hr
  | halt x w' => cases x <;> simp only [OpX] at h <;> first | exact hp _ _ h | exact h.elim
def OpT (P : Program) (ρ : Env) (op : Op) (ty : TypeId) (A : World → Prop) (R : Value → World → Prop) : Prop :=
  ∀ d pos af g w, A w → OpU P R ((execOp (evalE ρ) ⟨d, op, ty, pos, af, g⟩).run P w)
def OpP (P : Program) (ρ : Env) (op : Op) (ty : TypeId) (A : World → Prop) (v : Value) : Prop :=
  ∀ d pos af g w, A w → (execOp (evalE ρ) ⟨d, op, ty, pos, af, g⟩).run P w = .ok (.value v) w
theorem OpP.toT {op : Op} {ty : TypeId} {v : Value} (h : OpP P ρ op ty A v) : OpT P ρ op ty A (fun u w => u = v ∧ A w) := by
  intro d pos af g w hA
  rw [h d pos af g w hA]
  exact ⟨rfl, hA⟩
section
variable {ops : Array Oper} {rest : List Oper} {op : Op} {ty : TypeId} {pos : String} {af : Array Edge} {g : Option (Nat × Bool)} {d : Tmp}
theorem WLA.nil (h : QQ Q .normal ρ A) : WLA ro P n ops Q [] ρ A := fun m a w ha hA => wpListIn_nil ⟨ρ, ha, h w hA⟩
theorem WLA.gen {dst : Option Tmp} {R : Value → World → Prop} (hw : Region.wanted ⟨dst, op, ty, pos, af, g⟩ (yieldedE n ops ρ) = true) (h : OpT P ρ op ty A R)
    (k : ∀ v, WLA ro P n ops Q rest (updO n ρ dst v) (R v)) : WLA ro P n ops Q (⟨dst, op, ty, pos, af, g⟩ :: rest) ρ A := by
  intro m a w ha hA
  refine wpListIn_step fun K hK => ?_
  rw [ha.yielded, if_pos hw]
  unfold Oper.wpIn
  rw [ha.eval]
  have hU := h dst pos af g w hA
  refine ⟨fun _ _ => trivial, ?_⟩
  show Oper.uponIn (FR ro) m.1 P _ a K _ (Sem.run P (Oper.semAt ro (evalE ρ) _) w)
  rw [semAt_of_OpU hU]
  exact upon_of_OpU hU fun v w' hR => hK _ _ (k v _ _ _ (ha.put _ _) hR)
theorem WLA.q {v : Value} (hw : Region.wanted ⟨some d, op, ty, pos, af, g⟩ (yieldedE n ops ρ) = true) (h : OpP P ρ op ty A v)
    (k : WLA ro P n ops Q rest (upd n ρ d v) A) : WLA ro P n ops Q (⟨some d, op, ty, pos, af, g⟩ :: rest) ρ A :=
  WLA.gen hw h.toT fun u => by intro m a w ha ⟨e, hA⟩; subst e; exact k m a w ha hA
theorem WLA.e {τ : Type} {val : τ → Value} {B : τ → World → Prop} (hw : Region.wanted ⟨some d, op, ty, pos, af, g⟩ (yieldedE n ops ρ) = true)
    (h : OpT P ρ op ty A fun v w => ∃ x, v = val x ∧ B x w) (k : ∀ x, WLA ro P n ops Q rest (upd n ρ d (val x)) (B x)) : WLA ro P n ops Q (⟨some d, op, ty, pos, af, g⟩ :: rest) ρ A :=
  WLA.gen hw h fun u => by rintro m a w ha ⟨x, rfl, hB⟩; exact k x m a w ha hB
theorem WLA.e0 {τ : Type} {val : τ → Value} {B : τ → World → Prop} (hw : Region.wanted ⟨none, op, ty, pos, af, g⟩ (yieldedE n ops ρ) = true)
    (h : OpT P ρ op ty A fun v w => ∃ x, v = val x ∧ B x w) (k : ∀ x, WLA ro P n ops Q rest ρ (B x)) : WLA ro P n ops Q (⟨none, op, ty, pos, af, g⟩ :: rest) ρ A :=
  WLA.gen hw h fun u => by rintro m a w ha ⟨x, rfl, hB⟩; exact k x m a w ha hB
theorem WLA.s {B : World → Prop} (hw : Region.wanted ⟨none, op, ty, pos, af, g⟩ (yieldedE n ops ρ) = true)
    (h : OpT P ρ op ty A fun _ w => B w) (k : WLA ro P n ops Q rest ρ B) : WLA ro P n ops Q (⟨none, op, ty, pos, af, g⟩ :: rest) ρ A :=
  WLA.gen hw h fun u => by rintro m a w ha hB; exact k m a w ha hB
theorem WLA.off (hw : Region.wanted ⟨some d, op, ty, pos, af, g⟩ (yieldedE n ops ρ) = false) (k : WLA ro P n ops Q rest (upd n ρ d undef) A) :
    WLA ro P n ops Q (⟨some d, op, ty, pos, af, g⟩ :: rest) ρ A := by
  intro m a w ha hA
  refine wpListIn_step fun K hK => ?_
  rw [ha.yielded, hw]
  exact ⟨fun _ _ => trivial, hK _ _ (k _ _ _ (ha.put (some d) undef) hA)⟩
theorem WLA.ofEx {τ : Type} {B : τ → World → Prop} {l : List Oper} (k : ∀ x, WLA ro P n ops Q l ρ (B x)) : WLA ro P n ops Q l ρ (fun w => ∃ x, B x w) :=
  fun m a w ha ⟨x, hB⟩ => k x m a w ha hB
theorem WLA.mono {B : World → Prop} {l : List Oper} (h : ∀ w, A w → B w) (k : WLA ro P n ops Q l ρ B) : WLA ro P n ops Q l ρ A := fun m a w ha hA => k m a w ha (h w hA)
theorem WPA.mono {B : World → Prop} {c : Code} (h : ∀ w, A w → B w) (k : WPA ro P n c Q ρ B) : WPA ro P n c Q ρ A := fun m a w ha hA => k m a w ha (h w hA)
end
theorem WLA.split {ops : Array Oper} {rest : List Oper} {dst : Option Tmp} {op : Op} {ty : TypeId} {pos : String} {af : Array Edge} {j : Nat} {b : Bool} {p : Prop} [Decidable p]
    (_hy : yieldedE n ops ρ j = some (decide p)) (kt : p → WLA ro P n ops Q (⟨dst, op, ty, pos, af, some (j, b)⟩ :: rest) ρ A) (kf : ¬ p → WLA ro P n ops Q (⟨dst, op, ty, pos, af, some (j, b)⟩ :: rest) ρ A) :
    WLA ro P n ops Q (⟨dst, op, ty, pos, af, some (j, b)⟩ :: rest) ρ A := by
  by_cases h : p
  · exact kt h
  · exact kf h
def resL (ρ : Env) : List ResultVar → Option Value
  | [] => some (.tuple #[])
  | [.tmp t] => some (ρ t)
  | [.tmp t, .tmp u] => some (.tuple #[ρ t, ρ u])
  | [.tmp t, .tmp u, .tmp v] => some (.tuple #[ρ t, ρ u, ρ v])
  | _ => none
def resE (rs : Array ResultVar) (ρ : Env) : Option Value := resL ρ rs.toList
def closes : List Nat → World → (World → Prop) → Prop
  | [], w, K => K w
  | D :: l, w, K => w.heap[D]? = some (.deferred (some [])) ∧ closes l (w.putObj D (.deferred none)) K
def fnQ (P : Program) (fn : Func) (R : Value → World → Prop) : Hnd
  | .normal, ρ, w => closes ρ.ms w fun w => ∃ v, (∀ a : Array Value, (∀ i, a.getD i undef = ρ i) → (results fn a).run P w = .ok v w) ∧ R v w
  | .ret, ρ, w => closes ρ.ms w fun w => ∃ v, (∀ a : Array Value, (∀ i, a.getD i undef = ρ i) → (results fn a).run P w = .ok v w) ∧ R v w
  | _, _, _ => False
def Tr (P : Program) (f : FuncId) (args : Array Value) (A : World → Prop) {τ : Type} (val : τ → Value) (B : τ → World → Prop) : Prop :=
  ∀ w, A w → Calls P f args w fun e w' => ∃ x, e = .returned (val x) ∧ B x w'
theorem Tr.intro {f : FuncId} {fn : Func} {c : Code} {args : List Value} {τ : Type} {val : τ → Value} {B : τ → World → Prop} {N : Nat}
    (hf : P.funcs[f]? = some fn) (hb : fn.body = some c) (hn : fn.ntmps = N) (hle : Nat.ble args.length N = true)
    (h : WPA none P N c (fnQ P fn fun v w => ∃ x, v = val x ∧ B x w) (envOf args) A) : Tr P f args.toArray A val B := by
  intro w hA
  subst hn
  refine callsIn_wide.1 (callsIn_of_wp_marks (n := 0) hf hb trivial (wpIn_mono (h (0, []) _ w ⟨?_, ?_, rfl⟩ hA) ?_))
  · have : args.length ≤ fn.ntmps := Nat.le_of_ble_eq_true hle
    simp; omega
  · intro i
    simp only [envOf, Array.getD_eq_getD_getElem?, List.getD_eq_getElem?_getD]
    rw [Array.getElem?_append]
    split
    · rename_i hi; simp
    · rename_i hi
      have : args[i]? = none := by simp at hi; simp [hi]
      rw [this]
      rw [Array.getElem?_replicate]
      split <;> rfl
  · have leave : ∀ (l : List Nat) (w' : World) (tmps : Array Value), closes l w' (fun w => ∃ v, (results fn tmps).run P w = .ok v w ∧ ∃ x, v = val x ∧ B x w) →
        LeavesInM Fence.wide 0 P fn tmps (fun e w' => ∃ x, e = Ending.returned (val x) ∧ B x w') (marks l) .returning w' := by
      intro l
      induction l with
      | nil =>
        rintro w' tmps ⟨v, hr, x, rfl, hB⟩
        exact ⟨_, hr, x, rfl, hB⟩
      | cons D l ih =>
        rintro w' tmps ⟨hD, hk⟩
        exact ⟨(fun h => by cases h), .inl ⟨D, _, rfl, run_takeDeferred hD, ih _ _ hk⟩⟩
    have mono : ∀ (l : List Nat) (w' : World) (K K' : World → Prop), (∀ u, K u → K' u) → closes l w' K → closes l w' K' := by
      intro l
      induction l with
      | nil => intro w' K K' h hk; exact h _ hk
      | cons D l ih => intro w' K K' h hk; exact ⟨hk.1, ih _ _ _ h hk.2⟩
    intro e a w' hq
    cases e with
    | normal => obtain ⟨ρ', ha, hq⟩ := hq; show LeavesInM _ _ _ _ _ _ a.defers _ _; rw [ha.df, List.append_nil]; exact leave _ _ _ (mono _ _ _ _ (fun u ⟨v, hr, hx⟩ => ⟨v, hr _ ha.get, hx⟩) hq)
    | ret => obtain ⟨ρ', ha, hq⟩ := hq; show LeavesInM _ _ _ _ _ _ a.defers _ _; rw [ha.df, List.append_nil]; exact leave _ _ _ (mono _ _ _ _ (fun u ⟨v, hr, hx⟩ => ⟨v, hr _ ha.get, hx⟩) hq)
    | panic c => obtain ⟨ρ', ha, hq⟩ := hq; exact hq.elim
    | outgrown => exact hq.elim
    | exit id => obtain ⟨ρ', ha, hq⟩ := hq; exact hq.elim
    | goto l => obtain ⟨ρ', ha, hq⟩ := hq; exact hq.elim
theorem results_of_resE {fn : Func} {rs : Array ResultVar} {v : Value} {w : World} (hrs : fn.results = rs) (h : resE rs ρ = some v) :
    ∀ a : Array Value, (∀ i, a.getD i undef = ρ i) → (results fn a).run P w = .ok v w := by
  intro a ha
  have hl : fn.results = ⟨rs.toList⟩ := by rw [hrs]
  unfold resE at h
  generalize rs.toList = l at h hl
  unfold resL at h
  split at h
  · cases h; exact results_none hl _ _ _
  · cases h; rw [results_tmp hl, ha]
  · cases h; rw [results_tmp2 hl, ha, ha]
  · cases h; rw [results_tmp3 hl, ha, ha, ha]
  · cases h
theorem QQ.fn_ret {fn : Func} {rs : Array ResultVar} {v : Value} {τ : Type} {val : τ → Value} {B : τ → World → Prop} (hrs : fn.results = rs) (hv : resE rs ρ = some v) (x : τ) (hx : v = val x) (hB : ∀ w, A w → B x w) (hmk : ρ.ms = [] := by rfl) :
    QQ (fnQ P fn fun v w => ∃ x, v = val x ∧ B x w) .ret ρ A := fun w hA => by
  show closes ρ.ms w _
  rw [hmk]
  exact ⟨v, results_of_resE hrs hv, x, hx, hB w hA⟩
theorem QQ.fn_normal {fn : Func} {rs : Array ResultVar} {v : Value} {τ : Type} {val : τ → Value} {B : τ → World → Prop} (hrs : fn.results = rs) (hv : resE rs ρ = some v) (x : τ) (hx : v = val x) (hB : ∀ w, A w → B x w) (hmk : ρ.ms = [] := by rfl) :
    QQ (fnQ P fn fun v w => ∃ x, v = val x ∧ B x w) .normal ρ A := fun w hA => by
  show closes ρ.ms w _
  rw [hmk]
  exact ⟨v, results_of_resE hrs hv, x, hx, hB w hA⟩
def Has (ρ : Env) : List (Nat × Value) → Prop
  | [] => True
  | (i, v) :: l => ρ i = v ∧ Has ρ l
def envL : List (Nat × Value) → Env → Env
  | [], ρ => ρ
  | (i, v) :: l, ρ => ⟨fun j => bif Nat.beq j i then v else (envL l ρ).f j, (envL l ρ).ms⟩
theorem envL_has {ρ : Env} : ∀ {l : List (Nat × Value)}, Has ρ l → envL l ρ = ρ
  | [], _ => rfl
  | (i, v) :: l, h => by
    have hf : (fun j => bif Nat.beq j i then v else ρ.f j) = ρ.f := by
      funext j
      cases hb : Nat.beq j i with
      | false => rfl
      | true => have := Nat.eq_of_beq_eq_true hb; subst this; exact h.1.symm
    simp only [envL, envL_has h.2, hf]
def envM (l : List Nat) (ρ : Env) : Env := ⟨ρ.f, l⟩
theorem WPA.loopM {σ : Type} {c : Code} (mks : List Nat) (slots : σ → List (Nat × Value)) (C : σ → Prop) (B : σ → World → Prop) (m : σ → Nat) (x : σ) (hs : Has ρ (slots x)) (hC : C x) (hB : ∀ w, A w → B x w)
    (round : ∀ x ρ, C x → WPA ro P n c (loopQ (fun x ρ => Has ρ (slots x) ∧ C x ∧ ρ.ms = mks) B m x Q) (envM mks (envL (slots x) ρ)) (B x)) (hmk : ρ.ms = mks := by rfl) : WPA ro P n (.loop c) Q ρ A :=
  WPA.loop (fun x ρ => Has ρ (slots x) ∧ C x ∧ ρ.ms = mks) B m x ⟨hs, hC, hmk⟩ hB fun x ρ ⟨hs, hC, hmk⟩ => by
    have := round x ρ hC
    rw [envL_has hs] at this
    subst hmk
    exact this
theorem WPA.loopS {σ : Type} {c : Code} (slots : σ → List (Nat × Value)) (C : σ → Prop) (B : σ → World → Prop) (m : σ → Nat) (x : σ) (hs : Has ρ (slots x)) (hC : C x) (hB : ∀ w, A w → B x w)
    (round : ∀ x ρ, C x → WPA ro P n c (loopQ (fun x ρ => Has ρ (slots x) ∧ C x ∧ ρ.ms = []) B m x Q) (envM [] (envL (slots x) ρ)) (B x)) (hmk : ρ.ms = [] := by rfl) : WPA ro P n (.loop c) Q ρ A :=
  WPA.loopM [] slots C B m x hs hC hB round hmk
theorem QQ.loopS {σ : Type} {mks : List Nat} {slots : σ → List (Nat × Value)} {C : σ → Prop} {B : σ → World → Prop} {m : σ → Nat} {x : σ} (x' : σ) (hs : Has ρ (slots x')) (hC : C x') (hm : m x' < m x) (hB : ∀ w, A w → B x' w) (hmk : ρ.ms = mks := by rfl) :
    QQ (loopQ (fun x ρ => Has ρ (slots x) ∧ C x ∧ ρ.ms = mks) B m x Q) .normal ρ A := QQ.loop_normal x' hm ⟨hs, hC, hmk⟩ hB
end rules
end Go.Fw
namespace Go.Fw
open Go Go.RowKit
set_option linter.unusedVariables false
set_option linter.unusedSimpArgs false
section
variable {P : Program} {ρ : Env} {A : World → Prop} {ty : TypeId}
theorem P_move {x : Operand} {v : Value} (h : evalE ρ x = v) : OpP P ρ (.move x) ty A v := by
  intro d pos af g w _; simp only [execOp, h]; rfl
theorem P_assign {x : Operand} {v : Value} (h : evalE ρ x = v) : OpP P ρ (.assign x) ty A v := by
  intro d pos af g w _; simp only [execOp, h]; rfl
theorem P_pickT {c a b : Operand} {v : Value} {t : Bool} (hc : evalE ρ c = .bool t) (ht : t = true) (h : evalE ρ a = v) : OpP P ρ (.pick c a b) ty A v := by
  intro d pos af g w _; subst ht; simp only [execOp, h, hc]; rfl
theorem P_pickF {c a b : Operand} {v : Value} {t : Bool} (hc : evalE ρ c = .bool t) (ht : t = false) (h : evalE ρ b = v) : OpP P ρ (.pick c a b) ty A v := by
  intro d pos af g w _; subst ht; simp only [execOp, h, hc]; rfl
theorem P_nilCheck {x : Operand} {a : Addr} (h : evalE ρ x = .pointer (some a)) : OpP P ρ (.nilCheck x) ty A (.pointer (some a)) := by
  intro d pos af g w _; simp only [execOp, h]; rfl
theorem P_not {x : Operand} {t : TypeId} {b : Bool} (h : evalE ρ x = .bool b) : OpP P ρ (.unOp .not t x) ty A (.bool (!b)) := by
  intro d pos af g w _; simp only [execOp, h]; rfl
theorem P_notD {x : Operand} {t : TypeId} {p : Prop} [Decidable p] (h : evalE ρ x = .bool (decide p)) : OpP P ρ (.unOp .not t x) ty A (.bool (decide (¬ p))) := by
  intro d pos af g w _; simp only [execOp, h]; simp [decide_not]; rfl
theorem P_extract {x : Operand} {i : Nat} {vs : Array Value} {v : Value} (h : evalE ρ x = .tuple vs) (hv : vs[i]? = some v) : OpP P ρ (.extract x i) ty A v := by
  intro d pos af g w _; simp only [execOp, h, Instr.extract, hv]; rfl
theorem P_len_slice {x : Operand} {t e : TypeId} {a : Option Addr} {k c : Nat} (ht : P.underlying t = some (.slice e)) (h : evalE ρ x = .slice a k c) :
    OpP P ρ (.call { callee := .builtin .len, args := #[x], argTypes := #[t] }) ty A (.int .i64 k) := by
  intro d pos af g w _; simp [execOp, resolve, invoke, builtin, h, run_underlying ht, Builtin.len_, go_sem, goInt]
theorem P_len_str {x : Operand} {t : TypeId} {s : ByteArray} (ht : P.underlying t = some .string) (h : evalE ρ x = .string s) :
    OpP P ρ (.call { callee := .builtin .len, args := #[x], argTypes := #[t] }) ty A (.int .i64 s.size) := by
  intro d pos af g w _; simp [execOp, resolve, invoke, builtin, h, run_underlying ht, Builtin.len_, go_sem, goInt]
theorem P_add {x y : Operand} {t u : TypeId} {k : IntKind} {a b : Int} (h1 : evalE ρ x = .int k a) (h2 : evalE ρ y = .int k b) : OpP P ρ (.binOp .add t x y u) ty A (.int k (k.wrap (a + b))) := by
  intro d pos af g w _; simp [execOp, eqGuard, binOp, h1, h2, Op.intArith, go_sem]
theorem P_sub {x y : Operand} {t u : TypeId} {k : IntKind} {a b : Int} (h1 : evalE ρ x = .int k a) (h2 : evalE ρ y = .int k b) : OpP P ρ (.binOp .sub t x y u) ty A (.int k (k.wrap (a - b))) := by
  intro d pos af g w _; simp [execOp, eqGuard, binOp, h1, h2, Op.intArith, go_sem]
theorem P_mul {x y : Operand} {t u : TypeId} {k : IntKind} {a b : Int} (h1 : evalE ρ x = .int k a) (h2 : evalE ρ y = .int k b) : OpP P ρ (.binOp .mul t x y u) ty A (.int k (k.wrap (a * b))) := by
  intro d pos af g w _; simp [execOp, eqGuard, binOp, h1, h2, Op.intArith, go_sem]
theorem wrap_i64 {a : Int} (h : -9223372036854775808 ≤ a ∧ a ≤ 9223372036854775807) : IntKind.i64.wrap a = a := by
  simp only [IntKind.wrap, IntKind.bits, IntKind.signed]; simp; omega
theorem wrap_u8 {a : Int} (h : 0 ≤ a ∧ a ≤ 255) : IntKind.u8.wrap a = a := by
  simp only [IntKind.wrap, IntKind.bits, IntKind.signed]; simp; omega
theorem wrap_i32 {a : Int} (h : -2147483648 ≤ a ∧ a ≤ 2147483647) : IntKind.i32.wrap a = a := by
  simp only [IntKind.wrap, IntKind.bits, IntKind.signed]; simp; omega
theorem wrap_u64 {a : Int} (h : 0 ≤ a ∧ a ≤ 18446744073709551615) : IntKind.u64.wrap a = a := by
  simp only [IntKind.wrap, IntKind.bits, IntKind.signed]; simp; omega
theorem P_addB {x y : Operand} {t u : TypeId} {a b : Int} (h1 : evalE ρ x = .int .i64 a) (h2 : evalE ρ y = .int .i64 b) (hb : -9223372036854775808 ≤ a + b ∧ a + b ≤ 9223372036854775807) : OpP P ρ (.binOp .add t x y u) ty A (.int .i64 (a + b)) := by
  have := P_add (P := P) (A := A) (ty := ty) (t := t) (u := u) h1 h2; rwa [wrap_i64 hb] at this
theorem P_subB {x y : Operand} {t u : TypeId} {a b : Int} (h1 : evalE ρ x = .int .i64 a) (h2 : evalE ρ y = .int .i64 b) (hb : -9223372036854775808 ≤ a - b ∧ a - b ≤ 9223372036854775807) : OpP P ρ (.binOp .sub t x y u) ty A (.int .i64 (a - b)) := by
  have := P_sub (P := P) (A := A) (ty := ty) (t := t) (u := u) h1 h2; rwa [wrap_i64 hb] at this
theorem P_mulB {x y : Operand} {t u : TypeId} {a b : Int} (h1 : evalE ρ x = .int .i64 a) (h2 : evalE ρ y = .int .i64 b) (hb : -9223372036854775808 ≤ a * b ∧ a * b ≤ 9223372036854775807) : OpP P ρ (.binOp .mul t x y u) ty A (.int .i64 (a * b)) := by
  have := P_mul (P := P) (A := A) (ty := ty) (t := t) (u := u) h1 h2; rwa [wrap_i64 hb] at this
theorem P_bits {op : BinOp} (hop : op = .and ∨ op = .or ∨ op = .xor) {x y : Operand} {t u : TypeId} {k : IntKind} {a b : Int} (h1 : evalE ρ x = .int k a) (h2 : evalE ρ y = .int k b) : OpP P ρ (.binOp op t x y u) ty A (.int k (Go.bits op k a b)) := by
  intro d pos af g w _
  rcases hop with rfl | rfl | rfl <;> simp [execOp, eqGuard, binOp, h1, h2, Op.intBits, Go.bits, go_sem]
theorem P_quo {x y : Operand} {t u : TypeId} {k : IntKind} {a b : Int} (h1 : evalE ρ x = .int k a) (h2 : evalE ρ y = .int k b) (hb : b ≠ 0) : OpP P ρ (.binOp .quo t x y u) ty A (.int k (k.wrap (a.tdiv b))) := by
  intro d pos af g w _; simp [execOp, eqGuard, binOp, h1, h2, Op.intDiv, hb, go_sem]
theorem P_rem {x y : Operand} {t u : TypeId} {k : IntKind} {a b : Int} (h1 : evalE ρ x = .int k a) (h2 : evalE ρ y = .int k b) (hb : b ≠ 0) : OpP P ρ (.binOp .rem t x y u) ty A (.int k (a.tmod b)) := by
  intro d pos af g w _; simp [execOp, eqGuard, binOp, h1, h2, Op.intDiv, hb, go_sem]
theorem P_quoB {x y : Operand} {t u : TypeId} {a b : Int} (h1 : evalE ρ x = .int .i64 a) (h2 : evalE ρ y = .int .i64 b) (ha : 0 ≤ a ∧ a ≤ 9223372036854775807) (hb : 0 < b) : OpP P ρ (.binOp .quo t x y u) ty A (.int .i64 (a / b)) := by
  have h := P_quo (P := P) (A := A) (ty := ty) (t := t) (u := u) h1 h2 (by omega)
  have e : a.tdiv b = a / b := Int.tdiv_eq_ediv_of_nonneg ha.1
  have e2 : 0 ≤ a / b := Int.ediv_nonneg ha.1 (by omega)
  have e3 : a / b ≤ a := Int.ediv_le_self _ ha.1
  rw [e, wrap_i64 (by omega)] at h; exact h
theorem P_remB {x y : Operand} {t u : TypeId} {a b : Int} (h1 : evalE ρ x = .int .i64 a) (h2 : evalE ρ y = .int .i64 b) (ha : 0 ≤ a) (hb : 0 < b) : OpP P ρ (.binOp .rem t x y u) ty A (.int .i64 (a % b)) := by
  have h := P_rem (P := P) (A := A) (ty := ty) (t := t) (u := u) h1 h2 (by omega)
  rw [Int.tmod_eq_emod_of_nonneg ha] at h; exact h
theorem P_shr {x y : Operand} {t u : TypeId} {k k' : IntKind} {a : Int} {s : Nat} (h1 : evalE ρ x = .int k a) (h2 : evalE ρ y = .int k' (s : Int)) (hs : s ≤ k.bits) : OpP P ρ (.binOp .shr t x y u) ty A (.int k (a.fdiv (2 ^ s))) := by
  intro d pos af g w _
  have e : min s k.bits = s := by omega
  simp [execOp, eqGuard, binOp, h1, h2, Op.shift, e, go_sem]
  rw [if_neg (by omega)]
  cases k <;> simp_all [IntKind.bits]
theorem P_lss {x y : Operand} {t u : TypeId} {k : IntKind} {a b : Int} (h1 : evalE ρ x = .int k a) (h2 : evalE ρ y = .int k b) : OpP P ρ (.binOp .lss t x y u) ty A (.bool (decide (a < b))) := by
  intro d pos af g w _; simp [execOp, eqGuard, binOp, h1, h2, Op.intCmp, go_sem]
theorem P_leq {x y : Operand} {t u : TypeId} {k : IntKind} {a b : Int} (h1 : evalE ρ x = .int k a) (h2 : evalE ρ y = .int k b) : OpP P ρ (.binOp .leq t x y u) ty A (.bool (decide (a ≤ b))) := by
  intro d pos af g w _; simp [execOp, eqGuard, binOp, h1, h2, Op.intCmp, go_sem]
theorem P_gtr {x y : Operand} {t u : TypeId} {k : IntKind} {a b : Int} (h1 : evalE ρ x = .int k a) (h2 : evalE ρ y = .int k b) : OpP P ρ (.binOp .gtr t x y u) ty A (.bool (decide (b < a))) := by
  intro d pos af g w _; simp [execOp, eqGuard, binOp, h1, h2, Op.intCmp, go_sem]
theorem P_geq {x y : Operand} {t u : TypeId} {k : IntKind} {a b : Int} (h1 : evalE ρ x = .int k a) (h2 : evalE ρ y = .int k b) : OpP P ρ (.binOp .geq t x y u) ty A (.bool (decide (b ≤ a))) := by
  intro d pos af g w _; simp [execOp, eqGuard, binOp, h1, h2, Op.intCmp, go_sem]
theorem P_eqI {x y : Operand} {t u : TypeId} {k : IntKind} {a b : Int} (h1 : evalE ρ x = .int k a) (h2 : evalE ρ y = .int k b) : OpP P ρ (.binOp .eql t x y u) ty A (.bool (decide (a = b))) := by
  intro d pos af g w _; simp [execOp, eqGuard, binOp, h1, h2, Op.intCmp, go_sem]; rfl
theorem P_neI {x y : Operand} {t u : TypeId} {k : IntKind} {a b : Int} (h1 : evalE ρ x = .int k a) (h2 : evalE ρ y = .int k b) : OpP P ρ (.binOp .neq t x y u) ty A (.bool (decide (a ≠ b))) := by
  intro d pos af g w _; simp [execOp, eqGuard, binOp, h1, h2, Op.intCmp, go_sem, bne, BEq.beq]
theorem bytes_eq (a b : ByteArray) : (a.toList == b.toList) = decide (a = b) := by
  rw [ByteArray.toList_eq, ByteArray.toList_eq, Bool.eq_iff_iff]
  simp only [beq_iff_eq, decide_eq_true_eq]
  constructor
  · intro h; cases a; cases b; simp at h; simp [h]
  · rintro rfl; rfl
theorem P_eqS {x y : Operand} {t u : TypeId} {a b : ByteArray} (h1 : evalE ρ x = .string a) (h2 : evalE ρ y = .string b) : OpP P ρ (.binOp .eql t x y u) ty A (.bool (decide (a = b))) := by
  intro d pos af g w _; rw [← bytes_eq]; simp [execOp, eqGuard, binOp, h1, h2, Op.stringOp, go_sem]
theorem P_neS {x y : Operand} {t u : TypeId} {a b : ByteArray} (h1 : evalE ρ x = .string a) (h2 : evalE ρ y = .string b) : OpP P ρ (.binOp .neq t x y u) ty A (.bool (decide (a ≠ b))) := by
  intro d pos af g w _; rw [decide_not, ← bytes_eq]; simp [execOp, eqGuard, binOp, h1, h2, Op.stringOp, go_sem]
theorem P_catS {x y : Operand} {t u : TypeId} {a b : ByteArray} (h1 : evalE ρ x = .string a) (h2 : evalE ρ y = .string b) (hb : a.size + b.size ≤ 9223372036854775807) : OpP P ρ (.binOp .add t x y u) ty A (.string (a ++ b)) := by
  intro d pos af g w _
  have := run_string_add_sum (P := P) (w := w) a b hb
  simp [execOp, eqGuard, binOp, h1, h2, this, go_sem]
theorem P_convInt {x : Operand} {src dst : TypeId} {k k' : IntKind} {a : Int} {dd : TypeDesc} (hs : P.underlying src = some dd) (hd : P.underlying dst = some (.int k)) (h : evalE ρ x = .int k' a) : OpP P ρ (.convert src dst x) ty A (.int k (k.wrap a)) := by
  intro d pos af g w _; simp [execOp, convert, h, run_underlying hs, run_underlying hd, Conv.intToInt, go_sem]
def bt (s : ByteArray) (i : Int) : Int := if h : i.toNat < s.size then ((s[i.toNat]'h).toNat : Int) else 0
theorem bt_range (s : ByteArray) (i : Int) : 0 ≤ bt s i ∧ bt s i ≤ 255 := by
  unfold bt
  split
  · rename_i h; have := (s[i.toNat]'h).toNat_lt; omega
  · omega
theorem P_index_str {x y : Operand} {t : TypeId} {k : IntKind} {s : ByteArray} {i : Int} (ht : P.underlying t = some .string) (h1 : evalE ρ x = .string s) (h2 : evalE ρ y = .int k i) (h0 : 0 ≤ i) (hi : i < (s.size : Int)) :
    OpP P ρ (.index t x y) ty A (.int .u8 (bt s i)) := by
  intro d pos af g w _
  have hl : i.toNat < s.size := by omega
  have e : s[i.toNat]? = some (s[i.toNat]'hl) := by simp [hl]
  simp [execOp, Instr.index, asIntOf, h1, h2, run_underlying ht, e, h0, bt, hl, go_sem]
theorem P_indexAddr {x y : Operand} {t e : TypeId} {k : IntKind} {b o len cap : Nat} {i : Int} {sz : Nat} (ht : P.underlying t = some (.slice e)) (hz : (P.info? e).map (·.size) = some sz)
    (h1 : evalE ρ x = .slice (some ⟨b, o, none⟩) len cap) (h2 : evalE ρ y = .int k i) (h0 : 0 ≤ i) (hi : i < (len : Int)) :
    OpP P ρ (.indexAddr t x y) ty A (.pointer (some ⟨b, o + i.toNat * sz, none⟩)) := by
  intro d pos af g w _
  obtain ⟨inf, hinf, hz'⟩ := Option.map_eq_some_iff.1 hz
  have ea : (⟨b, o, none⟩ : Addr).add (i.toNat * sz) = ⟨b, o + i.toNat * sz, none⟩ := by
    unfold Addr.add; split
    · rename_i h; simp [h]
    · rfl
  simp [execOp, Instr.indexAt, asIntOf, h1, h2, run_underlying ht, h0, hi, Go.sizeOf, typeInfo, hinf, hz', ea, go_sem]
end
end Go.Fw
namespace Go.Fw
open Go Go.RowKit
set_option linter.unusedVariables false
set_option linter.unusedSimpArgs false
abbrev HeapP := Nat → Option Obj
structure St (w0 : World) (H : HeapP) (L : List (Nat × Obj)) (w : World) : Prop where
  below : Below w0.heap.size w0 w
  imm : ∀ b o, H b = some o → w.heap[b]? = some o
  own : ∀ p ∈ L, w.heap[p.1]? = some p.2 ∧ H p.1 = none ∧ w0.heap.size ≤ p.1
  nodup : (L.map (·.1)).Nodup
  drw : w0.drawn ≤ w.drawn
def HLe (H H' : HeapP) : Prop := ∀ b o, H b = some o → H' b = some o
theorem HLe.refl (H : HeapP) : HLe H H := fun _ _ h => h
theorem HLe.trans {H H' H'' : HeapP} (h : HLe H H') (k : HLe H' H'') : HLe H H'' := fun b o e => k b o (h b o e)
section
variable {w0 : World} {H : HeapP} {L : List (Nat × Obj)} {w : World}
theorem St.at_ (h : St w0 H L w) {j b : Nat} {o : Obj} (hj : L[j]? = some (b, o)) : w.heap[b]? = some o := (h.own (b, o) (List.mem_of_getElem? hj)).1
theorem St.start (w : World) : St w (fun b => w.heap[b]?) [] w := ⟨Below.refl _ _, fun _ _ h => h, fun _ h => (by cases h), List.nodup_nil, Nat.le_refl _⟩
theorem St.drop {L' : List (Nat × Obj)} (h : St w0 H L w) (hs : L'.Sublist L) : St w0 H L' w :=
  ⟨h.below, h.imm, fun p hp => h.own p (hs.subset hp), (hs.map (fun p : Nat × Obj => p.1)).nodup h.nodup, h.drw⟩
theorem St.perm {L' : List (Nat × Obj)} (h : St w0 H L w) (hs : L.Perm L') : St w0 H L' w :=
  ⟨h.below, h.imm, fun p hp => h.own p (hs.symm.subset hp), (hs.map (fun p : Nat × Obj => p.1)).nodup h.nodup, h.drw⟩
theorem St.base (h : St w0 H L w) : w0.heap.size ≤ w.heap.size := h.below.size
theorem St.drawn (h : St w0 H L w) (k : Nat) (hk : w.drawn ≤ k) : St w0 H L { w with drawn := k } := ⟨⟨h.below.os, h.below.tape, h.below.output, h.below.size, h.below.block⟩, h.imm, h.own, h.nodup, Nat.le_trans h.drw hk⟩
theorem St.push (h : St w0 H L w) (o : Obj) : St w0 H ((w.heap.size, o) :: L) { w with heap := w.heap.push o } := by
  have hlt : ∀ b u, w.heap[b]? = some u → b < w.heap.size := fun b u e => (Array.getElem?_eq_some_iff.1 e).1
  have hk : ∀ b u, w.heap[b]? = some u → (w.heap.push o)[b]? = some u := fun b u e => by
    rw [Array.getElem?_push, if_neg (by have := hlt b u e; omega)]; exact e
  refine ⟨⟨h.below.os, h.below.tape, h.below.output, by have := h.below.size; simp; omega, fun k hk' => ?_⟩, fun b u e => hk b u (h.imm b u e), fun p hp => ?_, ?_, h.drw⟩
  · have hb := h.below.size
    show (w.heap.push o)[k]? = _
    rw [Array.getElem?_push, if_neg (by omega)]
    exact h.below.block k hk'
  · rcases List.mem_cons.1 hp with rfl | hp
    · refine ⟨by simp, ?_, h.below.size⟩
      cases e : H w.heap.size with
      | none => rfl
      | some u => have := hlt _ _ (h.imm _ _ e); omega
    · obtain ⟨h1, h2, h3⟩ := h.own p hp
      exact ⟨hk _ _ h1, h2, h3⟩
  · rw [List.map_cons, List.nodup_cons]
    refine ⟨fun hm => ?_, h.nodup⟩
    obtain ⟨p, hp, e⟩ := List.mem_map.1 hm
    have := hlt _ _ (h.own p hp).1
    simp only at e
    omega
theorem St.put (h : St w0 H L w) {j b : Nat} {o o' : Obj} (hj : L[j]? = some (b, o)) {w' : World} (hh : ∀ k, w'.heap[k]? = if k = b then some o' else w.heap[k]?)
    (hs : w'.heap.size = w.heap.size) (h1 : w'.os = w.os) (h2 : w'.tape = w.tape) (h3 : w'.output = w.output) (h4 : w.drawn ≤ w'.drawn) : St w0 H (L.set j (b, o')) w' := by
  have hb := h.own _ (List.mem_of_getElem? hj)
  have hjl : j < L.length := (List.getElem?_eq_some_iff.1 hj).1
  have hjb : (L[j]).1 = b := by
    have := (List.getElem?_eq_some_iff.1 hj).2
    rw [this]
  have hnd : ∀ i (hi : i < L.length), i ≠ j → (L[i]).1 ≠ b := by
    intro i hi hne e
    have hn := List.pairwise_iff_getElem.1 h.nodup
    rcases Nat.lt_or_gt_of_ne hne with hlt | hlt
    · have := hn i j (by simpa using hi) (by simpa using hjl) hlt
      simp only [List.getElem_map] at this
      exact this (e.trans hjb.symm)
    · have := hn j i (by simpa using hjl) (by simpa using hi) hlt
      simp only [List.getElem_map] at this
      exact this (hjb.trans e.symm)
  have keys : (L.set j (b, o')).map (·.1) = L.map (·.1) := by
    apply List.ext_getElem
    · simp
    · intro i h1 h2
      simp only [List.getElem_map, List.getElem_set]
      split
      · rename_i e; subst e
        have := (List.getElem?_eq_some_iff.1 hj).2
        rw [this]
      · rfl
  refine ⟨⟨h1.trans h.below.os, h2.trans h.below.tape, h3.trans h.below.output, by rw [hs]; exact h.below.size, fun k hk => ?_⟩, fun k u e => ?_, fun p hp => ?_, by rw [keys]; exact h.nodup, Nat.le_trans h.drw h4⟩
  · rw [hh k, if_neg (by have := hb.2.2; simp only at this; omega)]; exact h.below.block k hk
  · rw [hh k, if_neg (by rintro rfl; have := hb.2.1; simp only at this; rw [this] at e; cases e)]; exact h.imm k u e
  · obtain ⟨i, hi, e⟩ := List.getElem_of_mem hp
    rw [List.getElem_set] at e
    split at e
    · subst e; exact ⟨by rw [hh]; simp, hb.2.1, hb.2.2⟩
    · rename_i hij
      have hi' : i < L.length := by simpa using hi
      have hm : p ∈ L := e ▸ List.getElem_mem hi'
      obtain ⟨g1, g2, g3⟩ := h.own p hm
      exact ⟨by rw [hh, if_neg (by rw [← e]; exact hnd i hi' (Ne.symm hij))]; exact g1, g2, g3⟩
theorem heap_setCell_eq (w : World) (b i : Nat) (v : Value) {cs : Array Value} {t : TypeId} {fr : Nat × Nat} (hb : w.heap[b]? = some (.cells cs t fr)) (k : Nat) :
    (w.setCell ⟨b, i, none⟩ v).heap[k]? = if k = b then some (.cells (cs.setIfInBounds i v) t fr) else w.heap[k]? := by
  by_cases e : k = b
  · subst e; simp [World.setCell, Array.getElem?_modify, hb]
  · rw [if_neg e]; exact Below.heap_setCell w _ v k e
theorem St.setCell (h : St w0 H L w) {j b : Nat} {cs : Array Value} {t : TypeId} {fr : Nat × Nat} (hj : L[j]? = some (b, .cells cs t fr)) (i : Nat) (v : Value) :
    St w0 H (L.set j (b, .cells (cs.setIfInBounds i v) t fr)) (w.setCell ⟨b, i, none⟩ v) :=
  h.put hj (heap_setCell_eq w b i v (h.at_ hj)) (by simp [World.setCell]) rfl rfl rfl (Nat.le_refl _)
theorem St.freeze {b : Nat} {o : Obj} (h : St w0 H ((b, o) :: L) w) : ∃ H', HLe H H' ∧ H' b = some o ∧ St w0 H' L w := by
  have hb := h.own (b, o) (List.mem_cons_self ..)
  simp only at hb
  have hn := h.nodup
  rw [List.map_cons, List.nodup_cons] at hn
  refine ⟨fun k => if k = b then some o else H k, fun k u e => ?_, by simp, ?_⟩
  · by_cases e' : k = b
    · subst e'; rw [hb.2.1] at e; cases e
    · simp [e', e]
  · refine ⟨h.below, fun k u e => ?_, fun p hp => ?_, hn.2, h.drw⟩
    · by_cases e' : k = b
      · subst e'; simp at e; subst e; exact hb.1
      · simp only [e', if_false] at e; exact h.imm k u e
    · obtain ⟨g1, g2, g3⟩ := h.own p (List.mem_cons_of_mem _ hp)
      have hne : p.1 ≠ b := fun e => hn.1 (List.mem_map.2 ⟨p, hp, e⟩)
      exact ⟨g1, by simp only [hne, if_false]; exact g2, g3⟩
end
class InSt (A : World → Prop) (w0 : outParam World) (H : outParam HeapP) (L : outParam (List (Nat × Obj))) : Prop where
  out : ∀ u, A u → St w0 H L u
instance (w0 : World) (H : HeapP) (L : List (Nat × Obj)) : InSt (St w0 H L) w0 H L := ⟨fun _ h => h⟩
class DrC (A : World → Prop) : Prop where
  out : ∀ w k, w.drawn ≤ k → A w → A { w with drawn := k }
instance (w0 : World) (H : HeapP) (L : List (Nat × Obj)) : DrC (St w0 H L) := ⟨fun _ k hk h => h.drawn k hk⟩
def StD (w0 : World) (H : HeapP) (L : List (Nat × Obj)) (w u : World) : Prop := St w0 H L u ∧ ∃ k, w.drawn ≤ k ∧ u = { w with drawn := k }
instance (w0 : World) (H : HeapP) (L : List (Nat × Obj)) (w : World) : InSt (StD w0 H L w) w0 H L := ⟨fun _ h => h.1⟩
instance (w0 : World) (H : HeapP) (L : List (Nat × Obj)) (w : World) : DrC (StD w0 H L w) := ⟨fun u k hk h => ⟨h.1.drawn k hk, by obtain ⟨_, m, hm, rfl⟩ := h; exact ⟨k, Nat.le_trans hm hk, rfl⟩⟩⟩
def oneTy (P : Program) (t : TypeId) : Bool :=
  match P.underlying t with
  | some (.struct _) | some (.array ..) | none => false
  | _ => true
def aggTy (P : Program) (t : TypeId) : Option Nat :=
  match P.underlying t with
  | some (.struct _) | some (.array ..) => (P.info? t).map (·.size)
  | _ => none
section
variable {P : Program} {ρ : Env} {A : World → Prop} {ty : TypeId}
theorem run_isAgg_one {t : TypeId} (h : oneTy P t = true) (w : World) : (isAgg t).run P w = .ok false w := by
  unfold oneTy at h
  cases e : P.underlying t with
  | none => rw [e] at h; cases h
  | some d =>
    rw [e] at h
    cases d <;> first | (simp [isAgg, run_underlying e, go_sem]; done) | (exact absurd h (by simp))
theorem run_isAgg_agg {t : TypeId} {k : Nat} (h : aggTy P t = some k) (w : World) : (isAgg t).run P w = .ok true w ∧ (Go.sizeOf t).run P w = .ok k w := by
  unfold aggTy at h
  cases e : P.underlying t with
  | none => rw [e] at h; cases h
  | some d =>
    rw [e] at h
    cases d <;> first
      | (simp at h; done)
      | (obtain ⟨inf, hi, hz⟩ := Option.map_eq_some_iff.1 h
         exact ⟨by simp [isAgg, run_underlying e, go_sem], by simp [Go.sizeOf, typeInfo, hi, hz, go_sem]⟩)
theorem cell_of_heap {w : World} {b i : Nat} {cs : Array Value} {t : TypeId} {fr : Nat × Nat} {v : Value} (hb : w.heap[b]? = some (.cells cs t fr)) (hi : cs[i]? = some v) : w.cell? ⟨b, i, none⟩ = some v := by
  simp [World.cell?, hb, hi]
theorem P_load {x : Operand} {t : TypeId} {b i : Nat} {v : Value} (ht : oneTy P t = true) (h : evalE ρ x = .pointer (some ⟨b, i, none⟩)) (hA : ∀ w, A w → w.cell? ⟨b, i, none⟩ = some v) :
    OpP P ρ (.load t x) ty A v := by
  intro d pos af g w hw
  simp [execOp, Instr.loadAt, Instr.sureAddr, loadVar, h, run_isAgg_one ht, load, Sem.run, hA w hw, go_sem]
theorem P_loadAgg {x : Operand} {t : TypeId} {b i k : Nat} {vs : List Value} (ht : aggTy P t = some k) (h : evalE ρ x = .pointer (some ⟨b, i, none⟩)) (hk : vs.length = k)
    (hA : ∀ w, A w → ∀ j v, vs[j]? = some v → w.cell? ⟨b, i + j, none⟩ = some v) : OpP P ρ (.load t x) ty A (.agg vs.toArray) := by
  intro d pos af g w hw
  have ha : ∀ j, (⟨b, i, none⟩ : Addr).add j = ⟨b, i + j, none⟩ := fun j => by
    unfold Addr.add; split
    · rename_i e; simp [e]
    · rfl
  have hl := run_loadCells_list (P := P) (w := w) ⟨b, i, none⟩ vs (fun j v e => by rw [ha]; exact hA w hw j v e)
  rw [hk] at hl
  have hl' : (loadCellsFrom ⟨b, i, none⟩ 0 k #[]).run P w = .ok vs.toArray w := hl
  simp [execOp, Instr.loadAt, Instr.sureAddr, loadVar, h, (run_isAgg_agg ht w).1, (run_isAgg_agg ht w).2, hl', go_sem]
variable {w0 : World} {H : HeapP} {L : List (Nat × Obj)}
def fieldOff (P : Program) (s : TypeId) (f : Nat) : Option Nat :=
  match P.underlying s with
  | some (.struct fields) => (fields[f]?).bind fun fd => (P.info? fd.type).bind fun i => if i.size = 0 then none else some fd.offset
  | _ => none
theorem P_fieldAddr {x : Operand} {s : TypeId} {f off : Nat} {b i : Nat} (hf : fieldOff P s f = some off) (h : evalE ρ x = .pointer (some ⟨b, i, none⟩)) :
    OpP P ρ (.fieldAddr s x f) ty A (.pointer (some ⟨b, i + off, none⟩)) := by
  intro d pos af g w _
  unfold fieldOff at hf
  split at hf
  · rename_i fields e
    cases e2 : fields[f]? with
    | none => rw [e2] at hf; cases hf
    | some fd =>
      rw [e2] at hf
      simp only [Option.bind_some] at hf
      cases e3 : P.info? fd.type with
      | none => rw [e3] at hf; cases hf
      | some inf =>
        rw [e3] at hf
        simp only [Option.bind_some] at hf
        split at hf
        · cases hf
        · rename_i hz
          cases hf
          have ha : (⟨b, i, none⟩ : Addr).add fd.offset = ⟨b, i + fd.offset, none⟩ := by
            unfold Addr.add; split
            · rename_i e; simp [e]
            · rfl
          simp [execOp, Instr.fieldAt, Instr.sureAddr, run_underlying e, e2, fieldPlace, Go.sizeOf, typeInfo, e3, hz, ha, h, go_sem]
  · cases hf
theorem T_store (j : Nat) {x y : Operand} {t t' : TypeId} {b i : Nat} {cs : Array Value} {v : Value} (hz : (P.info? t).map (·.size) = some 1) (h : evalE ρ x = .pointer (some ⟨b, i, none⟩))
    (hv : evalE ρ y = v) (h1 : v.oneCell' = true) (hj : L[j]? = some (b, .cells cs t' (0, 0))) (hi : i < cs.size) :
    OpT P ρ (.store t x y) ty (St w0 H L) fun _ w => St w0 H (L.set j (b, .cells (cs.setIfInBounds i v) t' (0, 0))) w := by
  intro d pos af g w hw
  obtain ⟨inf, hinf, hz'⟩ := Option.map_eq_some_iff.1 hz
  have hb := hw.at_ hj
  have hc : w.cell? ⟨b, i, none⟩ = some (cs[i]) := cell_of_heap hb (by simp [hi])
  have hfz : w.frozen? ⟨b, i, none⟩ = false := by simp [World.frozen?, hb]
  have e : (storeVar t ⟨b, i, none⟩ v).run P w = .ok () (w.setCell ⟨b, i, none⟩ v) := by
    have ha0 : (⟨b, i, none⟩ : Addr).add 0 = ⟨b, i, none⟩ := rfl
    cases v <;> first
      | (simp [Value.oneCell'] at h1; done)
      | (simp [storeVar, Go.sizeOf, typeInfo, hinf, hz', storeCells, ha0, store, Sem.run, hc, hfz, go_sem]; done)
  simp only [execOp, Instr.storeAt, Instr.sureAddr, h, hv, Sem.run_bind, Sem.run_pure, pure_bind, Result.andThen, e, OpU]
  exact hw.setCell hj i v
theorem T_alloc {t : TypeId} {z : Value} (hz : (P.info? t).bind (·.zero) = some z) :
    OpT P ρ (.alloc t) ty (St w0 H L) fun v w => ∃ b, v = .pointer (some ⟨b, 0, none⟩) ∧ St w0 H ((b, .cells z.cells t (0, 0)) :: L) w := by
  intro d pos af g w hw
  obtain ⟨inf, hinf, hz'⟩ := Option.bind_eq_some_iff.1 hz
  simp [execOp, Instr.alloc, zeroValue, typeInfo, hinf, hz', newVar, newRow, newObj, go_sem, OpU, Sem.run]
  exact hw.push _
theorem T_box {t : TypeId} {x : Operand} {v : Value} (h : evalE ρ x = v) :
    OpT P ρ (.box t x) ty (St w0 H L) fun u w => ∃ b, u = .pointer (some ⟨b, 0, none⟩) ∧ St w0 H ((b, .cells v.cells t (0, 0)) :: L) w := by
  intro d pos af g w hw
  simp [execOp, Instr.box, h, newVar, newRow, newObj, go_sem, OpU, Sem.run]
  exact hw.push _
end
end Go.Fw
