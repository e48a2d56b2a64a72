/- A small logic over the model's code: environments of temporaries as functions, assertions on worlds, one rule a form of code. Conditions: none. -/
import Derived.WalkKit
import Derived.StillTail
import Derived.LoopNIn
import Derived.TacticsIn
import Derived.CallsIn
import Derived.RangeFuncLeaves
import Derived.RangeFuncRecord
namespace Go.Fw
open Go Go.RowKit
set_option linter.unusedVariables false

/-! ### Environments -/
/-- What the temporaries hold; mk: the blocks of the loops over functions that are behind. -/
structure Env where
  f : Nat → Value
  ms : List Nat
instance : CoeFun Env (fun _ => Nat → Value) := ⟨Env.f⟩
def upd (n : Nat) (ρ : Env) (d : Nat) (v : Value) : Env := ⟨fun i => bif (Nat.beq i d && Nat.blt d n) then v else ρ.f i, ρ.ms⟩
def updO (n : Nat) (ρ : Env) : Option Tmp → Value → Env
  | some d, v => upd n ρ d v
  | none, _ => ρ
def evalE (ρ : Env) : Operand → Value
  | .tmp t => ρ t
  | .const v => v
  | .global g => .pointer (some ⟨g, 0, none⟩)
  | .func f => .func (.func f) #[] #[]
def envOf (l : List Value) : Env := ⟨fun i => l.getD i undef, []⟩
def marks (l : List Nat) : List Deferred := l.map fun D => { target := .collected D, args := #[] }

structure Agree (n : Nat) (ρ : Env) (a : Act) : Prop where
  sz : a.tmps.size = n
  get : ∀ i, a.tmps.getD i undef = ρ i
  df : a.defers = marks ρ.ms

theorem Agree.eval {n : Nat} {ρ : Env} {a : Act} (h : Agree n ρ a) : a.eval = evalE ρ := by
  funext x
  cases x with
  | tmp t => exact h.get t
  | _ => rfl

theorem blt_iff (d n : Nat) : Nat.blt d n = true ↔ d < n := by
  unfold Nat.blt
  rw [Nat.ble_eq]; omega
theorem blt_false (d n : Nat) : Nat.blt d n = false ↔ ¬ d < n := by
  rw [← blt_iff, Bool.not_eq_true]
theorem upd_apply (n : Nat) (ρ : Env) (d : Nat) (v : Value) (i : Nat) : upd n ρ d v i = if i = d ∧ d < n then v else ρ i := by
  unfold upd
  by_cases h1 : i = d
  · by_cases h2 : d < n
    · rw [(blt_iff d n).2 h2]; simp [h1, h2]
    · rw [(blt_false d n).2 h2]; simp [h1, h2]
  · have : Nat.beq i d = false := by
      cases hb : Nat.beq i d with
      | false => rfl
      | true => exact absurd (Nat.eq_of_beq_eq_true hb) h1
    simp [h1, this]

theorem getD_setIfInBounds (xs : Array Value) (d i : Nat) (v : Value) :
    (xs.setIfInBounds d v).getD i undef = if i = d ∧ d < xs.size then v else xs.getD i undef := by
  simp only [Array.getD_eq_getD_getElem?, Array.getElem?_setIfInBounds]
  by_cases h : d = i
  · subst h
    by_cases h2 : d < xs.size
    · simp [h2]
    · simp [h2]
  · rw [if_neg h, if_neg (fun hh => h hh.1.symm)]

theorem Agree.put {n : Nat} {ρ : Env} {a : Act} (h : Agree n ρ a) (dst : Option Tmp) (v : Value) : Agree n (updO n ρ dst v) (a.put dst v) := by
  cases dst with
  | none => exact h
  | some d =>
    refine ⟨by simp [Act.put, h.sz], fun i => ?_, h.df⟩
    show (a.tmps.setIfInBounds d v).getD i undef = upd n ρ d v i
    rw [getD_setIfInBounds, upd_apply, h.sz, h.get]

def yieldedE (n : Nat) (ops : Array Oper) (ρ : Env) (j : Nat) : Option Bool :=
  match (ops[j]?).bind (·.dst) with
  | some t => bif Nat.blt t n then (match ρ t with | .bool b => some b | _ => none) else none
  | none => none

theorem Agree.yielded {n : Nat} {ρ : Env} {a : Act} (h : Agree n ρ a) (ops : Array Oper) : Go.yielded ops a.tmps = yieldedE n ops ρ := by
  funext j
  unfold Go.yielded yieldedE
  cases hd : (ops[j]?).bind (·.dst) with
  | none => rfl
  | some t =>
    simp only [Option.bind_some]
    by_cases ht : t < n
    · have e : a.tmps[t]? = some (ρ t) := by
        have := h.get t
        have hs : t < a.tmps.size := by rw [h.sz]; exact ht
        simp [Array.getD_eq_getD_getElem?, hs] at this
        simp [hs, this]
      have hb : Nat.blt t n = true := (blt_iff t n).2 ht
      rw [e, hb]
      cases ρ t <;> rfl
    · have e : a.tmps[t]? = none := by
        have hs : a.tmps.size ≤ t := by rw [h.sz]; exact Nat.le_of_not_lt ht
        exact Array.getElem?_eq_none hs
      have hb : Nat.blt t n = false := (blt_false t n).2 ht
      rw [e, hb]
      rfl

/-! ### Handlers and the triple of a code -/
abbrev Hnd := Exit → Env → World → Prop
def QA (n : Nat) (Q : Hnd) : Exit → Act → World → Prop
  | .panic _, _, _ => False
  | .outgrown, _, _ => False
  | e, a, w => ∃ ρ, Agree n ρ a ∧ Q e ρ w

/-- All functions are let in; ro: the round that the code is in, if any. -/
def FR (ro : Option Nat) : Fence := { Fence.wide with round := ro }
def WPA (ro : Option Nat) (P : Program) (n : Nat) (c : Code) (Q : Hnd) (ρ : Env) (A : World → Prop) : Prop :=
  ∀ m a w, Agree n ρ a → A w → c.wpIn (FR ro) m P (QA n Q) a w
def QQ (Q : Hnd) (e : Exit) (ρ : Env) (A : World → Prop) : Prop := ∀ w, A w → Q e ρ w
def WLA (ro : Option Nat) (P : Program) (n : Nat) (ops : Array Oper) (Q : Hnd) (l : List Oper) (ρ : Env) (A : World → Prop) : Prop :=
  ∀ m a w, Agree n ρ a → A w → wpListIn (FR ro) m P ops (QA n Q) l a w

def seqQ (ro : Option Nat) (P : Program) (n : Nat) (y : Code) (Q : Hnd) : Hnd
  | .normal, ρ, w => WPA ro P n y Q ρ (fun w' => w' = w)
  | e, ρ, w => Q e ρ w
def blockQ (id : Nat) (Q : Hnd) : Hnd
  | .exit id', ρ, w => if id' = id then Q .normal ρ w else Q (.exit id') ρ w
  | e, ρ, w => Q e ρ w
def loopQ {σ : Type} (C : σ → Env → Prop) (B : σ → World → Prop) (m : σ → Nat) (x : σ) (Q : Hnd) : Hnd
  | .normal, ρ, w => ∃ x', m x' < m x ∧ C x' ρ ∧ B x' w
  | e, ρ, w => Q e ρ w

section rules
variable {ro : Option Nat} {P : Program} {n : Nat} {Q : Hnd} {ρ : Env} {A : World → Prop}

theorem QA_mono {Q Q' : Hnd} (h : ∀ e ρ w, Q e ρ w → Q' e ρ w) : ∀ e a w, QA n Q e a w → QA n Q' e a w := by
  intro e _ _ hq
  cases e <;> first | exact hq | (obtain ⟨ρ, ha, hr⟩ := hq; exact ⟨ρ, ha, h _ _ _ hr⟩)

theorem WPA.seq {x y : Code} (h : WPA ro P n x (seqQ ro P n y Q) ρ A) : WPA ro P n (.seq x y) Q ρ A := by
  intro m a w ha hA
  refine wpIn_seq (wpIn_mono (h m a w ha hA) ?_)
  intro e a' w' hq
  cases e with
  | normal => obtain ⟨ρ', ha', hr⟩ := hq; exact hr m a' w' ha' rfl
  | _ => exact hq

theorem QQ.seq_normal {y : Code} (h : WPA ro P n y Q ρ A) : QQ (seqQ ro P n y Q) .normal ρ A :=
  fun w hA m a w' ha hw' => h m a w' ha (hw' ▸ hA)
theorem QQ.seq_ret {y : Code} (h : QQ Q .ret ρ A) : QQ (seqQ ro P n y Q) .ret ρ A := h
theorem QQ.seq_exit {y : Code} {id : Nat} (h : QQ Q (.exit id) ρ A) : QQ (seqQ ro P n y Q) (.exit id) ρ A := h
theorem QQ.block_normal {id : Nat} (h : QQ Q .normal ρ A) : QQ (blockQ id Q) .normal ρ A := h
theorem QQ.block_ret {id : Nat} (h : QQ Q .ret ρ A) : QQ (blockQ id Q) .ret ρ A := h
theorem QQ.block_hit {id : Nat} (h : QQ Q .normal ρ A) : QQ (blockQ id Q) (.exit id) ρ A := by
  intro w hA; simp only [blockQ, if_true]; exact h w hA
theorem QQ.block_miss {id id' : Nat} (hne : Nat.beq id' id = false) (h : QQ Q (.exit id') ρ A) : QQ (blockQ id Q) (.exit id') ρ A := by
  intro w hA
  simp only [blockQ]
  rw [if_neg (by intro e; subst e; simp at hne)]
  exact h w hA
theorem QQ.loop_ret {σ : Type} {C : σ → Env → Prop} {B : σ → World → Prop} {m : σ → Nat} {x : σ} (h : QQ Q .ret ρ A) : QQ (loopQ C B m x Q) .ret ρ A := h
theorem QQ.loop_exit {σ : Type} {C : σ → Env → Prop} {B : σ → World → Prop} {m : σ → Nat} {x : σ} {id : Nat} (h : QQ Q (.exit id) ρ A) : QQ (loopQ C B m x Q) (.exit id) ρ A := h
theorem QQ.loop_normal {σ : Type} {C : σ → Env → Prop} {B : σ → World → Prop} {m : σ → Nat} {x : σ} (x' : σ) (hm : m x' < m x) (hC : C x' ρ) (hB : ∀ w, A w → B x' w) :
    QQ (loopQ C B m x Q) .normal ρ A := fun w hA => ⟨x', hm, hC, hB w hA⟩

theorem WPA.skip (h : QQ Q .normal ρ A) : WPA ro P n .skip Q ρ A := fun _ _ w ha hA => wpIn_skip ⟨ρ, ha, h w hA⟩
theorem WPA.ret (h : QQ Q .ret ρ A) : WPA ro P n .ret Q ρ A := fun _ _ w ha hA => wpIn_ret ⟨ρ, ha, h w hA⟩
theorem WPA.exit {id : Nat} (h : QQ Q (.exit id) ρ A) : WPA ro P n (.exit id) Q ρ A := fun _ _ w ha hA => wpIn_exit ⟨ρ, ha, h w hA⟩
theorem WPA.block {id : Nat} {c : Code} (h : WPA ro P n c (blockQ id Q) ρ A) : WPA ro P n (.block id c) Q ρ A := by
  intro m a w ha hA
  refine wpIn_block (wpIn_mono (h m a w ha hA) ?_)
  intro e a' w' hq
  cases e with
  | exit id' =>
    obtain ⟨ρ', ha', hr⟩ := hq
    simp only [blockQ] at hr
    simp only [Exit.inBlock]
    split
    · rename_i e; rw [if_pos e] at hr; exact ⟨ρ', ha', hr⟩
    · rename_i e; rw [if_neg e] at hr; exact ⟨ρ', ha', hr⟩
  | _ => exact hq

theorem WPA.cond {c : Operand} {x y : Code} {p : Prop} [Decidable p] (hc : evalE ρ c = .bool (decide p)) (ht : p → WPA ro P n x Q ρ A) (hf : ¬ p → WPA ro P n y Q ρ A) :
    WPA ro P n (.cond c x y) Q ρ A := by
  intro m a w ha hA
  have hc' : a.eval c = .bool (decide p) := by rw [ha.eval]; exact hc
  by_cases hp : p
  · exact wpIn_cond_true (by rw [hc', decide_eq_true hp]) (ht hp m a w ha hA)
  · exact wpIn_cond_false (by rw [hc', decide_eq_false hp]) (hf hp m a w ha hA)
theorem WPA.condB {c : Operand} {x y : Code} {b : Bool} (hc : evalE ρ c = .bool b) (ht : b = true → WPA ro P n x Q ρ A) (hf : b = false → WPA ro P n y Q ρ A) :
    WPA ro P n (.cond c x y) Q ρ A := by
  intro m a w ha hA
  have hc' : a.eval c = .bool b := by rw [ha.eval]; exact hc
  cases b with
  | true => exact wpIn_cond_true hc' (ht rfl m a w ha hA)
  | false => exact wpIn_cond_false hc' (hf rfl m a w ha hA)

theorem WPA.region {id : Nat} {l : List Oper} (h : WLA ro P n l.toArray Q l ρ A) : WPA ro P n (.region id l.toArray false) Q ρ A :=
  fun _ _ _ ha hA => wpIn_region_lit (h _ _ _ ha hA)

theorem WPA.loop {σ : Type} {c : Code} (C : σ → Env → Prop) (B : σ → World → Prop) (m : σ → Nat) (x : σ) (hC : C x ρ) (hB : ∀ w, A w → B x w)
    (round : ∀ x ρ, C x ρ → WPA ro P n c (loopQ C B m x Q) ρ (B x)) : WPA ro P n (.loop c) Q ρ A := by
  intro mm a w ha hA
  refine wpIn_loop_rounds (m x + 1) ?_
  have key : ∀ k x a w, m x < k → (∃ ρ, Agree n ρ a ∧ C x ρ) → B x w → Code.roundsIn (FR ro) mm P c (QA n Q) k a w := by
    intro k
    induction k with
    | zero => intro x a w hk; omega
    | succ k ih =>
      intro x a w hk ⟨ρ, ha, hC⟩ hB
      rw [roundsIn_succ]
      refine wpIn_mono (round x ρ hC mm a w ha hB) ?_
      intro e a' w' hq
      cases e with
      | normal =>
        obtain ⟨ρ', ha', x', hlt, hC', hB'⟩ := hq
        exact ih x' a' w' (by omega) ⟨ρ', ha', hC'⟩ hB'
      | _ => exact hq
  exact key _ x a w (Nat.lt_succ_self _) ⟨ρ, ha, hC⟩ (hB w hA)

/-! ### The operations of a region -/
def OpU (P : Program) (R : Value → World → Prop) : Result Next → Prop
  | .ok (.value v) w' => R v w'
  | .ok .skip w' => R undef w'
  | .ok (.enter f args) w' => Calls P f args w' fun e w'' => ∃ v, e = .returned v ∧ R v w''
  | .ok (.round l f tmps assign body) w' => RoundIn Fence.wide 0 P l f tmps assign body w' fun e w'' => ∃ v, e = .returned v ∧ R v w''
  | _ => False

theorem semAt_of_OpU {o : Oper} {ev : Operand → Value} {w : World} {R : Value → World → Prop} (h : OpU P R ((execOp ev o).run P w)) : o.semAt ro ev = execOp ev o := by
  refine Oper.semAt_eq ro ev o fun c hc => ?_
  obtain ⟨d, op, ty, pos, af, g⟩ := o
  simp only at hc
  subst hc
  simp only [execOp, Sem.run_bind] at h
  cases hr : (resolve ev c ty).run P w with
  | ok x w' => rw [hr] at h; simp [Result.andThen, OpU] at h
  | halt x w' => rw [hr] at h; simp [Result.andThen, OpU] at h
theorem roundIn_more {m m' l : Nat} {f : FuncId} {tmps : Array Value} {assign body : Code} {w : World} {R : Ending → World → Prop} (h : RoundIn Fence.wide m P l f tmps assign body w R) : RoundIn (FR ro) m' P l f tmps assign body w R :=
  ⟨trivial, fun c cs _ => h.2 c cs (room_wide _)⟩
theorem upon_of_OpU {m : Nat} {o : Oper} {a : Act} {next : Act → World → Prop} {Q' : Exit → Act → World → Prop} {R : Value → World → Prop} {r : Result Next}
    (h : OpU P R r) (hn : ∀ v w', R v w' → next (a.put o.dst v) w') : o.uponIn (FR ro) m P a next Q' r := by
  cases r with
  | ok x w' =>
    cases x <;> simp only [OpU] at h <;> simp only [Oper.uponIn]
    case value v => exact hn _ _ h
    case skip => exact hn _ _ h
    case enter f args =>
      refine ⟨fun h => (by cases h), ?_⟩
      have hc : CallsIn (FR ro) (m - 1) P f args w' _ := callsIn_wide.2 h
      refine hc.mono ?_
      rintro e w'' ⟨v, rfl, hr⟩
      exact hn _ _ hr
    case round l f tmps assign body =>
      refine ⟨fun h => (by cases h), (roundIn_more h).mono ?_⟩
      rintro e w'' ⟨v, rfl, hr⟩
      exact hn _ _ hr
  | halt x w' => cases x <;> simp only [OpU] at h

/-- What an operation yields, and leaves. -/
def OpT (P : Program) (ρ : Env) (op : Op) (ty : TypeId) (A : World → Prop) (R : Value → World → Prop) : Prop :=
  ∀ d pos af g w, A w → OpU P R ((execOp (evalE ρ) ⟨d, op, ty, pos, af, g⟩).run P w)
/-- It yields v, and does nothing else. -/
def OpP (P : Program) (ρ : Env) (op : Op) (ty : TypeId) (A : World → Prop) (v : Value) : Prop :=
  ∀ d pos af g w, A w → (execOp (evalE ρ) ⟨d, op, ty, pos, af, g⟩).run P w = .ok (.value v) w

theorem OpP.toT {op : Op} {ty : TypeId} {v : Value} (h : OpP P ρ op ty A v) : OpT P ρ op ty A (fun u w => u = v ∧ A w) := by
  intro d pos af g w hA
  rw [h d pos af g w hA]
  exact ⟨rfl, hA⟩

section
variable {ops : Array Oper} {rest : List Oper} {op : Op} {ty : TypeId} {pos : String} {af : Array Edge} {g : Option (Nat × Bool)} {d : Tmp}

theorem WLA.nil (h : QQ Q .normal ρ A) : WLA ro P n ops Q [] ρ A := fun m a w ha hA => wpListIn_nil ⟨ρ, ha, h w hA⟩

theorem WLA.gen {dst : Option Tmp} {R : Value → World → Prop} (hw : Region.wanted ⟨dst, op, ty, pos, af, g⟩ (yieldedE n ops ρ) = true) (h : OpT P ρ op ty A R)
    (k : ∀ v, WLA ro P n ops Q rest (updO n ρ dst v) (R v)) : WLA ro P n ops Q (⟨dst, op, ty, pos, af, g⟩ :: rest) ρ A := by
  intro m a w ha hA
  refine wpListIn_step fun K hK => ?_
  rw [ha.yielded, if_pos hw]
  unfold Oper.wpIn
  rw [ha.eval]
  have hU := h dst pos af g w hA
  refine ⟨fun _ _ => trivial, ?_⟩
  show Oper.uponIn (FR ro) m P _ a K _ (Sem.run P (Oper.semAt ro (evalE ρ) _) w)
  rw [semAt_of_OpU hU]
  exact upon_of_OpU hU fun v w' hR => hK _ _ (k v _ _ _ (ha.put _ _) hR)

theorem WLA.q {v : Value} (hw : Region.wanted ⟨some d, op, ty, pos, af, g⟩ (yieldedE n ops ρ) = true) (h : OpP P ρ op ty A v)
    (k : WLA ro P n ops Q rest (upd n ρ d v) A) : WLA ro P n ops Q (⟨some d, op, ty, pos, af, g⟩ :: rest) ρ A :=
  WLA.gen hw h.toT fun u => by intro m a w ha ⟨e, hA⟩; subst e; exact k m a w ha hA
theorem WLA.e {τ : Type} {val : τ → Value} {B : τ → World → Prop} (hw : Region.wanted ⟨some d, op, ty, pos, af, g⟩ (yieldedE n ops ρ) = true)
    (h : OpT P ρ op ty A fun v w => ∃ x, v = val x ∧ B x w) (k : ∀ x, WLA ro P n ops Q rest (upd n ρ d (val x)) (B x)) : WLA ro P n ops Q (⟨some d, op, ty, pos, af, g⟩ :: rest) ρ A :=
  WLA.gen hw h fun u => by rintro m a w ha ⟨x, rfl, hB⟩; exact k x m a w ha hB
theorem WLA.e0 {τ : Type} {val : τ → Value} {B : τ → World → Prop} (hw : Region.wanted ⟨none, op, ty, pos, af, g⟩ (yieldedE n ops ρ) = true)
    (h : OpT P ρ op ty A fun v w => ∃ x, v = val x ∧ B x w) (k : ∀ x, WLA ro P n ops Q rest ρ (B x)) : WLA ro P n ops Q (⟨none, op, ty, pos, af, g⟩ :: rest) ρ A :=
  WLA.gen hw h fun u => by rintro m a w ha ⟨x, rfl, hB⟩; exact k x m a w ha hB
/-- A store. -/
theorem WLA.s {B : World → Prop} (hw : Region.wanted ⟨none, op, ty, pos, af, g⟩ (yieldedE n ops ρ) = true)
    (h : OpT P ρ op ty A fun _ w => B w) (k : WLA ro P n ops Q rest ρ B) : WLA ro P n ops Q (⟨none, op, ty, pos, af, g⟩ :: rest) ρ A :=
  WLA.gen hw h fun u => by rintro m a w ha hB; exact k m a w ha hB
theorem WLA.off (hw : Region.wanted ⟨some d, op, ty, pos, af, g⟩ (yieldedE n ops ρ) = false) (k : WLA ro P n ops Q rest (upd n ρ d undef) A) :
    WLA ro P n ops Q (⟨some d, op, ty, pos, af, g⟩ :: rest) ρ A := by
  intro m a w ha hA
  refine wpListIn_step fun K hK => ?_
  rw [ha.yielded, hw]
  exact ⟨fun _ _ => trivial, hK _ _ (k _ _ _ (ha.put (some d) undef) hA)⟩
theorem WLA.off0 (hw : Region.wanted ⟨none, op, ty, pos, af, g⟩ (yieldedE n ops ρ) = false) (k : WLA ro P n ops Q rest ρ A) :
    WLA ro P n ops Q (⟨none, op, ty, pos, af, g⟩ :: rest) ρ A := by
  intro m a w ha hA
  refine wpListIn_step fun K hK => ?_
  rw [ha.yielded, hw]
  exact ⟨fun _ _ => trivial, hK _ _ (k _ _ _ (ha.put none undef) hA)⟩
theorem WLA.ofEx {τ : Type} {B : τ → World → Prop} {l : List Oper} (k : ∀ x, WLA ro P n ops Q l ρ (B x)) : WLA ro P n ops Q l ρ (fun w => ∃ x, B x w) :=
  fun m a w ha ⟨x, hB⟩ => k x m a w ha hB
theorem WLA.mono {B : World → Prop} {l : List Oper} (h : ∀ w, A w → B w) (k : WLA ro P n ops Q l ρ B) : WLA ro P n ops Q l ρ A := fun m a w ha hA => k m a w ha (h w hA)
theorem WPA.mono {B : World → Prop} {c : Code} (h : ∀ w, A w → B w) (k : WPA ro P n c Q ρ B) : WPA ro P n c Q ρ A := fun m a w ha hA => k m a w ha (h w hA)
end

theorem wanted_on {dst : Option Tmp} {op : Op} {ty : TypeId} {pos : String} {af : Array Edge} {ops : Array Oper} {j : Nat} {b c : Bool}
    (hy : yieldedE n ops ρ j = some c) (hc : c = b) : Region.wanted ⟨dst, op, ty, pos, af, some (j, b)⟩ (yieldedE n ops ρ) = true := by
  simp [Region.wanted, hy, hc]
theorem wanted_not {dst : Option Tmp} {op : Op} {ty : TypeId} {pos : String} {af : Array Edge} {ops : Array Oper} {j : Nat} {b c : Bool}
    (hy : yieldedE n ops ρ j = some c) (hc : c = !b) : Region.wanted ⟨dst, op, ty, pos, af, some (j, b)⟩ (yieldedE n ops ρ) = false := by
  simp [Region.wanted, hy, hc]
theorem wanted_undef {dst : Option Tmp} {op : Op} {ty : TypeId} {pos : String} {af : Array Edge} {ops : Array Oper} {j : Nat} {b : Bool}
    (hy : yieldedE n ops ρ j = none) : Region.wanted ⟨dst, op, ty, pos, af, some (j, b)⟩ (yieldedE n ops ρ) = false := by
  simp [Region.wanted, hy]
/-- A guard that is not decided yet: two ways. -/
theorem WLA.split {ops : Array Oper} {rest : List Oper} {dst : Option Tmp} {op : Op} {ty : TypeId} {pos : String} {af : Array Edge} {j : Nat} {b : Bool} {p : Prop} [Decidable p]
    (_hy : yieldedE n ops ρ j = some (decide p)) (kt : p → WLA ro P n ops Q (⟨dst, op, ty, pos, af, some (j, b)⟩ :: rest) ρ A) (kf : ¬ p → WLA ro P n ops Q (⟨dst, op, ty, pos, af, some (j, b)⟩ :: rest) ρ A) :
    WLA ro P n ops Q (⟨dst, op, ty, pos, af, some (j, b)⟩ :: rest) ρ A := by
  by_cases h : p
  · exact kt h
  · exact kf h

/-! ### A function -/
def resL (ρ : Env) : List ResultVar → Option Value
  | [] => some (.tuple #[])
  | [.tmp t] => some (ρ t)
  | [.tmp t, .tmp u] => some (.tuple #[ρ t, ρ u])
  | [.tmp t, .tmp u, .tmp v] => some (.tuple #[ρ t, ρ u, ρ v])
  | _ => none
def resE (rs : Array ResultVar) (ρ : Env) : Option Value := resL ρ rs.toList
/-- What is left where a function ends. -/
def closes : List Nat → World → (World → Prop) → Prop
  | [], w, K => K w
  | D :: l, w, K => w.heap[D]? = some (.deferred (some [])) ∧ closes l (w.putObj D (.deferred none)) K
def fnQ (P : Program) (fn : Func) (R : Value → World → Prop) : Hnd
  | .normal, ρ, w => closes ρ.ms w fun w => ∃ v, (∀ a : Array Value, (∀ i, a.getD i undef = ρ i) → (results fn a).run P w = .ok v w) ∧ R v w
  | .ret, ρ, w => closes ρ.ms w fun w => ∃ v, (∀ a : Array Value, (∀ i, a.getD i undef = ρ i) → (results fn a).run P w = .ok v w) ∧ R v w
  | _, _, _ => False

/-- A call, by what it hands back. -/
def CallsV (P : Program) (f : FuncId) (args : Array Value) (w : World) (R : Value → World → Prop) : Prop :=
  Calls P f args w fun e w' => ∃ v, e = .returned v ∧ R v w'
/-- The triple of a function: x: what the caller learns; val x: what is handed back. -/
def Tr (P : Program) (f : FuncId) (args : Array Value) (A : World → Prop) {τ : Type} (val : τ → Value) (B : τ → World → Prop) : Prop :=
  ∀ w, A w → Calls P f args w fun e w' => ∃ x, e = .returned (val x) ∧ B x w'

theorem Tr.intro {f : FuncId} {fn : Func} {c : Code} {args : List Value} {τ : Type} {val : τ → Value} {B : τ → World → Prop} {N : Nat}
    (hf : P.funcs[f]? = some fn) (hb : fn.body = some c) (hn : fn.ntmps = N) (hle : Nat.ble args.length N = true)
    (h : WPA none P N c (fnQ P fn fun v w => ∃ x, v = val x ∧ B x w) (envOf args) A) : Tr P f args.toArray A val B := by
  intro w hA
  subst hn
  refine callsIn_wide.1 (callsIn_of_wp_marks (n := 0) hf hb trivial (wpIn_mono (h 0 _ w ⟨?_, ?_, rfl⟩ hA) ?_))
  · have : args.length ≤ fn.ntmps := Nat.le_of_ble_eq_true hle
    simp; omega
  · intro i
    simp only [envOf, Array.getD_eq_getD_getElem?, List.getD_eq_getElem?_getD]
    rw [Array.getElem?_append]
    split
    · rename_i hi; simp
    · rename_i hi
      have : args[i]? = none := by simp at hi; simp [hi]
      rw [this]
      rw [Array.getElem?_replicate]
      split <;> rfl
  · have leave : ∀ (l : List Nat) (w' : World) (tmps : Array Value), closes l w' (fun w => ∃ v, (results fn tmps).run P w = .ok v w ∧ ∃ x, v = val x ∧ B x w) →
        LeavesInM Fence.wide 0 P fn tmps (fun e w' => ∃ x, e = Ending.returned (val x) ∧ B x w') (marks l) .returning w' := by
      intro l
      induction l with
      | nil =>
        rintro w' tmps ⟨v, hr, x, rfl, hB⟩
        exact ⟨_, hr, x, rfl, hB⟩
      | cons D l ih =>
        rintro w' tmps ⟨hD, hk⟩
        exact ⟨(fun h => by cases h), .inl ⟨D, _, rfl, run_takeDeferred hD, ih _ _ hk⟩⟩
    have mono : ∀ (l : List Nat) (w' : World) (K K' : World → Prop), (∀ u, K u → K' u) → closes l w' K → closes l w' K' := by
      intro l
      induction l with
      | nil => intro w' K K' h hk; exact h _ hk
      | cons D l ih => intro w' K K' h hk; exact ⟨hk.1, ih _ _ _ h hk.2⟩
    intro e a w' hq
    cases e with
    | normal => obtain ⟨ρ', ha, hq⟩ := hq; show LeavesInM _ _ _ _ _ _ a.defers _ _; rw [ha.df]; exact leave _ _ _ (mono _ _ _ _ (fun u ⟨v, hr, hx⟩ => ⟨v, hr _ ha.get, hx⟩) hq)
    | ret => obtain ⟨ρ', ha, hq⟩ := hq; show LeavesInM _ _ _ _ _ _ a.defers _ _; rw [ha.df]; exact leave _ _ _ (mono _ _ _ _ (fun u ⟨v, hr, hx⟩ => ⟨v, hr _ ha.get, hx⟩) hq)
    | panic c => exact hq.elim
    | outgrown => exact hq.elim
    | exit id => obtain ⟨ρ', ha, hq⟩ := hq; exact hq.elim
    | goto l => obtain ⟨ρ', ha, hq⟩ := hq; exact hq.elim

theorem results_of_resE {fn : Func} {rs : Array ResultVar} {v : Value} {w : World} (hrs : fn.results = rs) (h : resE rs ρ = some v) :
    ∀ a : Array Value, (∀ i, a.getD i undef = ρ i) → (results fn a).run P w = .ok v w := by
  intro a ha
  have hl : fn.results = ⟨rs.toList⟩ := by rw [hrs]
  unfold resE at h
  generalize rs.toList = l at h hl
  unfold resL at h
  split at h
  · cases h; exact results_none hl _ _ _
  · cases h; rw [results_tmp hl, ha]
  · cases h; rw [results_tmp2 hl, ha, ha]
  · cases h; rw [results_tmp3 hl, ha, ha, ha]
  · cases h

theorem QQ.fn_ret {fn : Func} {rs : Array ResultVar} {v : Value} {τ : Type} {val : τ → Value} {B : τ → World → Prop} (hrs : fn.results = rs) (hv : resE rs ρ = some v) (x : τ) (hx : v = val x) (hB : ∀ w, A w → B x w) (hmk : ρ.ms = [] := by rfl) :
    QQ (fnQ P fn fun v w => ∃ x, v = val x ∧ B x w) .ret ρ A := fun w hA => by
  show closes ρ.ms w _
  rw [hmk]
  exact ⟨v, results_of_resE hrs hv, x, hx, hB w hA⟩
theorem QQ.fn_normal {fn : Func} {rs : Array ResultVar} {v : Value} {τ : Type} {val : τ → Value} {B : τ → World → Prop} (hrs : fn.results = rs) (hv : resE rs ρ = some v) (x : τ) (hx : v = val x) (hB : ∀ w, A w → B x w) (hmk : ρ.ms = [] := by rfl) :
    QQ (fnQ P fn fun v w => ∃ x, v = val x ∧ B x w) .normal ρ A := fun w hA => by
  show closes ρ.ms w _
  rw [hmk]
  exact ⟨v, results_of_resE hrs hv, x, hx, hB w hA⟩

/-! ### A loop, its slots written out -/
def Has (ρ : Env) : List (Nat × Value) → Prop
  | [] => True
  | (i, v) :: l => ρ i = v ∧ Has ρ l
def envL : List (Nat × Value) → Env → Env
  | [], ρ => ρ
  | (i, v) :: l, ρ => ⟨fun j => bif Nat.beq j i then v else (envL l ρ).f j, (envL l ρ).ms⟩
theorem envL_has {ρ : Env} : ∀ {l : List (Nat × Value)}, Has ρ l → envL l ρ = ρ
  | [], _ => rfl
  | (i, v) :: l, h => by
    have hf : (fun j => bif Nat.beq j i then v else ρ.f j) = ρ.f := by
      funext j
      cases hb : Nat.beq j i with
      | false => rfl
      | true => have := Nat.eq_of_beq_eq_true hb; subst this; exact h.1.symm
    simp only [envL, envL_has h.2, hf]
/-- The marks written out. -/
def envM (l : List Nat) (ρ : Env) : Env := ⟨ρ.f, l⟩
/-- slots x: what stands in the slots at a round's head; C x: what else is known; m: what every round lowers. -/
theorem WPA.loopM {σ : Type} {c : Code} (mks : List Nat) (slots : σ → List (Nat × Value)) (C : σ → Prop) (B : σ → World → Prop) (m : σ → Nat) (x : σ) (hs : Has ρ (slots x)) (hC : C x) (hB : ∀ w, A w → B x w)
    (round : ∀ x ρ, C x → WPA ro P n c (loopQ (fun x ρ => Has ρ (slots x) ∧ C x ∧ ρ.ms = mks) B m x Q) (envM mks (envL (slots x) ρ)) (B x)) (hmk : ρ.ms = mks := by rfl) : WPA ro P n (.loop c) Q ρ A :=
  WPA.loop (fun x ρ => Has ρ (slots x) ∧ C x ∧ ρ.ms = mks) B m x ⟨hs, hC, hmk⟩ hB fun x ρ ⟨hs, hC, hmk⟩ => by
    have := round x ρ hC
    rw [envL_has hs] at this
    subst hmk
    exact this
theorem WPA.loopS {σ : Type} {c : Code} (slots : σ → List (Nat × Value)) (C : σ → Prop) (B : σ → World → Prop) (m : σ → Nat) (x : σ) (hs : Has ρ (slots x)) (hC : C x) (hB : ∀ w, A w → B x w)
    (round : ∀ x ρ, C x → WPA ro P n c (loopQ (fun x ρ => Has ρ (slots x) ∧ C x ∧ ρ.ms = []) B m x Q) (envM [] (envL (slots x) ρ)) (B x)) (hmk : ρ.ms = [] := by rfl) : WPA ro P n (.loop c) Q ρ A :=
  WPA.loopM [] slots C B m x hs hC hB round hmk
theorem QQ.loopS {σ : Type} {mks : List Nat} {slots : σ → List (Nat × Value)} {C : σ → Prop} {B : σ → World → Prop} {m : σ → Nat} {x : σ} (x' : σ) (hs : Has ρ (slots x')) (hC : C x') (hm : m x' < m x) (hB : ∀ w, A w → B x' w) (hmk : ρ.ms = mks := by rfl) :
    QQ (loopQ (fun x ρ => Has ρ (slots x) ∧ C x ∧ ρ.ms = mks) B m x Q) .normal ρ A := QQ.loop_normal x' hm ⟨hs, hC, hmk⟩ hB
end rules
end Go.Fw
