/- Calls; regions whose order is open, walked once along a plan. Conditions: none. -/
import Derived.Test.YtfhelnalegochaaFwMem
import Derived.OrdersHeld
import Derived.OrdersIn
namespace Go.Fw
open Go Go.RowKit
set_option linter.unusedVariables false
set_option linter.unusedSimpArgs false

/-! ### Calls -/
def callable (P : Program) (f : FuncId) : Bool :=
  match P.funcs[f]? with
  | some fn => fn.body.isSome && !(fn.name == "runtime.NumGoroutine")
  | none => false

section
variable {P : Program} {ρ : Env} {A : World → Prop} {ty : TypeId}

theorem run_callFunc {f : FuncId} (h : callable P f = true) (args : Array Value) (w : World) : (callFunc f args).run P w = .ok (.enter f args) w := by
  unfold callable at h
  cases e : P.funcs[f]? with
  | none => rw [e] at h; cases h
  | some fn =>
    rw [e] at h
    simp only [Bool.and_eq_true, Bool.not_eq_true'] at h
    obtain ⟨h1, h2⟩ := h
    have h3 : ¬ fn.body = none := by cases hb : fn.body <;> simp_all
    have h4 : ¬ fn.name = "runtime.NumGoroutine" := by simpa using h2
    simp [callFunc, e, h4, h3, go_sem]

theorem T_callS {f : FuncId} {args : Array Operand} {argTypes : Array TypeId} {τ : Type} {val : τ → Value} {B : τ → World → Prop} (hf : callable P f = true)
    (hc : Tr P f (args.map (evalE ρ)) A val B) : OpT P ρ (.call { callee := .value (.func f), args := args, argTypes := argTypes }) ty A fun v w => ∃ x, v = val x ∧ B x w := by
  intro d pos af g w hA
  have e : (execOp (evalE ρ) ⟨d, .call { callee := .value (.func f), args := args, argTypes := argTypes }, ty, pos, af, g⟩).run P w = .ok (.enter f (args.map (evalE ρ))) w := by
    simp [execOp, resolve, evalE, Deferred.ofValue, invoke, run_callFunc hf, go_sem]
  rw [e]
  refine (hc w hA).mono ?_
  rintro e w' ⟨x, rfl, hB⟩
  exact ⟨_, rfl, x, rfl, hB⟩
theorem T_callV {c : Operand} {f : FuncId} {caps : Array Value} {args : Array Operand} {argTypes : Array TypeId} {τ : Type} {val : τ → Value} {B : τ → World → Prop} (hf : callable P f = true)
    (hc : Tr P f (args.map (evalE ρ) ++ caps) A val B) (hv : evalE ρ c = .func (.func f) #[] caps) : OpT P ρ (.call { callee := .value c, args := args, argTypes := argTypes }) ty A fun v w => ∃ x, v = val x ∧ B x w := by
  intro d pos af g w hA
  have e : (execOp (evalE ρ) ⟨d, .call { callee := .value c, args := args, argTypes := argTypes }, ty, pos, af, g⟩).run P w = .ok (.enter f (args.map (evalE ρ) ++ caps)) w := by
    simp [execOp, resolve, hv, Deferred.ofValue, invoke, run_callFunc hf, go_sem]
  rw [e]
  refine (hc w hA).mono ?_
  rintro e w' ⟨x, rfl, hB⟩
  exact ⟨_, rfl, x, rfl, hB⟩
theorem T_call0 {f : FuncId} {argTypes : Array TypeId} {τ : Type} {val : τ → Value} {B : τ → World → Prop} (hf : callable P f = true) (hc : Tr P f #[] A val B) :
    OpT P ρ (.call { callee := .value (.func f), args := #[], argTypes := argTypes }) ty A fun v w => ∃ x, v = val x ∧ B x w := T_callS hf (by simpa using hc)
theorem T_call1 {f : FuncId} {x1 : Operand} {v1 : Value} {argTypes : Array TypeId} {τ : Type} {val : τ → Value} {B : τ → World → Prop} (hf : callable P f = true) (hc : Tr P f #[v1] A val B) (h1 : evalE ρ x1 = v1) :
    OpT P ρ (.call { callee := .value (.func f), args := #[x1], argTypes := argTypes }) ty A fun v w => ∃ x, v = val x ∧ B x w := T_callS hf (by subst h1; simpa using hc)
theorem T_call2 {f : FuncId} {x1 x2 : Operand} {v1 v2 : Value} {argTypes : Array TypeId} {τ : Type} {val : τ → Value} {B : τ → World → Prop} (hf : callable P f = true) (hc : Tr P f #[v1, v2] A val B) (h1 : evalE ρ x1 = v1) (h2 : evalE ρ x2 = v2) :
    OpT P ρ (.call { callee := .value (.func f), args := #[x1, x2], argTypes := argTypes }) ty A fun v w => ∃ x, v = val x ∧ B x w := T_callS hf (by subst h1; subst h2; simpa using hc)
theorem T_call3 {f : FuncId} {x1 x2 x3 : Operand} {v1 v2 v3 : Value} {argTypes : Array TypeId} {τ : Type} {val : τ → Value} {B : τ → World → Prop} (hf : callable P f = true) (hc : Tr P f #[v1, v2, v3] A val B) (h1 : evalE ρ x1 = v1) (h2 : evalE ρ x2 = v2) (h3 : evalE ρ x3 = v3) :
    OpT P ρ (.call { callee := .value (.func f), args := #[x1, x2, x3], argTypes := argTypes }) ty A fun v w => ∃ x, v = val x ∧ B x w := T_callS hf (by subst h1; subst h2; subst h3; simpa using hc)
theorem T_callV1 {c : Operand} {f : FuncId} {caps : List Value} {x1 : Operand} {v1 : Value} {argTypes : Array TypeId} {τ : Type} {val : τ → Value} {B : τ → World → Prop} (hf : callable P f = true) (hc : Tr P f (List.toArray (v1 :: caps)) A val B)
    (hv : evalE ρ c = .func (.func f) #[] caps.toArray) (h1 : evalE ρ x1 = v1) : OpT P ρ (.call { callee := .value c, args := #[x1], argTypes := argTypes }) ty A fun v w => ∃ x, v = val x ∧ B x w :=
  T_callV hf (by subst h1; simpa using hc) hv

/-- A call that leaves the world as it is, but for draws: it may be taken at any time. -/
def TrP (P : Program) (f : FuncId) (args : Array Value) (A : World → Prop) (v : Value) : Prop := ∀ w, A w → Calls P f args w fun e w' => e = .returned v ∧ ∃ k, w.drawn ≤ k ∧ w' = { w with drawn := k }
theorem TrP.tr [hd : DrC A] {f : FuncId} {args : Array Value} {v : Value} (h : TrP P f args A v) : Tr P f args A (fun _ : Unit => v) (fun _ => A) :=
  fun w hA => (h w hA).mono fun e w' ⟨he, k, hk, hw⟩ => ⟨(), he, hw ▸ hd.out w k hk hA⟩
theorem TrP.sub {f : FuncId} {args : Array Value} {v : Value} {w0 : World} {H : HeapP} {L : List (Nat × Obj)} [hi : InSt A w0 H L] (h : TrP P f args (St w0 H L) v) : TrP P f args A v :=
  fun w hA => h w (hi.out w hA)
theorem TrP.of {f : FuncId} {args : Array Value} {v : Value} {w0 : World} {H : HeapP} {L : List (Nat × Obj)} (h : ∀ w, Tr P f args (StD w0 H L w) (fun _ : Unit => v) (fun _ => StD w0 H L w)) : TrP P f args (St w0 H L) v := by
  intro w hA
  refine (h w w ⟨hA, w.drawn, Nat.le_refl _, rfl⟩).mono ?_
  rintro e w' ⟨_, rfl, _, k, hk, rfl⟩
  exact ⟨rfl, k, hk, rfl⟩
end

/-! ### A region whose order is open -/
section
variable {ro : Option Nat} {m : Nat} {P : Program} {ops : Array Oper} {md : Region.Mode}

/-- One value, in every world of the class, the world left as it is (a call that only computes is let in). -/
def YieldsX (P : Program) (ops : Array Oper) (S : World → Prop) (o : Oper) (v : Value) (a : Act) : Prop :=
  (Region.wanted o (yielded ops a.tmps) = true ∧ ∀ w, S w → ((execOp a.eval o).run P w = .ok (.value v) w ∨ ∃ f args, (execOp a.eval o).run P w = .ok (.enter f args) w ∧ Calls P f args w fun e w' => e = .returned v ∧ ∃ k, w.drawn ≤ k ∧ w' = { w with drawn := k })) ∨
  (Region.wanted o (yielded ops a.tmps) = false ∧ v = undef)

theorem YieldsX.mono {S S' : World → Prop} {o : Oper} {v : Value} {a : Act} (h : YieldsX P ops S o v a) (hs : ∀ u, S' u → S u) : YieldsX P ops S' o v a :=
  h.imp (fun ⟨hw, hv⟩ => ⟨hw, fun w hw' => hv w (hs w hw')⟩) id

theorem YieldsX.wpOp {S : World → Prop} {Q' : Exit → Act → World → Prop} {i : Nat} {o : Oper} {v : Value} {a : Act} (hi : ops[i]? = some o) (hy : YieldsX P ops S o v a)
    {K : Act → World → Prop} {w : World} (hS : S w) (h : K (a.put o.dst v) w) (hk : ∀ k, w.drawn ≤ k → K (a.put o.dst v) { w with drawn := k }) : wpOpIn (FR ro) m P ops Q' i K a w := by
  unfold Go.wpOpIn
  simp only [hi]
  rcases hy with ⟨hw, hv⟩ | ⟨hw, rfl⟩
  · rcases hv w hS with e | ⟨f, args, e, hc⟩
    · have hs : o.semAt ro a.eval = execOp a.eval o := semAt_of_OpU (R := fun _ _ => True) (P := P) (w := w) (by rw [e]; trivial)
      rw [if_pos hw]
      refine ⟨fun _ _ => trivial, ?_⟩
      show Oper.uponIn (FR ro) m P _ a K _ (Sem.run P (Oper.semAt ro _ _) w)
      rw [hs, e]; exact h
    · have hs : o.semAt ro a.eval = execOp a.eval o := semAt_of_OpU (R := fun _ _ => True) (P := P) (w := w) (by rw [e]; exact hc.mono fun e' w' he => ⟨v, he.1, trivial⟩)
      rw [if_pos hw]
      refine ⟨fun _ _ => trivial, ?_⟩
      show Oper.uponIn (FR ro) m P _ a K _ (Sem.run P (Oper.semAt ro _ _) w)
      rw [hs, e]
      refine ⟨fun h => (by cases h), ?_⟩
      have hc' : CallsIn (FR ro) (m - 1) P f args w _ := callsIn_wide.2 hc
      refine hc'.mono ?_
      rintro e w' ⟨rfl, k, hk', rfl⟩
      exact hk k hk'
  · simp only [hw, Bool.false_eq_true, if_false]; exact ⟨fun _ _ => trivial, h⟩
theorem YieldsX.of_same {S : World → Prop} {o : Oper} {v : Value} {a a' : Act} (hy : YieldsX P ops S o v a) (he : execOp a'.eval o = execOp a.eval o)
    (hw : Region.wanted o (yielded ops a'.tmps) = Region.wanted o (yielded ops a.tmps)) : YieldsX P ops S o v a' := by
  unfold YieldsX at *
  rw [he, hw]
  exact hy

theorem wpOp_putX {S : World → Prop} {Q' : Exit → Act → World → Prop} {j : Nat} {oi oj : Oper} {v : Value} (hj : ops[j]? = some oj) (hap : oi.apart ops oj = true)
    (hsi : ∀ cs b, oi.op ≠ .select cs b) (hsj : ∀ cs b, oj.op ≠ .select cs b) (hdj : ∀ c, oj.op ≠ .defer c) (hQ : ∀ c a w, Q' (.panic c) (a.put oi.dst v) w → Q' (.panic c) a w) (hO : ¬ LetsOut Q')
    {K : Act → World → Prop} {a : Act} {w : World} (hy : YieldsX P ops S oi v a) (h : wpOpIn (FR ro) m P ops Q' j K (a.put oi.dst v) w) :
    wpOpIn (FR ro) m P ops Q' j (fun a' w' => YieldsX P ops S oi v a' ∧ K (a'.put oi.dst v) w') a w := by
  obtain ⟨h1, h2, h3⟩ := Oper.apart_spec hap
  have keep : ∀ (a : Act), YieldsX P ops S oi v a → ∀ u, YieldsX P ops S oi v (a.put oj.dst u) := fun a hy u =>
    hy.of_same (execOp_put oi hsi a oj.dst u h3) (wanted_put oi a oj.dst u h3)
  unfold wpOpIn at *
  simp only [hj] at *
  rw [wanted_put oj a oi.dst v h1] at h
  split
  · rename_i hw
    simp only [hw, if_true] at h
    have h := h.2
    refine ⟨fun _ _ => trivial, ?_⟩
    rw [Oper.semAt_eq _ _ _ hdj] at h ⊢
    rw [execOp_put oj hsj a oi.dst v h1] at h
    generalize (execOp a.eval oj).run P w = r at *
    cases r with
    | ok x w' =>
      cases x <;> simp only [Oper.uponIn] at h ⊢ <;> try exact h
      case value u => exact ⟨keep a hy _, by rw [← Act.put_comm a v u h2]; exact h⟩
      case skip => exact ⟨keep a hy _, by rw [← Act.put_comm a v undef h2]; exact h⟩
      case defer d =>
        refine ⟨?_, ?_⟩
        · exact (keep { a with defers := d :: a.defers } hy undef)
        · rw [← Act.put_comm _ v undef h2, ← Act.put_defers]; exact h
      case enter f args =>
        refine ⟨h.1, h.2.mono fun e w'' he => ?_⟩
        cases e with
        | returned u => exact ⟨keep a hy _, by rw [← Act.put_comm a v u h2]; exact he⟩
        | panicked c => exact hQ _ _ _ he
        | outgrown => exact he
      case row row args => exact ⟨h.1, h.2.mono fun u w'' he => ⟨keep a hy _, by rw [← Act.put_comm a v u h2]; exact he⟩⟩
      case round l f tmps as bd =>
        refine ⟨h.1, h.2.mono fun e w'' he => ?_⟩
        cases e with
        | returned u => exact ⟨keep a hy _, by rw [← Act.put_comm a v u h2]; exact he⟩
        | panicked c => exact hQ _ _ _ he
        | outgrown => exact he
    | halt x w' => cases x <;> simp only [Oper.uponIn] at h ⊢ <;> first | exact hQ _ _ _ h | exact h
  · rename_i hw
    simp only [hw] at h
    exact ⟨fun _ _ => trivial, keep a hy _, by rw [← Act.put_comm a v undef h2]; exact h.2⟩

def noDefer (ops : Array Oper) : Bool := ops.all fun o => match o.op with | .defer _ => false | _ => true
theorem noDefer_spec (h : noDefer ops = true) (j : Nat) (o : Oper) (c : Call) (hj : ops[j]? = some o) : o.op ≠ .defer c := by
  intro e
  have hm : o ∈ ops := Array.mem_of_getElem? hj
  have := Array.all_eq_true_iff_forall_mem.1 h o hm
  rw [e] at this
  cases this

def drawTail (md : Region.Mode) (ops : Array Oper) (n : Nat) : Bool := decide (n = ops.size) || (decide (n < ops.size) && Region.sinkB md ops n && Region.chainB md ops n)

theorem head_only {n : Nat} {listed : Array Bool} (ht : drawTail md ops n = true) (inv : HeadInv md ops n listed) {i j : Nat} (hin : i < n) (hun : listed.getD i true = false) (hj : j ∈ Region.ready md ops listed) : j < n := by
  rcases Nat.lt_or_ge j n with h | h
  · exact h
  · simp only [drawTail, Bool.or_eq_true, Bool.and_eq_true, decide_eq_true_eq] at ht
    rcases ht with ht | ⟨⟨h1, h2⟩, h3⟩
    · obtain ⟨_, oj, hoj, _⟩ := mem_ready.1 hj
      have := (Array.getElem?_eq_some_iff.1 hoj).1
      omega
    · exact absurd hj (tail_waits h2 h3 h1 inv _ i rfl hin hun j h)

/-- A class of worlds that a draw does not leave. -/
def Dr (S : World → Prop) : Prop := ∀ w k, w.drawn ≤ k → S w → S { w with drawn := k }

def wpX (ro : Option Nat) (m : Nat) (P : Program) (md : Region.Mode) (ops : Array Oper) (Q' : Exit → Act → World → Prop) (n : Nat) (L : Array Bool → Act → World → Prop) (W : Nat → Bool) (T : World → Prop) : Nat → (World → Prop) → Array Bool → Act → Prop
  | 0, S, listed, a => ∀ w, S w → L listed a w
  | f + 1, S, listed, a =>
    Region.ready md ops listed ≠ [] ∧ ∀ i ∈ Region.ready md ops listed, i < n ∧ ∀ w, S w →
      wpOpIn (FR ro) m P ops Q' i (fun a' w' => ∃ S' : World → Prop, (W i = false → ∀ u, S' u → S u) ∧ (∀ u, S' u → T u) ∧ Dr S' ∧ S' w' ∧ wpX ro m P md ops Q' n L W T f S' (listed.setIfInBounds i true) a') a w

theorem wpAny_of_X {Q' : Exit → Act → World → Prop} {n g : Nat} {W : Nat → Bool} {T : World → Prop} {L : Array Bool → Act → World → Prop} (hL : ∀ listed a w, L listed a w → wpAnyIn (FR ro) m P md ops Q' g listed a w) :
    ∀ (f : Nat) (S : World → Prop) (listed : Array Bool) (a : Act) (w : World), S w → wpX ro m P md ops Q' n L W T f S listed a → wpAnyIn (FR ro) m P md ops Q' (f + g) listed a w
  | 0, _, listed, a, w, hS, h => by rw [Nat.zero_add]; exact hL _ _ _ (h w hS)
  | f + 1, S, listed, a, w, hS, h => by
    rw [show f + 1 + g = (f + g) + 1 by omega]
    exact ⟨fun h0 => absurd h0 h.1, fun i hi => wpOpIn_mono (fun a' w' ⟨S', _, _, _, hS', h'⟩ => wpAny_of_X hL f S' _ a' w' hS' h') ((h.2 i hi).2 w hS)⟩

/-- i comes ahead of j, by the edges. -/
def ancB (md : Region.Mode) (ops : Array Oper) : Nat → Nat → Nat → Bool
  | 0, _, _ => false
  | f + 1, i, j => match ops[j]? with
    | some o => o.after.any fun e => Region.binds md e && (Nat.beq e.on i || ancB md ops f i e.on)
    | none => false
theorem anc_listed {n : Nat} {listed : Array Bool} (inv : HeadInv md ops n listed) {i : Nat} : ∀ (f j : Nat), ancB md ops f i j = true → (∀ oj, ops[j]? = some oj → ∀ e ∈ oj.after, Region.binds md e = true → listed.getD e.on false = true) → listed.getD i false = true := by
  intro f
  induction f with
  | zero => intro j h; cases h
  | succ f ih =>
    intro j h hd
    unfold ancB at h
    cases e : ops[j]? with
    | none => rw [e] at h; cases h
    | some o =>
      rw [e] at h
      simp only [Array.any_eq_true', Bool.and_eq_true, Bool.or_eq_true] at h
      obtain ⟨x, hx, hb, h1⟩ := h
      have hl := hd o e x hx hb
      rcases h1 with h1 | h1
      · rwa [← Nat.eq_of_beq_eq_true h1]
      · exact ih x.on h1 fun oj hoj => inv.closed x.on oj hoj hl
/-- The class in which a value is the same: in the worlds of T, or in those of S. -/
def Zc (b : Bool) (T S : World → Prop) : World → Prop := fun u => (b = true ∧ T u) ∨ S u
theorem getD_set_mono {listed : Array Bool} {j k : Nat} (h : listed.getD k true = true) : (listed.setIfInBounds j true).getD k true = true := by
  by_cases hjk : j = k
  · subst hjk
    by_cases hj : j < listed.size
    · simp [Array.getD, hj]
    · simp [Array.getD, hj]
  · rw [getD_set_ne true hjk]; exact h
theorem wpX_first {Q' : Exit → Act → World → Prop} {n i : Nat} {oi : Oper} {v : Value} {L : Array Bool → Act → World → Prop} {W : Nat → Bool} {T : World → Prop} {b : Bool} (hi : ops[i]? = some oi) (hsel : ∀ (j : Nat) (o : Oper) cs b, ops[j]? = some o → o.op ≠ .select cs b) (hdef : ∀ (j : Nat) (o : Oper) c, ops[j]? = some o → o.op ≠ .defer c)
    (hQ : ∀ c a w, Q' (.panic c) (a.put oi.dst v) w → Q' (.panic c) a w) (hO : ¬ LetsOut Q') (hWi : W i = false)
    (ht : drawTail md ops n = true) (hin : i < n) (hdone : ∀ listed a w, L listed a w → ∀ j ∈ Region.ready md ops listed, n ≤ j) :
    ∀ (f : Nat) (S : World → Prop) (listed : Array Bool) (a : Act), HeadInv md ops n listed → (∃ w, S w) → Dr S → (∀ u, S u → T u) →
      (∀ j oj, ops[j]? = some oj → j ≠ i → listed.getD j true = false → (∀ e ∈ oj.after, Region.binds md e = true → e.on ≠ i) → oi.apart ops oj = true) →
      i ∈ Region.ready md ops listed → (b = false → ∀ j, W j = true → ancB md ops ops.size i j = true ∨ listed.getD j true = true) → YieldsX P ops (Zc b T S) oi v a →
      wpX ro m P md ops Q' n L W T f S (listed.setIfInBounds i true) (a.put oi.dst v) → wpX ro m P md ops Q' n L W T (f + 1) S listed a := by
  intro f
  induction f with
  | zero =>
    intro S listed a inv hne hd hT _ hr _ hy H
    have hun := (mem_ready.1 hr).1
    refine ⟨fun h => (by rw [h] at hr; cases hr), fun j hj => ?_⟩
    have hjn := head_only ht inv hin hun hj
    refine ⟨hjn, fun w hS => ?_⟩
    by_cases hji : j = i
    · subst hji; exact hy.wpOp hi (.inr hS) ⟨S, fun _ _ h => h, hT, hd, hS, H⟩ fun k hk => ⟨S, fun _ _ h => h, hT, hd, hd w k hk hS, H⟩
    · obtain ⟨w1, hw1⟩ := hne
      have := hdone _ _ _ (H w1 hw1) j (ready_mono hj hji)
      omega
  | succ f ih =>
    intro S listed a inv hne hd hT hfree hr hanc hy H
    have hun := (mem_ready.1 hr).1
    refine ⟨fun h => (by rw [h] at hr; cases hr), fun j hj => ?_⟩
    have hjn := head_only ht inv hin hun hj
    refine ⟨hjn, fun w hS => ?_⟩
    by_cases hji : j = i
    · subst hji; exact hy.wpOp hi (.inr hS) ⟨S, fun _ _ h => h, hT, hd, hS, H⟩ fun k hk => ⟨S, fun _ _ h => h, hT, hd, hd w k hk hS, H⟩
    · have h1 := (H.2 j (ready_mono hj hji)).2 w hS
      obtain ⟨hjun, oj, hoj, hall⟩ := mem_ready.1 hj
      have hnot : ∀ e ∈ oj.after, Region.binds md e = true → e.on ≠ i := fun e he hb heq => by
        have h1 := hall e he hb
        rw [heq, getD_both hun] at h1
        cases h1
      have hWj : b = false → W j = false := fun hb => by
        cases hw : W j with
        | false => rfl
        | true =>
          rcases hanc hb j hw with h0 | h0
          · have h2 := anc_listed inv ops.size j h0 fun oj' hoj' e he hbd => by
              rw [hoj] at hoj'; cases hoj'; exact hall e he hbd
            rw [getD_both hun] at h2
            cases h2
          · rw [hjun] at h0; cases h0
      have h2 := wpOp_putX hoj (hfree j oj hoj hji hjun hnot) (fun cs b => hsel i oi cs b hi) (fun cs b => hsel j oj cs b hoj) (fun c => hdef j oj c hoj) hQ hO hy h1
      have hfree' : ∀ k ok, ops[k]? = some ok → k ≠ i → (listed.setIfInBounds j true).getD k true = false →
          (∀ e ∈ ok.after, Region.binds md e = true → e.on ≠ i) → oi.apart ops ok = true := fun k ok hk hki hun hno => by
        refine hfree k ok hk hki ?_ hno
        by_cases hjk : j = k
        · subst hjk; exact hjun
        · rw [getD_set_ne true hjk] at hun; exact hun
      refine wpOpIn_mono (fun a' w' h3 => ?_) h2
      obtain ⟨hy', S', hs, hT', hd', hS', hx⟩ := h3
      have hz : ∀ u, Zc b T S' u → Zc b T S u := fun u hu => by
        cases b with
        | true => exact hu.elim (fun h => .inl h) (fun h => .inl ⟨rfl, hT' u h⟩)
        | false => exact hu.elim (fun h => .inl h) (fun h => .inr (hs (hWj rfl) u h))
      refine ⟨S', hs, hT', hd', hS', ih S' (listed.setIfInBounds j true) a' (inv.set hj hjn) ⟨w', hS'⟩ hd' hT' hfree' (ready_mono hr (Ne.symm hji)) (fun hb k hk => (hanc hb k hk).imp id fun h => getD_set_mono h) (hy'.mono hz) ?_⟩
      rw [Array.setIfInBounds_comm _ _ hji]
      exact hx

theorem wpAnyIn_of_seq {Q' : Exit → Act → World → Prop} : ∀ (l : List Oper) (k : Nat) (listed : Array Bool) (a : Act) (w : World), (∀ j, l[j]? = ops[k + j]?) →
    Region.seqB md ops l.length k listed = true → wpListIn (FR ro) m P ops Q' l a w → wpAnyIn (FR ro) m P md ops Q' l.length listed a w
  | [], _, _, _, _, _, hB, h => ⟨by simpa [Region.seqB] using hB, h⟩
  | o :: l, k, listed, a, w, hl, hB, h => by
    have h0 : ops[k]? = some o := by simpa using (hl 0).symm
    simp only [List.length_cons, Region.seqB, Bool.and_eq_true, decide_eq_true_eq] at hB
    refine ⟨fun h1 => (by rw [hB.1] at h1; cases h1), fun i hi => ?_⟩
    rw [hB.1] at hi
    have hik : i = k := by simpa using hi
    subst hik
    have hw : wpOpIn (FR ro) m P ops Q' i (wpListIn (FR ro) m P ops Q' l) a w := by unfold wpOpIn; simp only [h0]; exact h
    exact wpOpIn_mono (fun a' w' h' => wpAnyIn_of_seq l (i + 1) _ a' w' (fun j => by have := hl (j + 1); simpa [Nat.add_assoc, Nat.add_comm 1 j] using this) hB.2 h') hw

/-- In which order the operations are walked: q: taken as soon as it may come; p: likewise, its value is the same in all worlds; w: the only one that may come, it writes; e: the only one that may come; b: two that may come. -/
inductive Plan where
  | fin
  | q (i : Nat) (r : Plan)
  | p (i : Nat) (r : Plan)
  | e (i : Nat) (r : Plan)
  | w (i : Nat) (r : Plan)
  | b (wi : Bool) (i : Nat) (ri : Plan) (wj : Bool) (j : Nat) (rj : Plan)
  | t (wi : Bool) (i : Nat) (ri : Plan) (wj : Bool) (j : Nat) (rj : Plan) (wk : Bool) (k : Nat) (rk : Plan)

def Plan.writes : Plan → List Nat
  | .fin => []
  | .q _ r | .p _ r | .e _ r => r.writes
  | .w i r => i :: r.writes
  | .b wi i r wj j r' => (bif wi then [i] else []) ++ (bif wj then [j] else []) ++ r.writes ++ r'.writes
  | .t wi i r wj j r' wk k r'' => (bif wi then [i] else []) ++ ((bif wj then [j] else []) ++ ((bif wk then [k] else []) ++ (r.writes ++ (r'.writes ++ r''.writes))))
def Plan.ok (md : Region.Mode) (ops : Array Oper) (n : Nat) (W : List Nat) : Plan → Nat → Array Bool → Bool
  | .fin, f, listed => decide (f = 0) && Region.seqB md ops (ops.size - n) n listed
  | .q i r, f, listed => decide (0 < f) && decide (i < n) && (Region.ready md ops listed).contains i && Region.free md ops listed i && (!W.contains i && W.all fun j => ancB md ops ops.size i j || listed.getD j true) && r.ok md ops n W (f - 1) (listed.setIfInBounds i true)
  | .p i r, f, listed => decide (0 < f) && decide (i < n) && (Region.ready md ops listed).contains i && Region.free md ops listed i && !W.contains i && r.ok md ops n W (f - 1) (listed.setIfInBounds i true)
  | .e i r, f, listed => decide (0 < f) && decide (i < n) && decide (Region.ready md ops listed = [i]) && r.ok md ops n W (f - 1) (listed.setIfInBounds i true)
  | .w i r, f, listed => decide (0 < f) && decide (i < n) && decide (Region.ready md ops listed = [i]) && W.contains i && r.ok md ops n W (f - 1) (listed.setIfInBounds i true)
  | .b wi i ri wj j rj, f, listed => decide (0 < f) && decide (i < n) && decide (j < n) && (!wi || W.contains i) && (!wj || W.contains j) && decide (Region.ready md ops listed = [i, j]) && ri.ok md ops n W (f - 1) (listed.setIfInBounds i true) && rj.ok md ops n W (f - 1) (listed.setIfInBounds j true)
  | .t wi i ri wj j rj wk k rk, f, listed => decide (0 < f) && (decide (i < n) && (decide (j < n) && (decide (k < n) && ((!wi || W.contains i) && ((!wj || W.contains j) && ((!wk || W.contains k) && (decide (Region.ready md ops listed = [i, j, k]) && (ri.ok md ops n W (f - 1) (listed.setIfInBounds i true) && (rj.ok md ops n W (f - 1) (listed.setIfInBounds j true) && rk.ok md ops n W (f - 1) (listed.setIfInBounds k true))))))))))

/-- What is to be shown along a plan. -/
def WDA (ro : Option Nat) (P : Program) (N : Nat) (ops : Array Oper) (Q : Hnd) (T : World → Prop) (n : Nat) : Plan → Env → (World → Prop) → Prop
  | .fin, ρ, A => WLA ro P N ops Q (ops.toList.drop n) ρ A
  | .q i r, ρ, A => ∃ o v, ops[i]? = some o ∧ ((Region.wanted o (yieldedE N ops ρ) = true ∧ ∀ w, A w → ((execOp (evalE ρ) o).run P w = .ok (.value v) w ∨ ∃ f args, (execOp (evalE ρ) o).run P w = .ok (.enter f args) w ∧ Calls P f args w fun e w' => e = .returned v ∧ ∃ k, w.drawn ≤ k ∧ w' = { w with drawn := k })) ∨ (Region.wanted o (yieldedE N ops ρ) = false ∧ v = undef)) ∧
      WDA ro P N ops Q T n r (updO N ρ o.dst v) A
  | .p i r, ρ, A => ∃ o v, ops[i]? = some o ∧ ((Region.wanted o (yieldedE N ops ρ) = true ∧ ∀ w, T w → (execOp (evalE ρ) o).run P w = .ok (.value v) w) ∨ (Region.wanted o (yieldedE N ops ρ) = false ∧ v = undef)) ∧
      WDA ro P N ops Q T n r (updO N ρ o.dst v) A
  | .w i r, ρ, A => ∃ (o : Oper) (τ : Type) (val : τ → Value) (B : τ → World → Prop), ops[i]? = some o ∧ Region.wanted o (yieldedE N ops ρ) = true ∧ (∀ w, A w → OpU P (fun v w => ∃ x, v = val x ∧ B x w) ((execOp (evalE ρ) o).run P w)) ∧ (∀ x, Dr (B x)) ∧ (∀ x w, B x w → T w) ∧ ∀ x, WDA ro P N ops Q T n r (updO N ρ o.dst (val x)) (B x)
  | .e i r, ρ, A => ∃ (o : Oper) (τ : Type) (val : τ → Value) (B : τ → World → Prop), ops[i]? = some o ∧ Region.wanted o (yieldedE N ops ρ) = true ∧ (∀ w, A w → OpU P (fun v w => ∃ x, v = val x ∧ B x w) ((execOp (evalE ρ) o).run P w)) ∧ (∀ x, Dr (B x)) ∧ (∀ x w, B x w → T w) ∧ (∀ x w, B x w → A w) ∧ ∀ x, WDA ro P N ops Q T n r (updO N ρ o.dst (val x)) (B x)
  | .b wi i ri wj j rj, ρ, A =>
      (∃ (o : Oper) (τ : Type) (val : τ → Value) (B : τ → World → Prop), ops[i]? = some o ∧ Region.wanted o (yieldedE N ops ρ) = true ∧ (∀ w, A w → OpU P (fun v w => ∃ x, v = val x ∧ B x w) ((execOp (evalE ρ) o).run P w)) ∧ (∀ x, Dr (B x)) ∧ (∀ x w, B x w → T w) ∧ (wi = false → ∀ x w, B x w → A w) ∧ ∀ x, WDA ro P N ops Q T n ri (updO N ρ o.dst (val x)) (B x)) ∧
      (∃ (o : Oper) (τ : Type) (val : τ → Value) (B : τ → World → Prop), ops[j]? = some o ∧ Region.wanted o (yieldedE N ops ρ) = true ∧ (∀ w, A w → OpU P (fun v w => ∃ x, v = val x ∧ B x w) ((execOp (evalE ρ) o).run P w)) ∧ (∀ x, Dr (B x)) ∧ (∀ x w, B x w → T w) ∧ (wj = false → ∀ x w, B x w → A w) ∧ ∀ x, WDA ro P N ops Q T n rj (updO N ρ o.dst (val x)) (B x))
  | .t wi i ri wj j rj wk k rk, ρ, A =>
      (∃ (o : Oper) (τ : Type) (val : τ → Value) (B : τ → World → Prop), ops[i]? = some o ∧ Region.wanted o (yieldedE N ops ρ) = true ∧ (∀ w, A w → OpU P (fun v w => ∃ x, v = val x ∧ B x w) ((execOp (evalE ρ) o).run P w)) ∧ (∀ x, Dr (B x)) ∧ (∀ x w, B x w → T w) ∧ (wi = false → ∀ x w, B x w → A w) ∧ ∀ x, WDA ro P N ops Q T n ri (updO N ρ o.dst (val x)) (B x)) ∧
      (∃ (o : Oper) (τ : Type) (val : τ → Value) (B : τ → World → Prop), ops[j]? = some o ∧ Region.wanted o (yieldedE N ops ρ) = true ∧ (∀ w, A w → OpU P (fun v w => ∃ x, v = val x ∧ B x w) ((execOp (evalE ρ) o).run P w)) ∧ (∀ x, Dr (B x)) ∧ (∀ x w, B x w → T w) ∧ (wj = false → ∀ x w, B x w → A w) ∧ ∀ x, WDA ro P N ops Q T n rj (updO N ρ o.dst (val x)) (B x)) ∧
      (∃ (o : Oper) (τ : Type) (val : τ → Value) (B : τ → World → Prop), ops[k]? = some o ∧ Region.wanted o (yieldedE N ops ρ) = true ∧ (∀ w, A w → OpU P (fun v w => ∃ x, v = val x ∧ B x w) ((execOp (evalE ρ) o).run P w)) ∧ (∀ x, Dr (B x)) ∧ (∀ x w, B x w → T w) ∧ (wk = false → ∀ x w, B x w → A w) ∧ ∀ x, WDA ro P N ops Q T n rk (updO N ρ o.dst (val x)) (B x))

theorem QA_panic {N : Nat} {Q : Hnd} {c : List PanicEntry} {a : Act} {w : World} : ¬ QA N Q (.panic c) a w := fun h => h
theorem QA_out {N : Nat} {Q : Hnd} : ¬ LetsOut (QA N Q) := fun ⟨_, _, h⟩ => h

theorem wpOp_eff {N : Nat} {Q : Hnd} {i : Nat} {o : Oper} {R : Value → World → Prop} {ρ : Env} {A : World → Prop} {a : Act} {w : World} {K : Act → World → Prop} (hi : ops[i]? = some o)
    (hw : Region.wanted o (yieldedE N ops ρ) = true) (h : ∀ w, A w → OpU P R ((execOp (evalE ρ) o).run P w)) (ha : Agree N ρ a) (hA : A w) (hK : ∀ v w', R v w' → K (a.put o.dst v) w') : wpOpIn (FR ro) m P ops (QA N Q) i K a w := by
  unfold wpOpIn
  simp only [hi]
  rw [ha.yielded, if_pos hw]
  have hU := h w hA
  refine ⟨fun _ _ => trivial, ?_⟩
  rw [ha.eval]
  show Oper.uponIn (FR ro) m P _ a K _ (Sem.run P (Oper.semAt ro (evalE ρ) _) w)
  rw [semAt_of_OpU hU]
  exact upon_of_OpU hU hK

theorem wpX_of_plan {N : Nat} {Q : Hnd} {n : Nat} {T : World → Prop} (W : List Nat) (hns : Region.noSelect ops = true) (hnd : noDefer ops = true) (ht : drawTail md ops n = true) : ∀ (pl : Plan) (f : Nat) (listed : Array Bool) (ρ : Env) (A : World → Prop) (a : Act),
    pl.ok md ops n W f listed = true → WDA ro P N ops Q T n pl ρ A → HeadInv md ops n listed → Agree N ρ a → (∃ w, A w) → Dr A → (∀ u, A u → T u) →
    wpX ro m P md ops (QA N Q) n (fun listed a w => Region.seqB md ops (ops.size - n) n listed = true ∧ wpListIn (FR ro) m P ops (QA N Q) (ops.toList.drop n) a w) W.contains T f A listed a := by
  have hdone : ∀ (listed : Array Bool) (a : Act) (w : World), (Region.seqB md ops (ops.size - n) n listed = true ∧ wpListIn (FR ro) m P ops (QA N Q) (ops.toList.drop n) a w) → ∀ j ∈ Region.ready md ops listed, n ≤ j := fun listed a w h => seqB_ready h.1
  intro pl
  induction pl with
  | fin =>
    intro f listed ρ A a hok hwd inv ha hne hd hT
    simp only [Plan.ok, Bool.and_eq_true, decide_eq_true_eq] at hok
    obtain ⟨rfl, hq⟩ := hok
    exact fun w hA => ⟨hq, hwd m a w ha hA⟩
  | q i r ih =>
    intro f listed ρ A a hok hwd inv ha hne hd hT
    simp only [Plan.ok, Bool.and_eq_true, decide_eq_true_eq, Bool.not_eq_true'] at hok
    obtain ⟨⟨⟨⟨⟨hf, hin⟩, hr⟩, hfr⟩, hWi, hWa⟩, hok⟩ := hok
    obtain ⟨f, rfl⟩ : ∃ m, f = m + 1 := ⟨f - 1, by omega⟩
    obtain ⟨o, v, hi, hy, hwd⟩ := hwd
    have hr' : i ∈ Region.ready md ops listed := by simpa using hr
    refine wpX_first (b := false) hi (Region.noSelect_spec hns) (fun j o c hj => noDefer_spec hnd j o c hj) (fun c a w h => (QA_panic h).elim) QA_out hWi ht hin hdone f A listed a inv hne hd hT (Region.free_spec hi hfr) hr' (fun _ j hj => by have := List.all_eq_true.1 hWa j (by simpa using hj); simpa using this) ?_ (ih f _ _ A _ hok hwd (inv.set hr' hin) (ha.put _ _) hne hd hT)
    unfold YieldsX
    rw [ha.eval, ha.yielded]
    exact hy.imp (fun ⟨h1, h2⟩ => ⟨h1, fun w hw => h2 w (hw.elim (fun h => by cases h.1) id)⟩) id
  | p i r ih =>
    intro f listed ρ A a hok hwd inv ha hne hd hT
    simp only [Plan.ok, Bool.and_eq_true, decide_eq_true_eq, Bool.not_eq_true'] at hok
    obtain ⟨⟨⟨⟨⟨hf, hin⟩, hr⟩, hfr⟩, hWi⟩, hok⟩ := hok
    obtain ⟨f, rfl⟩ : ∃ m, f = m + 1 := ⟨f - 1, by omega⟩
    obtain ⟨o, v, hi, hy, hwd⟩ := hwd
    have hr' : i ∈ Region.ready md ops listed := by simpa using hr
    refine wpX_first (b := true) hi (Region.noSelect_spec hns) (fun j o c hj => noDefer_spec hnd j o c hj) (fun c a w h => (QA_panic h).elim) QA_out hWi ht hin hdone f A listed a inv hne hd hT (Region.free_spec hi hfr) hr' (fun h => by cases h) ?_ (ih f _ _ A _ hok hwd (inv.set hr' hin) (ha.put _ _) hne hd hT)
    unfold YieldsX
    rw [ha.eval, ha.yielded]
    exact hy.imp (fun ⟨h1, h2⟩ => ⟨h1, fun w hw => .inl (h2 w (hw.elim (fun h => h.2) (hT w)))⟩) id
  | e i r ih =>
    intro f listed ρ A a hok hwd inv ha hne hd hT
    simp only [Plan.ok, Bool.and_eq_true, decide_eq_true_eq] at hok
    obtain ⟨⟨⟨hf, hin⟩, hr⟩, hok⟩ := hok
    obtain ⟨f, rfl⟩ : ∃ m, f = m + 1 := ⟨f - 1, by omega⟩
    obtain ⟨o, τ, val, B, hi, hw, h, hdB, hTB, hm, hwd⟩ := hwd
    refine ⟨by rw [hr]; simp, fun j hj => ?_⟩
    have hij : j = i := by rw [hr] at hj; simpa using hj
    subst hij
    exact ⟨hin, fun w hA => wpOp_eff hi hw h ha hA fun v w' ⟨x, e, hR⟩ => ⟨B x, fun _ u hu => hm x u hu, hTB x, hdB x, hR, ih f _ _ _ _ hok (hwd x) (inv.set hj hin) (by rw [e]; exact ha.put _ _) ⟨w', hR⟩ (hdB x) (hTB x)⟩⟩
  | w i r ih =>
    intro f listed ρ A a hok hwd inv ha hne hd hT
    simp only [Plan.ok, Bool.and_eq_true, decide_eq_true_eq] at hok
    obtain ⟨⟨⟨⟨hf, hin⟩, hr⟩, hWi⟩, hok⟩ := hok
    obtain ⟨f, rfl⟩ : ∃ m, f = m + 1 := ⟨f - 1, by omega⟩
    obtain ⟨o, τ, val, B, hi, hw, h, hdB, hTB, hwd⟩ := hwd
    refine ⟨by rw [hr]; simp, fun j hj => ?_⟩
    have hij : j = i := by rw [hr] at hj; simpa using hj
    subst hij
    exact ⟨hin, fun w hA => wpOp_eff hi hw h ha hA fun v w' ⟨x, e, hR⟩ => ⟨B x, fun hk => (by rw [hWi] at hk; cases hk), hTB x, hdB x, hR, ih f _ _ _ _ hok (hwd x) (inv.set hj hin) (by rw [e]; exact ha.put _ _) ⟨w', hR⟩ (hdB x) (hTB x)⟩⟩
  | b wi i ri wj j rj ihi ihj =>
    intro f listed ρ A a hok hwd inv ha hne hd hT
    simp only [Plan.ok, Bool.and_eq_true, decide_eq_true_eq, Bool.or_eq_true, Bool.not_eq_true'] at hok
    obtain ⟨⟨⟨⟨⟨⟨⟨hf, hin⟩, hjn⟩, hwi⟩, hwj⟩, hr⟩, hoki⟩, hokj⟩ := hok
    obtain ⟨f, rfl⟩ : ∃ m, f = m + 1 := ⟨f - 1, by omega⟩
    obtain ⟨⟨o, τ, val, B, hi, hw, h, hdB, hTB, hm, hwd⟩, o', τ', val', B', hi', hw', h', hdB', hTB', hm', hwd'⟩ := hwd
    have key : ∀ {wk : Bool} {k : Nat}, (wk = false ∨ W.contains k = true) → W.contains k = false → wk = false := fun h hk => h.elim id (fun h => by rw [hk] at h; cases h)
    refine ⟨by rw [hr]; simp, fun k hk => ?_⟩
    have hij : k = i ∨ k = j := by rw [hr] at hk; simpa using hk
    rcases hij with rfl | rfl
    · exact ⟨hin, fun w hA => wpOp_eff hi hw h ha hA fun v w' ⟨x, e, hR⟩ => ⟨B x, fun hc u hu => hm (key hwi hc) x u hu, hTB x, hdB x, hR, ihi f _ _ _ _ hoki (hwd x) (inv.set hk hin) (by rw [e]; exact ha.put _ _) ⟨w', hR⟩ (hdB x) (hTB x)⟩⟩
    · exact ⟨hjn, fun w hA => wpOp_eff hi' hw' h' ha hA fun v w' ⟨x, e, hR⟩ => ⟨B' x, fun hc u hu => hm' (key hwj hc) x u hu, hTB' x, hdB' x, hR, ihj f _ _ _ _ hokj (hwd' x) (inv.set hk hjn) (by rw [e]; exact ha.put _ _) ⟨w', hR⟩ (hdB' x) (hTB' x)⟩⟩
  | t wi i ri wj j rj wk k rk ihi ihj ihk =>
    intro f listed ρ A a hok hwd inv ha hne hd hT
    simp only [Plan.ok, Bool.and_eq_true, decide_eq_true_eq, Bool.or_eq_true, Bool.not_eq_true'] at hok
    obtain ⟨hf, hin, hjn, hkn, hwi, hwj, hwk, hr, hoki, hokj, hokk⟩ := hok
    obtain ⟨f, rfl⟩ : ∃ m, f = m + 1 := ⟨f - 1, by omega⟩
    obtain ⟨⟨o, τ, val, B, hi, hw, h, hdB, hTB, hm, hwd⟩, ⟨o', τ', val', B', hi', hw', h', hdB', hTB', hm', hwd'⟩, o'', τ'', val'', B'', hi'', hw'', h'', hdB'', hTB'', hm'', hwd''⟩ := hwd
    have key : ∀ {wk : Bool} {k : Nat}, (wk = false ∨ W.contains k = true) → W.contains k = false → wk = false := fun h hk => h.elim id (fun h => by rw [hk] at h; cases h)
    refine ⟨by rw [hr]; simp, fun l hl => ?_⟩
    have hij : l = i ∨ l = j ∨ l = k := by rw [hr] at hl; simpa using hl
    rcases hij with rfl | rfl | rfl
    · exact ⟨hin, fun w hA => wpOp_eff hi hw h ha hA fun v w' ⟨x, e, hR⟩ => ⟨B x, fun hc u hu => hm (key hwi hc) x u hu, hTB x, hdB x, hR, ihi f _ _ _ _ hoki (hwd x) (inv.set hl hin) (by rw [e]; exact ha.put _ _) ⟨w', hR⟩ (hdB x) (hTB x)⟩⟩
    · exact ⟨hjn, fun w hA => wpOp_eff hi' hw' h' ha hA fun v w' ⟨x, e, hR⟩ => ⟨B' x, fun hc u hu => hm' (key hwj hc) x u hu, hTB' x, hdB' x, hR, ihj f _ _ _ _ hokj (hwd' x) (inv.set hl hjn) (by rw [e]; exact ha.put _ _) ⟨w', hR⟩ (hdB' x) (hTB' x)⟩⟩
    · exact ⟨hkn, fun w hA => wpOp_eff hi'' hw'' h'' ha hA fun v w' ⟨x, e, hR⟩ => ⟨B'' x, fun hc u hu => hm'' (key hwk hc) x u hu, hTB'' x, hdB'' x, hR, ihk f _ _ _ _ hokk (hwd'' x) (inv.set hl hkn) (by rw [e]; exact ha.put _ _) ⟨w', hR⟩ (hdB'' x) (hTB'' x)⟩⟩

def drawOk (ops : Array Oper) (n : Nat) (pl : Plan) : Bool := Region.noSelect ops && noDefer ops && decide (n ≤ ops.size) && drawTail .any ops n && pl.ok .any ops n pl.writes n (Array.replicate ops.size false)

/-- **A region whose order is open, along a plan.** -/
theorem WPA.draw {N : Nat} {Q : Hnd} {ρ : Env} {A : World → Prop} {id : Nat} {l : List Oper} (n : Nat) (pl : Plan) (hm : P.follows .mixedOrders = true) (hok : drawOk l.toArray n pl = true)
    [hdr : DrC A] {T : World → Prop} (hT : ∀ w, A w → T w) (h : WDA ro P N l.toArray Q T n pl ρ A) : WPA ro P N (.region id l.toArray true) Q ρ A := by
  intro m a w ha hA
  simp only [drawOk, Bool.and_eq_true, decide_eq_true_eq] at hok
  obtain ⟨⟨⟨⟨hns, hnd⟩, hle⟩, ht⟩, hok⟩ := hok
  refine wpIn_region_any hm ?_
  have inv : HeadInv .any l.toArray n (Array.replicate l.toArray.size false) := by
    refine ⟨by simp, fun j oj hj hl => ?_, fun t _ ht => ?_⟩
    · rw [getD_replicate_false] at hl; cases hl
    · exact getD_in (by simpa using ht) (getD_replicate_false _ _)
  have hx := wpX_of_plan (ro := ro) (m := m) pl.writes hns hnd ht pl n _ ρ A a hok h inv ha ⟨w, hA⟩ hdr.out hT
  have := wpAny_of_X (g := l.toArray.size - n) (fun listed a w hL => ?_) n A _ a _ (hdr.out w (w.drawn + 1) (Nat.le_succ _) hA) hx
  · rwa [show n + (l.toArray.size - n) = l.toArray.size by omega] at this
  · have hlen : (l.toArray.toList.drop n).length = l.toArray.size - n := by simp
    have := wpAnyIn_of_seq (l.toArray.toList.drop n) n listed a w (fun j => by simp) (by rw [hlen]; exact hL.1) hL.2
    rwa [hlen] at this

variable {N : Nat} {Q : Hnd} {T : World → Prop} {ρ : Env} {A : World → Prop} {n i : Nat} {r : Plan} {d : Tmp} {op : Op} {ty : TypeId} {pos : String} {af : Array Edge} {g : Option (Nat × Bool)}

theorem WDA.finish {tl : List Oper} (htl : ops.toList.drop n = tl) (h : WLA ro P N ops Q tl ρ A) : WDA ro P N ops Q T n .fin ρ A := by
  subst htl; exact h
theorem WDA.v {v : Value} (hi : ops[i]? = some ⟨some d, op, ty, pos, af, g⟩) (hw : Region.wanted ⟨some d, op, ty, pos, af, g⟩ (yieldedE N ops ρ) = true) (h : OpP P ρ op ty A v) (k : WDA ro P N ops Q T n r (upd N ρ d v) A) : WDA ro P N ops Q T n (.q i r) ρ A :=
  ⟨_, v, hi, .inl ⟨hw, fun w hA => .inl (h _ _ _ _ w hA)⟩, k⟩
theorem WDA.off (hi : ops[i]? = some ⟨some d, op, ty, pos, af, g⟩) (hw : Region.wanted ⟨some d, op, ty, pos, af, g⟩ (yieldedE N ops ρ) = false) (k : WDA ro P N ops Q T n r (upd N ρ d undef) A) : WDA ro P N ops Q T n (.q i r) ρ A :=
  ⟨_, undef, hi, .inr ⟨hw, rfl⟩, k⟩
/-- A call that leaves the world as it is. -/
theorem WDA.cV {c : Operand} {f : FuncId} {caps : List Value} {x1 : Operand} {v1 v : Value} {argTypes : Array TypeId} (hi : ops[i]? = some ⟨some d, .call { callee := .value c, args := #[x1], argTypes := argTypes }, ty, pos, af, g⟩)
    (hw : Region.wanted ⟨some d, .call { callee := .value c, args := #[x1], argTypes := argTypes }, ty, pos, af, g⟩ (yieldedE N ops ρ) = true) (hf : callable P f = true) (hc : TrP P f (List.toArray (v1 :: caps)) A v)
    (hv : evalE ρ c = .func (.func f) #[] caps.toArray) (h1 : evalE ρ x1 = v1) (k : WDA ro P N ops Q T n r (upd N ρ d v) A) : WDA ro P N ops Q T n (.q i r) ρ A := by
  refine ⟨_, v, hi, .inl ⟨hw, fun w hA => .inr ⟨f, List.toArray (v1 :: caps), ?_, hc w hA⟩⟩, k⟩
  simp [execOp, resolve, hv, h1, Deferred.ofValue, invoke, run_callFunc hf, go_sem]
theorem WDA.c {f : FuncId} {args : Array Operand} {vs : Array Value} {v : Value} {argTypes : Array TypeId} (hi : ops[i]? = some ⟨some d, .call { callee := .value (.func f), args := args, argTypes := argTypes }, ty, pos, af, g⟩)
    (hw : Region.wanted ⟨some d, .call { callee := .value (.func f), args := args, argTypes := argTypes }, ty, pos, af, g⟩ (yieldedE N ops ρ) = true) (hf : callable P f = true) (hc : TrP P f vs A v) (h1 : args.map (evalE ρ) = vs)
    (k : WDA ro P N ops Q T n r (upd N ρ d v) A) : WDA ro P N ops Q T n (.q i r) ρ A := by
  subst h1
  refine ⟨_, v, hi, .inl ⟨hw, fun w hA => .inr ⟨f, _, ?_, hc w hA⟩⟩, k⟩
  simp [execOp, resolve, evalE, Deferred.ofValue, invoke, run_callFunc hf, go_sem]
theorem WDA.ev {τ : Type} {val : τ → Value} {B : τ → World → Prop} (hi : ops[i]? = some ⟨some d, op, ty, pos, af, g⟩) (hw : Region.wanted ⟨some d, op, ty, pos, af, g⟩ (yieldedE N ops ρ) = true)
    (h : OpT P ρ op ty A fun v w => ∃ x, v = val x ∧ B x w) (hd : ∀ x, DrC (B x)) (hTB : ∀ x w, B x w → T w) (hm : ∀ x w, B x w → A w) (k : ∀ x, WDA ro P N ops Q T n r (upd N ρ d (val x)) (B x)) : WDA ro P N ops Q T n (.e i r) ρ A := by
  exact ⟨_, τ, val, B, hi, hw, fun w hA => h _ _ _ _ w hA, fun x => (hd x).out, hTB, hm, k⟩
theorem WDA.split {p : Prop} [Decidable p] {pl : Plan} (kt : p → WDA ro P N ops Q T n pl ρ A) (kf : ¬ p → WDA ro P N ops Q T n pl ρ A) : WDA ro P N ops Q T n pl ρ A := by
  by_cases h : p
  · exact kt h
  · exact kf h
end
end Go.Fw
