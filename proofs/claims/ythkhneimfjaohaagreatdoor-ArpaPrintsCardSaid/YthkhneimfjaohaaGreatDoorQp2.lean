/- Texts that ArpaPrints_law leans on, part 2. Conditions: none. -/
import Derived.OrdersHeld
import Derived.OrdersIn
import Derived.Laws.Cover3
import Derived.RangeFuncIn
import Derived.Test.YthkhneimfjaohaaGreatDoorQp1
namespace Go.Fw
open Go Go.RowKit
set_option linter.unusedVariables false
set_option linter.unusedSimpArgs false
def callable (P : Program) (f : FuncId) : Bool :=
  match P.funcs[f]? with
  | some fn => fn.body.isSome && !(fn.name == "runtime.NumGoroutine")
  | none => false
section
variable {P : Program} {ρ : Env} {A : World → Prop} {ty : TypeId}
theorem run_callFunc {f : FuncId} (h : callable P f = true) (args : Array Value) (w : World) : (callFunc f args).run P w = .ok (.enter f args) w := by
  unfold callable at h
  cases e : P.funcs[f]? with
  | none => rw [e] at h; cases h
  | some fn =>
    rw [e] at h
    simp only [Bool.and_eq_true, Bool.not_eq_true'] at h
    obtain ⟨h1, h2⟩ := h
    have h3 : ¬ fn.body = none := by cases hb : fn.body <;> simp_all
    have h4 : ¬ fn.name = "runtime.NumGoroutine" := by simpa using h2
    simp [callFunc, e, h4, h3, go_sem]
theorem T_callS {f : FuncId} {args : Array Operand} {argTypes : Array TypeId} {τ : Type} {val : τ → Value} {B : τ → World → Prop} (hf : callable P f = true)
    (hc : Tr P f (args.map (evalE ρ)) A val B) : OpT P ρ (.call { callee := .value (.func f), args := args, argTypes := argTypes }) ty A fun v w => ∃ x, v = val x ∧ B x w := by
  intro d pos af g w hA
  have e : (execOp (evalE ρ) ⟨d, .call { callee := .value (.func f), args := args, argTypes := argTypes }, ty, pos, af, g⟩).run P w = .ok (.enter f (args.map (evalE ρ))) w := by
    simp [execOp, resolve, evalE, Deferred.ofValue, invoke, run_callFunc hf, go_sem]
  rw [e]
  refine (hc w hA).mono ?_
  rintro e w' ⟨x, rfl, hB⟩
  exact ⟨_, rfl, x, rfl, hB⟩
theorem T_callV {c : Operand} {f : FuncId} {caps : Array Value} {args : Array Operand} {argTypes : Array TypeId} {τ : Type} {val : τ → Value} {B : τ → World → Prop} (hf : callable P f = true)
    (hc : Tr P f (args.map (evalE ρ) ++ caps) A val B) (hv : evalE ρ c = .func (.func f) #[] caps) : OpT P ρ (.call { callee := .value c, args := args, argTypes := argTypes }) ty A fun v w => ∃ x, v = val x ∧ B x w := by
  intro d pos af g w hA
  have e : (execOp (evalE ρ) ⟨d, .call { callee := .value c, args := args, argTypes := argTypes }, ty, pos, af, g⟩).run P w = .ok (.enter f (args.map (evalE ρ) ++ caps)) w := by
    simp [execOp, resolve, hv, Deferred.ofValue, invoke, run_callFunc hf, go_sem]
  rw [e]
  refine (hc w hA).mono ?_
  rintro e w' ⟨x, rfl, hB⟩
  exact ⟨_, rfl, x, rfl, hB⟩
def TrP (P : Program) (f : FuncId) (args : Array Value) (A : World → Prop) (v : Value) : Prop := ∀ w, A w → Calls P f args w fun e w' => e = .returned v ∧ ∃ k, w.drawn ≤ k ∧ w' = { w with drawn := k }
theorem TrP.sub {f : FuncId} {args : Array Value} {v : Value} {w0 : World} {H : HeapP} {L : List (Nat × Obj)} [hi : InSt A w0 H L] (h : TrP P f args (St w0 H L) v) : TrP P f args A v :=
  fun w hA => h w (hi.out w hA)
theorem TrP.of {f : FuncId} {args : Array Value} {v : Value} {w0 : World} {H : HeapP} {L : List (Nat × Obj)} (h : ∀ w, Tr P f args (StD w0 H L w) (fun _ : Unit => v) (fun _ => StD w0 H L w)) : TrP P f args (St w0 H L) v := by
  intro w hA
  refine (h w w ⟨hA, w.drawn, Nat.le_refl _, rfl⟩).mono ?_
  rintro e w' ⟨_, rfl, _, k, hk, rfl⟩
  exact ⟨rfl, k, hk, rfl⟩
end
section
variable {ro : Option Nat} {m : Nat} {P : Program} {ops : Array Oper} {md : Region.Mode}
def YieldsX (P : Program) (ops : Array Oper) (S : World → Prop) (o : Oper) (v : Value) (a : Act) : Prop :=
  (Region.wanted o (yielded ops a.tmps) = true ∧ ∀ w, S w → ((execOp a.eval o).run P w = .ok (.value v) w ∨ ∃ f args, (execOp a.eval o).run P w = .ok (.enter f args) w ∧ Calls P f args w fun e w' => e = .returned v ∧ ∃ k, w.drawn ≤ k ∧ w' = { w with drawn := k })) ∨
  (Region.wanted o (yielded ops a.tmps) = false ∧ v = undef)
theorem YieldsX.mono {S S' : World → Prop} {o : Oper} {v : Value} {a : Act} (h : YieldsX P ops S o v a) (hs : ∀ u, S' u → S u) : YieldsX P ops S' o v a :=
  h.imp (fun ⟨hw, hv⟩ => ⟨hw, fun w hw' => hv w (hs w hw')⟩) id
theorem YieldsX.wpOp {S : World → Prop} {Q' : Exit → Act → World → Prop} {i : Nat} {o : Oper} {v : Value} {a : Act} (hi : ops[i]? = some o) (hy : YieldsX P ops S o v a)
    {K : Act → World → Prop} {w : World} (hS : S w) (h : K (a.put o.dst v) w) (hk : ∀ k, w.drawn ≤ k → K (a.put o.dst v) { w with drawn := k }) : wpOpIn (FR ro) m P ops Q' i K a w := by
  unfold Go.wpOpIn
  simp only [hi]
  rcases hy with ⟨hw, hv⟩ | ⟨hw, rfl⟩
  · rcases hv w hS with e | ⟨f, args, e, hc⟩
    · have hs : o.semAt ro a.eval = execOp a.eval o := semAt_of_OpU (R := fun _ _ => True) (P := P) (w := w) (by rw [e]; trivial)
      rw [if_pos hw]
      refine ⟨fun _ _ => trivial, ?_⟩
      show Oper.uponIn (FR ro) m P _ a K _ (Sem.run P (Oper.semAt ro _ _) w)
      rw [hs, e]; exact h
    · have hs : o.semAt ro a.eval = execOp a.eval o := semAt_of_OpU (R := fun _ _ => True) (P := P) (w := w) (by rw [e]; exact hc.mono fun e' w' he => ⟨v, he.1, trivial⟩)
      rw [if_pos hw]
      refine ⟨fun _ _ => trivial, ?_⟩
      show Oper.uponIn (FR ro) m P _ a K _ (Sem.run P (Oper.semAt ro _ _) w)
      rw [hs, e]
      refine ⟨fun h => (by cases h), ?_⟩
      have hc' : CallsIn (FR ro) (m - 1) P f args w _ := callsIn_wide.2 hc
      refine hc'.mono ?_
      rintro e w' ⟨rfl, k, hk', rfl⟩
      exact hk k hk'
  · simp only [hw, Bool.false_eq_true, if_false]; exact ⟨fun _ _ => trivial, h⟩
theorem YieldsX.of_same {S : World → Prop} {o : Oper} {v : Value} {a a' : Act} (hy : YieldsX P ops S o v a) (he : execOp a'.eval o = execOp a.eval o)
    (hw : Region.wanted o (yielded ops a'.tmps) = Region.wanted o (yielded ops a.tmps)) : YieldsX P ops S o v a' := by
  unfold YieldsX at *
  rw [he, hw]
  exact hy
theorem wpOp_putX {S : World → Prop} {Q' : Exit → Act → World → Prop} {j : Nat} {oi oj : Oper} {v : Value} (hj : ops[j]? = some oj) (hap : oi.apart ops oj = true)
    (hsi : ∀ cs b, oi.op ≠ .select cs b) (hsj : ∀ cs b, oj.op ≠ .select cs b) (hdj : ∀ c, oj.op ≠ .defer c) (hQ : ∀ c a w, Q' (.panic c) (a.put oi.dst v) w → Q' (.panic c) a w) (hO : ¬ LetsOut Q')
    {K : Act → World → Prop} {a : Act} {w : World} (hy : YieldsX P ops S oi v a) (h : wpOpIn (FR ro) m P ops Q' j K (a.put oi.dst v) w) :
    wpOpIn (FR ro) m P ops Q' j (fun a' w' => YieldsX P ops S oi v a' ∧ K (a'.put oi.dst v) w') a w := by
  obtain ⟨h1, h2, h3⟩ := Oper.apart_spec hap
  have keep : ∀ (a : Act), YieldsX P ops S oi v a → ∀ u, YieldsX P ops S oi v (a.put oj.dst u) := fun a hy u =>
    hy.of_same (execOp_put oi hsi a oj.dst u h3) (wanted_put oi a oj.dst u h3)
  unfold wpOpIn at *
  simp only [hj] at *
  rw [wanted_put oj a oi.dst v h1] at h
  split
  · rename_i hw
    simp only [hw, if_true] at h
    have h := h.2
    refine ⟨fun _ _ => trivial, ?_⟩
    rw [Oper.semAt_eq _ _ _ hdj] at h ⊢
    rw [execOp_put oj hsj a oi.dst v h1] at h
    generalize (execOp a.eval oj).run P w = r at *
    cases r with
    | ok x w' =>
      cases x <;> simp only [Oper.uponIn] at h ⊢ <;> try exact h
      case value u => exact ⟨keep a hy _, by rw [← Act.put_comm a v u h2]; exact h⟩
      case skip => exact ⟨keep a hy _, by rw [← Act.put_comm a v undef h2]; exact h⟩
      case defer d =>
        refine ⟨?_, ?_⟩
        · exact (keep { a with defers := d :: a.defers } hy undef)
        · rw [← Act.put_comm _ v undef h2, ← Act.put_defers]; exact h
      case enter f args =>
        refine ⟨h.1, h.2.mono fun e w'' he => ?_⟩
        cases e with
        | returned u => exact ⟨keep a hy _, by rw [← Act.put_comm a v u h2]; exact he⟩
        | panicked c => exact hQ _ _ _ he
        | outgrown => exact he
      case row row args => exact ⟨h.1, h.2.mono fun u w'' he => ⟨keep a hy _, by rw [← Act.put_comm a v u h2]; exact he⟩⟩
      case round l f tmps as_ bd =>
        refine ⟨h.1, h.2.mono fun e w'' he => ?_⟩
        cases e with
        | returned u => exact ⟨keep a hy _, by rw [← Act.put_comm a v u h2]; exact he⟩
        | panicked c => exact hQ _ _ _ he
        | outgrown => exact he
    | halt x w' => cases x <;> simp only [Oper.uponIn] at h ⊢ <;> first | exact hQ _ _ _ h | exact h
  · rename_i hw
    simp only [hw] at h
    exact ⟨fun _ _ => trivial, keep a hy _, by rw [← Act.put_comm a v undef h2]; exact h.2⟩
def noDefer (ops : Array Oper) : Bool := ops.all fun o => match o.op with | .defer _ => false | _ => true
theorem noDefer_spec (h : noDefer ops = true) (j : Nat) (o : Oper) (c : Call) (hj : ops[j]? = some o) : o.op ≠ .defer c := by
  intro e
  have hm : o ∈ ops := Array.mem_of_getElem? hj
  have := Array.all_eq_true_iff_forall_mem.1 h o hm
  rw [e] at this
  cases this
def drawTail (md : Region.Mode) (ops : Array Oper) (n : Nat) : Bool := decide (n = ops.size) || (decide (n < ops.size) && Region.sinkB md ops n && Region.chainB md ops n)
theorem head_only {n : Nat} {listed : Array Bool} (ht : drawTail md ops n = true) (inv : HeadInv md ops n listed) {i j : Nat} (hin : i < n) (hun : listed.getD i true = false) (hj : j ∈ Region.ready md ops listed) : j < n := by
  rcases Nat.lt_or_ge j n with h | h
  · exact h
  · simp only [drawTail, Bool.or_eq_true, Bool.and_eq_true, decide_eq_true_eq] at ht
    rcases ht with ht | ⟨⟨h1, h2⟩, h3⟩
    · obtain ⟨_, oj, hoj, _⟩ := mem_ready.1 hj
      have := (Array.getElem?_eq_some_iff.1 hoj).1
      omega
    · exact absurd hj (tail_waits h2 h3 h1 inv _ i rfl hin hun j h)
def Dr (S : World → Prop) : Prop := ∀ w k, w.drawn ≤ k → S w → S { w with drawn := k }
def wpX (ro : Option Nat) (m : Nat) (P : Program) (md : Region.Mode) (ops : Array Oper) (Q' : Exit → Act → World → Prop) (n : Nat) (L : Array Bool → Act → World → Prop) (W : Nat → Bool) (T : World → Prop) : Nat → (World → Prop) → Array Bool → Act → Prop
  | 0, S, listed, a => ∀ w, S w → L listed a w
  | f + 1, S, listed, a =>
    Region.ready md ops listed ≠ [] ∧ ∀ i ∈ Region.ready md ops listed, i < n ∧ ∀ w, S w →
      wpOpIn (FR ro) m P ops Q' i (fun a' w' => ∃ S' : World → Prop, (W i = false → ∀ u, S' u → S u) ∧ (∀ u, S' u → T u) ∧ Dr S' ∧ S' w' ∧ wpX ro m P md ops Q' n L W T f S' (listed.setIfInBounds i true) a') a w
theorem wpAny_of_X {Q' : Exit → Act → World → Prop} {n g : Nat} {W : Nat → Bool} {T : World → Prop} {L : Array Bool → Act → World → Prop} (hL : ∀ listed a w, L listed a w → wpAnyIn (FR ro) m P md ops Q' g listed a w) :
    ∀ (f : Nat) (S : World → Prop) (listed : Array Bool) (a : Act) (w : World), S w → wpX ro m P md ops Q' n L W T f S listed a → wpAnyIn (FR ro) m P md ops Q' (f + g) listed a w
  | 0, _, listed, a, w, hS, h => by rw [Nat.zero_add]; exact hL _ _ _ (h w hS)
  | f + 1, S, listed, a, w, hS, h => by
    rw [show f + 1 + g = (f + g) + 1 by omega]
    exact ⟨fun h0 => absurd h0 h.1, fun i hi => wpOpIn_mono (fun a' w' ⟨S', _, _, _, hS', h'⟩ => wpAny_of_X hL f S' _ a' w' hS' h') ((h.2 i hi).2 w hS)⟩
def ancB (md : Region.Mode) (ops : Array Oper) : Nat → Nat → Nat → Bool
  | 0, _, _ => false
  | f + 1, i, j => match ops[j]? with
    | some o => o.after.any fun e => Region.binds md e && (Nat.beq e.on i || ancB md ops f i e.on)
    | none => false
theorem anc_listed {n : Nat} {listed : Array Bool} (inv : HeadInv md ops n listed) {i : Nat} : ∀ (f j : Nat), ancB md ops f i j = true → (∀ oj, ops[j]? = some oj → ∀ e ∈ oj.after, Region.binds md e = true → listed.getD e.on false = true) → listed.getD i false = true := by
  intro f
  induction f with
  | zero => intro j h; cases h
  | succ f ih =>
    intro j h hd
    unfold ancB at h
    cases e : ops[j]? with
    | none => rw [e] at h; cases h
    | some o =>
      rw [e] at h
      simp only [Array.any_eq_true', Bool.and_eq_true, Bool.or_eq_true] at h
      obtain ⟨x, hx, hb, h1⟩ := h
      have hl := hd o e x hx hb
      rcases h1 with h1 | h1
      · rwa [← Nat.eq_of_beq_eq_true h1]
      · exact ih x.on h1 fun oj hoj => inv.closed x.on oj hoj hl
def Zc (b : Bool) (T S : World → Prop) : World → Prop := fun u => (b = true ∧ T u) ∨ S u
theorem getD_set_mono {listed : Array Bool} {j k : Nat} (h : listed.getD k true = true) : (listed.setIfInBounds j true).getD k true = true := by
  by_cases hjk : j = k
  · subst hjk
    by_cases hj : j < listed.size
    · simp [Array.getD, hj]
    · simp [Array.getD, hj]
  · rw [getD_set_ne true hjk]; exact h
theorem wpX_first {Q' : Exit → Act → World → Prop} {n i : Nat} {oi : Oper} {v : Value} {L : Array Bool → Act → World → Prop} {W : Nat → Bool} {T : World → Prop} {b : Bool} (hi : ops[i]? = some oi) (hsel : ∀ (j : Nat) (o : Oper) cs b, ops[j]? = some o → o.op ≠ .select cs b) (hdef : ∀ (j : Nat) (o : Oper) c, ops[j]? = some o → o.op ≠ .defer c)
    (hQ : ∀ c a w, Q' (.panic c) (a.put oi.dst v) w → Q' (.panic c) a w) (hO : ¬ LetsOut Q') (hWi : W i = false)
    (ht : drawTail md ops n = true) (hin : i < n) (hdone : ∀ listed a w, L listed a w → ∀ j ∈ Region.ready md ops listed, n ≤ j) :
    ∀ (f : Nat) (S : World → Prop) (listed : Array Bool) (a : Act), HeadInv md ops n listed → (∃ w, S w) → Dr S → (∀ u, S u → T u) →
      (∀ j oj, ops[j]? = some oj → j ≠ i → listed.getD j true = false → (∀ e ∈ oj.after, Region.binds md e = true → e.on ≠ i) → oi.apart ops oj = true) →
      i ∈ Region.ready md ops listed → (b = false → ∀ j, W j = true → ancB md ops ops.size i j = true ∨ listed.getD j true = true) → YieldsX P ops (Zc b T S) oi v a →
      wpX ro m P md ops Q' n L W T f S (listed.setIfInBounds i true) (a.put oi.dst v) → wpX ro m P md ops Q' n L W T (f + 1) S listed a := by
  intro f
  induction f with
  | zero =>
    intro S listed a inv hne hd hT _ hr _ hy H
    have hun := (mem_ready.1 hr).1
    refine ⟨fun h => (by rw [h] at hr; cases hr), fun j hj => ?_⟩
    have hjn := head_only ht inv hin hun hj
    refine ⟨hjn, fun w hS => ?_⟩
    by_cases hji : j = i
    · subst hji; exact hy.wpOp hi (.inr hS) ⟨S, fun _ _ h => h, hT, hd, hS, H⟩ fun k hk => ⟨S, fun _ _ h => h, hT, hd, hd w k hk hS, H⟩
    · obtain ⟨w1, hw1⟩ := hne
      have := hdone _ _ _ (H w1 hw1) j (ready_mono hj hji)
      omega
  | succ f ih =>
    intro S listed a inv hne hd hT hfree hr hanc hy H
    have hun := (mem_ready.1 hr).1
    refine ⟨fun h => (by rw [h] at hr; cases hr), fun j hj => ?_⟩
    have hjn := head_only ht inv hin hun hj
    refine ⟨hjn, fun w hS => ?_⟩
    by_cases hji : j = i
    · subst hji; exact hy.wpOp hi (.inr hS) ⟨S, fun _ _ h => h, hT, hd, hS, H⟩ fun k hk => ⟨S, fun _ _ h => h, hT, hd, hd w k hk hS, H⟩
    · have h1 := (H.2 j (ready_mono hj hji)).2 w hS
      obtain ⟨hjun, oj, hoj, hall⟩ := mem_ready.1 hj
      have hnot : ∀ e ∈ oj.after, Region.binds md e = true → e.on ≠ i := fun e he hb heq => by
        have h1 := hall e he hb
        rw [heq, getD_both hun] at h1
        cases h1
      have hWj : b = false → W j = false := fun hb => by
        cases hw : W j with
        | false => rfl
        | true =>
          rcases hanc hb j hw with h0 | h0
          · have h2 := anc_listed inv ops.size j h0 fun oj' hoj' e he hbd => by
              rw [hoj] at hoj'; cases hoj'; exact hall e he hbd
            rw [getD_both hun] at h2
            cases h2
          · rw [hjun] at h0; cases h0
      have h2 := wpOp_putX hoj (hfree j oj hoj hji hjun hnot) (fun cs b => hsel i oi cs b hi) (fun cs b => hsel j oj cs b hoj) (fun c => hdef j oj c hoj) hQ hO hy h1
      have hfree' : ∀ k ok, ops[k]? = some ok → k ≠ i → (listed.setIfInBounds j true).getD k true = false →
          (∀ e ∈ ok.after, Region.binds md e = true → e.on ≠ i) → oi.apart ops ok = true := fun k ok hk hki hun hno => by
        refine hfree k ok hk hki ?_ hno
        by_cases hjk : j = k
        · subst hjk; exact hjun
        · rw [getD_set_ne true hjk] at hun; exact hun
      refine wpOpIn_mono (fun a' w' h3 => ?_) h2
      obtain ⟨hy', S', hs, hT', hd', hS', hx⟩ := h3
      have hz : ∀ u, Zc b T S' u → Zc b T S u := fun u hu => by
        cases b with
        | true => exact hu.elim (fun h => .inl h) (fun h => .inl ⟨rfl, hT' u h⟩)
        | false => exact hu.elim (fun h => .inl h) (fun h => .inr (hs (hWj rfl) u h))
      refine ⟨S', hs, hT', hd', hS', ih S' (listed.setIfInBounds j true) a' (inv.set hj hjn) ⟨w', hS'⟩ hd' hT' hfree' (ready_mono hr (Ne.symm hji)) (fun hb k hk => (hanc hb k hk).imp id fun h => getD_set_mono h) (hy'.mono hz) ?_⟩
      rw [Array.setIfInBounds_comm _ _ hji]
      exact hx
theorem wpAnyIn_of_seq {Q' : Exit → Act → World → Prop} : ∀ (l : List Oper) (k : Nat) (listed : Array Bool) (a : Act) (w : World), (∀ j, l[j]? = ops[k + j]?) →
    Region.seqB md ops l.length k listed = true → wpListIn (FR ro) m P ops Q' l a w → wpAnyIn (FR ro) m P md ops Q' l.length listed a w
  | [], _, _, _, _, _, hB, h => ⟨by simpa [Region.seqB] using hB, h⟩
  | o :: l, k, listed, a, w, hl, hB, h => by
    have h0 : ops[k]? = some o := by simpa using (hl 0).symm
    simp only [List.length_cons, Region.seqB, Bool.and_eq_true, decide_eq_true_eq] at hB
    refine ⟨fun h1 => (by rw [hB.1] at h1; cases h1), fun i hi => ?_⟩
    rw [hB.1] at hi
    have hik : i = k := by simpa using hi
    subst hik
    have hw : wpOpIn (FR ro) m P ops Q' i (wpListIn (FR ro) m P ops Q' l) a w := by unfold wpOpIn; simp only [h0]; exact h
    exact wpOpIn_mono (fun a' w' h' => wpAnyIn_of_seq l (i + 1) _ a' w' (fun j => by have := hl (j + 1); simpa [Nat.add_assoc, Nat.add_comm 1 j] using this) hB.2 h') hw
inductive Plan where
  | fin
  | q (i : Nat) (r : Plan)
  | p (i : Nat) (r : Plan)
  | e (i : Nat) (r : Plan)
  | w (i : Nat) (r : Plan)
  | b (wi : Bool) (i : Nat) (ri : Plan) (wj : Bool) (j : Nat) (rj : Plan)
  | t (wi : Bool) (i : Nat) (ri : Plan) (wj : Bool) (j : Nat) (rj : Plan) (wk : Bool) (k : Nat) (rk : Plan)
def Plan.writes : Plan → List Nat
  | .fin => []
  | .q _ r | .p _ r | .e _ r => r.writes
  | .w i r => i :: r.writes
  | .b wi i r wj j r' => (bif wi then [i] else []) ++ (bif wj then [j] else []) ++ r.writes ++ r'.writes
  | .t wi i r wj j r' wk k r'' => (bif wi then [i] else []) ++ ((bif wj then [j] else []) ++ ((bif wk then [k] else []) ++ (r.writes ++ (r'.writes ++ r''.writes))))
def Plan.ok (md : Region.Mode) (ops : Array Oper) (n : Nat) (W : List Nat) : Plan → Nat → Array Bool → Bool
  | .fin, f, listed => decide (f = 0) && Region.seqB md ops (ops.size - n) n listed
  | .q i r, f, listed => decide (0 < f) && decide (i < n) && (Region.ready md ops listed).contains i && Region.free md ops listed i && (!W.contains i && W.all fun j => ancB md ops ops.size i j || listed.getD j true) && r.ok md ops n W (f - 1) (listed.setIfInBounds i true)
  | .p i r, f, listed => decide (0 < f) && decide (i < n) && (Region.ready md ops listed).contains i && Region.free md ops listed i && !W.contains i && r.ok md ops n W (f - 1) (listed.setIfInBounds i true)
  | .e i r, f, listed => decide (0 < f) && decide (i < n) && decide (Region.ready md ops listed = [i]) && r.ok md ops n W (f - 1) (listed.setIfInBounds i true)
  | .w i r, f, listed => decide (0 < f) && decide (i < n) && decide (Region.ready md ops listed = [i]) && W.contains i && r.ok md ops n W (f - 1) (listed.setIfInBounds i true)
  | .b wi i ri wj j rj, f, listed => decide (0 < f) && decide (i < n) && decide (j < n) && (!wi || W.contains i) && (!wj || W.contains j) && decide (Region.ready md ops listed = [i, j]) && ri.ok md ops n W (f - 1) (listed.setIfInBounds i true) && rj.ok md ops n W (f - 1) (listed.setIfInBounds j true)
  | .t wi i ri wj j rj wk k rk, f, listed => decide (0 < f) && (decide (i < n) && (decide (j < n) && (decide (k < n) && ((!wi || W.contains i) && ((!wj || W.contains j) && ((!wk || W.contains k) && (decide (Region.ready md ops listed = [i, j, k]) && (ri.ok md ops n W (f - 1) (listed.setIfInBounds i true) && (rj.ok md ops n W (f - 1) (listed.setIfInBounds j true) && rk.ok md ops n W (f - 1) (listed.setIfInBounds k true))))))))))
def WDA (ro : Option Nat) (P : Program) (N : Nat) (ops : Array Oper) (Q : Hnd) (T : World → Prop) (n : Nat) : Plan → Env → (World → Prop) → Prop
  | .fin, ρ, A => WLA ro P N ops Q (ops.toList.drop n) ρ A
  | .q i r, ρ, A => ∃ o v, ops[i]? = some o ∧ ((Region.wanted o (yieldedE N ops ρ) = true ∧ ∀ w, A w → ((execOp (evalE ρ) o).run P w = .ok (.value v) w ∨ ∃ f args, (execOp (evalE ρ) o).run P w = .ok (.enter f args) w ∧ Calls P f args w fun e w' => e = .returned v ∧ ∃ k, w.drawn ≤ k ∧ w' = { w with drawn := k })) ∨ (Region.wanted o (yieldedE N ops ρ) = false ∧ v = undef)) ∧
      WDA ro P N ops Q T n r (updO N ρ o.dst v) A
  | .p i r, ρ, A => ∃ o v, ops[i]? = some o ∧ ((Region.wanted o (yieldedE N ops ρ) = true ∧ ∀ w, T w → (execOp (evalE ρ) o).run P w = .ok (.value v) w) ∨ (Region.wanted o (yieldedE N ops ρ) = false ∧ v = undef)) ∧
      WDA ro P N ops Q T n r (updO N ρ o.dst v) A
  | .w i r, ρ, A => ∃ (o : Oper) (τ : Type) (val : τ → Value) (B : τ → World → Prop), ops[i]? = some o ∧ Region.wanted o (yieldedE N ops ρ) = true ∧ (∀ w, A w → OpX P (fun v w => ∃ x, v = val x ∧ B x w) (fun c w => Q (.panic c) ρ w) ((execOp (evalE ρ) o).run P w)) ∧ (∀ x, Dr (B x)) ∧ (∀ x w, B x w → T w) ∧ ∀ x, WDA ro P N ops Q T n r (updO N ρ o.dst (val x)) (B x)
  | .e i r, ρ, A => ∃ (o : Oper) (τ : Type) (val : τ → Value) (B : τ → World → Prop), ops[i]? = some o ∧ Region.wanted o (yieldedE N ops ρ) = true ∧ (∀ w, A w → OpX P (fun v w => ∃ x, v = val x ∧ B x w) (fun c w => Q (.panic c) ρ w) ((execOp (evalE ρ) o).run P w)) ∧ (∀ x, Dr (B x)) ∧ (∀ x w, B x w → T w) ∧ (∀ x w, B x w → A w) ∧ ∀ x, WDA ro P N ops Q T n r (updO N ρ o.dst (val x)) (B x)
  | .b wi i ri wj j rj, ρ, A =>
      (∃ (o : Oper) (τ : Type) (val : τ → Value) (B : τ → World → Prop), ops[i]? = some o ∧ Region.wanted o (yieldedE N ops ρ) = true ∧ (∀ w, A w → OpX P (fun v w => ∃ x, v = val x ∧ B x w) (fun c w => Q (.panic c) ρ w) ((execOp (evalE ρ) o).run P w)) ∧ (∀ x, Dr (B x)) ∧ (∀ x w, B x w → T w) ∧ (wi = false → ∀ x w, B x w → A w) ∧ ∀ x, WDA ro P N ops Q T n ri (updO N ρ o.dst (val x)) (B x)) ∧
      (∃ (o : Oper) (τ : Type) (val : τ → Value) (B : τ → World → Prop), ops[j]? = some o ∧ Region.wanted o (yieldedE N ops ρ) = true ∧ (∀ w, A w → OpX P (fun v w => ∃ x, v = val x ∧ B x w) (fun c w => Q (.panic c) ρ w) ((execOp (evalE ρ) o).run P w)) ∧ (∀ x, Dr (B x)) ∧ (∀ x w, B x w → T w) ∧ (wj = false → ∀ x w, B x w → A w) ∧ ∀ x, WDA ro P N ops Q T n rj (updO N ρ o.dst (val x)) (B x))
  | .t wi i ri wj j rj wk k rk, ρ, A =>
      (∃ (o : Oper) (τ : Type) (val : τ → Value) (B : τ → World → Prop), ops[i]? = some o ∧ Region.wanted o (yieldedE N ops ρ) = true ∧ (∀ w, A w → OpX P (fun v w => ∃ x, v = val x ∧ B x w) (fun c w => Q (.panic c) ρ w) ((execOp (evalE ρ) o).run P w)) ∧ (∀ x, Dr (B x)) ∧ (∀ x w, B x w → T w) ∧ (wi = false → ∀ x w, B x w → A w) ∧ ∀ x, WDA ro P N ops Q T n ri (updO N ρ o.dst (val x)) (B x)) ∧
      (∃ (o : Oper) (τ : Type) (val : τ → Value) (B : τ → World → Prop), ops[j]? = some o ∧ Region.wanted o (yieldedE N ops ρ) = true ∧ (∀ w, A w → OpX P (fun v w => ∃ x, v = val x ∧ B x w) (fun c w => Q (.panic c) ρ w) ((execOp (evalE ρ) o).run P w)) ∧ (∀ x, Dr (B x)) ∧ (∀ x w, B x w → T w) ∧ (wj = false → ∀ x w, B x w → A w) ∧ ∀ x, WDA ro P N ops Q T n rj (updO N ρ o.dst (val x)) (B x)) ∧
      (∃ (o : Oper) (τ : Type) (val : τ → Value) (B : τ → World → Prop), ops[k]? = some o ∧ Region.wanted o (yieldedE N ops ρ) = true ∧ (∀ w, A w → OpX P (fun v w => ∃ x, v = val x ∧ B x w) (fun c w => Q (.panic c) ρ w) ((execOp (evalE ρ) o).run P w)) ∧ (∀ x, Dr (B x)) ∧ (∀ x w, B x w → T w) ∧ (wk = false → ∀ x w, B x w → A w) ∧ ∀ x, WDA ro P N ops Q T n rk (updO N ρ o.dst (val x)) (B x))
theorem QA_panic {N : Nat} {ds : List Deferred} {Q : Hnd} {c : List PanicEntry} {a : Act} {w : World} {d : Option Tmp} {v : Value} (h : QA N ds Q (.panic c) (a.put d v) w) : QA N ds Q (.panic c) a w := by
  obtain ⟨ρ, h1, h2⟩ := h
  exact ⟨ρ, by cases d <;> exact h1, h2⟩
theorem QA_out {N : Nat} {ds : List Deferred} {Q : Hnd} : ¬ LetsOut (QA N ds Q) := fun ⟨_, _, h⟩ => h
theorem wpOp_eff {N : Nat} {ds : List Deferred} {Q : Hnd} {i : Nat} {o : Oper} {R : Value → World → Prop} {ρ : Env} {A : World → Prop} {a : Act} {w : World} {K : Act → World → Prop} (hi : ops[i]? = some o)
    (hw : Region.wanted o (yieldedE N ops ρ) = true) (hnd : ∀ c, o.op ≠ .defer c) (h : ∀ w, A w → OpX P R (fun c w => Q (.panic c) ρ w) ((execOp (evalE ρ) o).run P w)) (ha : Agree N ρ a ds) (hA : A w) (hK : ∀ v w', R v w' → K (a.put o.dst v) w') : wpOpIn (FR ro) m P ops (QA N ds Q) i K a w := by
  unfold wpOpIn
  simp only [hi]
  rw [ha.yielded, if_pos hw]
  have hU := h w hA
  refine ⟨fun _ _ => trivial, ?_⟩
  rw [ha.eval]
  show Oper.uponIn (FR ro) m P _ a K _ (Sem.run P (Oper.semAt ro (evalE ρ) _) w)
  rw [Oper.semAt_eq ro (evalE ρ) o fun c h => absurd h (hnd c)]
  exact upon_of_OpX hU hK fun c w' hE => ⟨ρ, ha.df, hE⟩
theorem wpX_of_plan {N : Nat} {ds : List Deferred} {Q : Hnd} {n : Nat} {T : World → Prop} (W : List Nat) (hns : Region.noSelect ops = true) (hnd : noDefer ops = true) (ht : drawTail md ops n = true) : ∀ (pl : Plan) (f : Nat) (listed : Array Bool) (ρ : Env) (A : World → Prop) (a : Act),
    pl.ok md ops n W f listed = true → WDA ro P N ops Q T n pl ρ A → HeadInv md ops n listed → Agree N ρ a ds → (∃ w, A w) → Dr A → (∀ u, A u → T u) →
    wpX ro m P md ops (QA N ds Q) n (fun listed a w => Region.seqB md ops (ops.size - n) n listed = true ∧ wpListIn (FR ro) m P ops (QA N ds Q) (ops.toList.drop n) a w) W.contains T f A listed a := by
  have hdone : ∀ (listed : Array Bool) (a : Act) (w : World), (Region.seqB md ops (ops.size - n) n listed = true ∧ wpListIn (FR ro) m P ops (QA N ds Q) (ops.toList.drop n) a w) → ∀ j ∈ Region.ready md ops listed, n ≤ j := fun listed a w h => seqB_ready h.1
  intro pl
  induction pl with
  | fin =>
    intro f listed ρ A a hok hwd inv ha hne hd hT
    simp only [Plan.ok, Bool.and_eq_true, decide_eq_true_eq] at hok
    obtain ⟨rfl, hq⟩ := hok
    exact fun w hA => ⟨hq, hwd (m, ds) a w ha hA⟩
  | q i r ih =>
    intro f listed ρ A a hok hwd inv ha hne hd hT
    simp only [Plan.ok, Bool.and_eq_true, decide_eq_true_eq, Bool.not_eq_true'] at hok
    obtain ⟨⟨⟨⟨⟨hf, hin⟩, hr⟩, hfr⟩, hWi, hWa⟩, hok⟩ := hok
    obtain ⟨f, rfl⟩ : ∃ m, f = m + 1 := ⟨f - 1, by omega⟩
    obtain ⟨o, v, hi, hy, hwd⟩ := hwd
    have hr' : i ∈ Region.ready md ops listed := by simpa using hr
    refine wpX_first (b := false) hi (Region.noSelect_spec hns) (fun j o c hj => noDefer_spec hnd j o c hj) (fun c a w h => QA_panic h) QA_out hWi ht hin hdone f A listed a inv hne hd hT (Region.free_spec hi hfr) hr' (fun _ j hj => by have := List.all_eq_true.1 hWa j (by simpa using hj); simpa using this) ?_ (ih f _ _ A _ hok hwd (inv.set hr' hin) (ha.put _ _) hne hd hT)
    unfold YieldsX
    rw [ha.eval, ha.yielded]
    exact hy.imp (fun ⟨h1, h2⟩ => ⟨h1, fun w hw => h2 w (hw.elim (fun h => by cases h.1) id)⟩) id
  | p i r ih =>
    intro f listed ρ A a hok hwd inv ha hne hd hT
    simp only [Plan.ok, Bool.and_eq_true, decide_eq_true_eq, Bool.not_eq_true'] at hok
    obtain ⟨⟨⟨⟨⟨hf, hin⟩, hr⟩, hfr⟩, hWi⟩, hok⟩ := hok
    obtain ⟨f, rfl⟩ : ∃ m, f = m + 1 := ⟨f - 1, by omega⟩
    obtain ⟨o, v, hi, hy, hwd⟩ := hwd
    have hr' : i ∈ Region.ready md ops listed := by simpa using hr
    refine wpX_first (b := true) hi (Region.noSelect_spec hns) (fun j o c hj => noDefer_spec hnd j o c hj) (fun c a w h => QA_panic h) QA_out hWi ht hin hdone f A listed a inv hne hd hT (Region.free_spec hi hfr) hr' (fun h => by cases h) ?_ (ih f _ _ A _ hok hwd (inv.set hr' hin) (ha.put _ _) hne hd hT)
    unfold YieldsX
    rw [ha.eval, ha.yielded]
    exact hy.imp (fun ⟨h1, h2⟩ => ⟨h1, fun w hw => .inl (h2 w (hw.elim (fun h => h.2) (hT w)))⟩) id
  | e i r ih =>
    intro f listed ρ A a hok hwd inv ha hne hd hT
    simp only [Plan.ok, Bool.and_eq_true, decide_eq_true_eq] at hok
    obtain ⟨⟨⟨hf, hin⟩, hr⟩, hok⟩ := hok
    obtain ⟨f, rfl⟩ : ∃ m, f = m + 1 := ⟨f - 1, by omega⟩
    obtain ⟨o, τ, val, B, hi, hw, h, hdB, hTB, hm, hwd⟩ := hwd
    refine ⟨by rw [hr]; simp, fun j hj => ?_⟩
    have hij : j = i := by rw [hr] at hj; simpa using hj
    subst hij
    exact ⟨hin, fun w hA => wpOp_eff hi hw (fun c => noDefer_spec hnd _ _ c hi) h ha hA fun v w' ⟨x, e, hR⟩ => ⟨B x, fun _ u hu => hm x u hu, hTB x, hdB x, hR, ih f _ _ _ _ hok (hwd x) (inv.set hj hin) (by rw [e]; exact ha.put _ _) ⟨w', hR⟩ (hdB x) (hTB x)⟩⟩
  | w i r ih =>
    intro f listed ρ A a hok hwd inv ha hne hd hT
    simp only [Plan.ok, Bool.and_eq_true, decide_eq_true_eq] at hok
    obtain ⟨⟨⟨⟨hf, hin⟩, hr⟩, hWi⟩, hok⟩ := hok
    obtain ⟨f, rfl⟩ : ∃ m, f = m + 1 := ⟨f - 1, by omega⟩
    obtain ⟨o, τ, val, B, hi, hw, h, hdB, hTB, hwd⟩ := hwd
    refine ⟨by rw [hr]; simp, fun j hj => ?_⟩
    have hij : j = i := by rw [hr] at hj; simpa using hj
    subst hij
    exact ⟨hin, fun w hA => wpOp_eff hi hw (fun c => noDefer_spec hnd _ _ c hi) h ha hA fun v w' ⟨x, e, hR⟩ => ⟨B x, fun hk => (by rw [hWi] at hk; cases hk), hTB x, hdB x, hR, ih f _ _ _ _ hok (hwd x) (inv.set hj hin) (by rw [e]; exact ha.put _ _) ⟨w', hR⟩ (hdB x) (hTB x)⟩⟩
  | b wi i ri wj j rj ihi ihj =>
    intro f listed ρ A a hok hwd inv ha hne hd hT
    simp only [Plan.ok, Bool.and_eq_true, decide_eq_true_eq, Bool.or_eq_true, Bool.not_eq_true'] at hok
    obtain ⟨⟨⟨⟨⟨⟨⟨hf, hin⟩, hjn⟩, hwi⟩, hwj⟩, hr⟩, hoki⟩, hokj⟩ := hok
    obtain ⟨f, rfl⟩ : ∃ m, f = m + 1 := ⟨f - 1, by omega⟩
    obtain ⟨⟨o, τ, val, B, hi, hw, h, hdB, hTB, hm, hwd⟩, o', τ', val', B', hi', hw', h', hdB', hTB', hm', hwd'⟩ := hwd
    have key : ∀ {wk : Bool} {k : Nat}, (wk = false ∨ W.contains k = true) → W.contains k = false → wk = false := fun h hk => h.elim id (fun h => by rw [hk] at h; cases h)
    refine ⟨by rw [hr]; simp, fun k hk => ?_⟩
    have hij : k = i ∨ k = j := by rw [hr] at hk; simpa using hk
    rcases hij with rfl | rfl
    · exact ⟨hin, fun w hA => wpOp_eff hi hw (fun c => noDefer_spec hnd _ _ c hi) h ha hA fun v w' ⟨x, e, hR⟩ => ⟨B x, fun hc u hu => hm (key hwi hc) x u hu, hTB x, hdB x, hR, ihi f _ _ _ _ hoki (hwd x) (inv.set hk hin) (by rw [e]; exact ha.put _ _) ⟨w', hR⟩ (hdB x) (hTB x)⟩⟩
    · exact ⟨hjn, fun w hA => wpOp_eff hi' hw' (fun c => noDefer_spec hnd _ _ c hi') h' ha hA fun v w' ⟨x, e, hR⟩ => ⟨B' x, fun hc u hu => hm' (key hwj hc) x u hu, hTB' x, hdB' x, hR, ihj f _ _ _ _ hokj (hwd' x) (inv.set hk hjn) (by rw [e]; exact ha.put _ _) ⟨w', hR⟩ (hdB' x) (hTB' x)⟩⟩
  | t wi i ri wj j rj wk k rk ihi ihj ihk =>
    intro f listed ρ A a hok hwd inv ha hne hd hT
    simp only [Plan.ok, Bool.and_eq_true, decide_eq_true_eq, Bool.or_eq_true, Bool.not_eq_true'] at hok
    obtain ⟨hf, hin, hjn, hkn, hwi, hwj, hwk, hr, hoki, hokj, hokk⟩ := hok
    obtain ⟨f, rfl⟩ : ∃ m, f = m + 1 := ⟨f - 1, by omega⟩
    obtain ⟨⟨o, τ, val, B, hi, hw, h, hdB, hTB, hm, hwd⟩, ⟨o', τ', val', B', hi', hw', h', hdB', hTB', hm', hwd'⟩, o'', τ'', val'', B'', hi'', hw'', h'', hdB'', hTB'', hm'', hwd''⟩ := hwd
    have key : ∀ {wk : Bool} {k : Nat}, (wk = false ∨ W.contains k = true) → W.contains k = false → wk = false := fun h hk => h.elim id (fun h => by rw [hk] at h; cases h)
    refine ⟨by rw [hr]; simp, fun l hl => ?_⟩
    have hij : l = i ∨ l = j ∨ l = k := by rw [hr] at hl; simpa using hl
    rcases hij with rfl | rfl | rfl
    · exact ⟨hin, fun w hA => wpOp_eff hi hw (fun c => noDefer_spec hnd _ _ c hi) h ha hA fun v w' ⟨x, e, hR⟩ => ⟨B x, fun hc u hu => hm (key hwi hc) x u hu, hTB x, hdB x, hR, ihi f _ _ _ _ hoki (hwd x) (inv.set hl hin) (by rw [e]; exact ha.put _ _) ⟨w', hR⟩ (hdB x) (hTB x)⟩⟩
    · exact ⟨hjn, fun w hA => wpOp_eff hi' hw' (fun c => noDefer_spec hnd _ _ c hi') h' ha hA fun v w' ⟨x, e, hR⟩ => ⟨B' x, fun hc u hu => hm' (key hwj hc) x u hu, hTB' x, hdB' x, hR, ihj f _ _ _ _ hokj (hwd' x) (inv.set hl hjn) (by rw [e]; exact ha.put _ _) ⟨w', hR⟩ (hdB' x) (hTB' x)⟩⟩
    · exact ⟨hkn, fun w hA => wpOp_eff hi'' hw'' (fun c => noDefer_spec hnd _ _ c hi'') h'' ha hA fun v w' ⟨x, e, hR⟩ => ⟨B'' x, fun hc u hu => hm'' (key hwk hc) x u hu, hTB'' x, hdB'' x, hR, ihk f _ _ _ _ hokk (hwd'' x) (inv.set hl hkn) (by rw [e]; exact ha.put _ _) ⟨w', hR⟩ (hdB'' x) (hTB'' x)⟩⟩
def drawOk (ops : Array Oper) (n : Nat) (pl : Plan) : Bool := Region.noSelect ops && noDefer ops && decide (n ≤ ops.size) && drawTail .any ops n && pl.ok .any ops n pl.writes n (Array.replicate ops.size false)
theorem WPA.draw {N : Nat} {Q : Hnd} {ρ : Env} {A : World → Prop} {id : Nat} {l : List Oper} (n : Nat) (pl : Plan) (hm : P.follows .mixedOrders = true) (hok : drawOk l.toArray n pl = true)
    [hdr : DrC A] {T : World → Prop} (hT : ∀ w, A w → T w) (h : WDA ro P N l.toArray Q T n pl ρ A) : WPA ro P N (.region id l.toArray true) Q ρ A := by
  intro m a w ha hA
  simp only [drawOk, Bool.and_eq_true, decide_eq_true_eq] at hok
  obtain ⟨⟨⟨⟨hns, hnd⟩, hle⟩, ht⟩, hok⟩ := hok
  refine wpIn_region_any hm ?_
  have inv : HeadInv .any l.toArray n (Array.replicate l.toArray.size false) := by
    refine ⟨by simp, fun j oj hj hl => ?_, fun t _ ht => ?_⟩
    · rw [getD_replicate_false] at hl; cases hl
    · exact getD_in (by simpa using ht) (getD_replicate_false _ _)
  have hx := wpX_of_plan (ro := ro) (m := m.1) (ds := m.2) pl.writes hns hnd ht pl n _ ρ A a hok h inv ha ⟨w, hA⟩ hdr.out hT
  have := wpAny_of_X (g := l.toArray.size - n) (fun listed a w hL => ?_) n A _ a _ (hdr.out w (w.drawn + 1) (Nat.le_succ _) hA) hx
  · rwa [show n + (l.toArray.size - n) = l.toArray.size by omega] at this
  · have hlen : (l.toArray.toList.drop n).length = l.toArray.size - n := by simp
    have := wpAnyIn_of_seq (l.toArray.toList.drop n) n listed a w (fun j => by simp) (by rw [hlen]; exact hL.1) hL.2
    rwa [hlen] at this
variable {N : Nat} {Q : Hnd} {T : World → Prop} {ρ : Env} {A : World → Prop} {n i : Nat} {r : Plan} {d : Tmp} {op : Op} {ty : TypeId} {pos : String} {af : Array Edge} {g : Option (Nat × Bool)}
theorem WDA.finish {tl : List Oper} (htl : ops.toList.drop n = tl) (h : WLA ro P N ops Q tl ρ A) : WDA ro P N ops Q T n .fin ρ A := by
  subst htl; exact h
theorem WDA.v {v : Value} (hi : ops[i]? = some ⟨some d, op, ty, pos, af, g⟩) (hw : Region.wanted ⟨some d, op, ty, pos, af, g⟩ (yieldedE N ops ρ) = true) (h : OpP P ρ op ty A v) (k : WDA ro P N ops Q T n r (upd N ρ d v) A) : WDA ro P N ops Q T n (.q i r) ρ A :=
  ⟨_, v, hi, .inl ⟨hw, fun w hA => .inl (h _ _ _ _ w hA)⟩, k⟩
theorem WDA.off (hi : ops[i]? = some ⟨some d, op, ty, pos, af, g⟩) (hw : Region.wanted ⟨some d, op, ty, pos, af, g⟩ (yieldedE N ops ρ) = false) (k : WDA ro P N ops Q T n r (upd N ρ d undef) A) : WDA ro P N ops Q T n (.q i r) ρ A :=
  ⟨_, undef, hi, .inr ⟨hw, rfl⟩, k⟩
theorem WDA.c {f : FuncId} {args : Array Operand} {vs : Array Value} {v : Value} {argTypes : Array TypeId} (hi : ops[i]? = some ⟨some d, .call { callee := .value (.func f), args := args, argTypes := argTypes }, ty, pos, af, g⟩)
    (hw : Region.wanted ⟨some d, .call { callee := .value (.func f), args := args, argTypes := argTypes }, ty, pos, af, g⟩ (yieldedE N ops ρ) = true) (hf : callable P f = true) (hc : TrP P f vs A v) (h1 : args.map (evalE ρ) = vs)
    (k : WDA ro P N ops Q T n r (upd N ρ d v) A) : WDA ro P N ops Q T n (.q i r) ρ A := by
  subst h1
  refine ⟨_, v, hi, .inl ⟨hw, fun w hA => .inr ⟨f, _, ?_, hc w hA⟩⟩, k⟩
  simp [execOp, resolve, evalE, Deferred.ofValue, invoke, run_callFunc hf, go_sem]
theorem WDA.ev {τ : Type} {val : τ → Value} {B : τ → World → Prop} (hi : ops[i]? = some ⟨some d, op, ty, pos, af, g⟩) (hw : Region.wanted ⟨some d, op, ty, pos, af, g⟩ (yieldedE N ops ρ) = true)
    (h : OpT P ρ op ty A fun v w => ∃ x, v = val x ∧ B x w) (hd : ∀ x, DrC (B x)) (hTB : ∀ x w, B x w → T w) (hm : ∀ x w, B x w → A w) (k : ∀ x, WDA ro P N ops Q T n r (upd N ρ d (val x)) (B x)) : WDA ro P N ops Q T n (.e i r) ρ A := by
  exact ⟨_, τ, val, B, hi, hw, fun w hA => (h _ _ _ _ w hA).toX, fun x => (hd x).out, hTB, hm, k⟩
theorem WDA.split {p : Prop} [Decidable p] {pl : Plan} (kt : p → WDA ro P N ops Q T n pl ρ A) (kf : ¬ p → WDA ro P N ops Q T n pl ρ A) : WDA ro P N ops Q T n pl ρ A := by
  by_cases h : p
  · exact kt h
  · exact kf h
end
end Go.Fw
namespace Go.Fw
open Go Go.RowKit
set_option linter.unusedVariables false
set_option linter.unusedSimpArgs false
section
variable {ro : Option Nat} {P : Program} {n : Nat} {Q : Hnd} {ρ : Env} {A : World → Prop}
theorem WPA.condT {c : Operand} {x y : Code} {p : Prop} [Decidable p] (hc : evalE ρ c = .bool (decide p)) (hp : p) (h : WPA ro P n x Q ρ A) : WPA ro P n (.cond c x y) Q ρ A := WPA.cond hc (fun _ => h) (fun k => absurd hp k)
theorem WPA.condF {c : Operand} {x y : Code} {p : Prop} [Decidable p] (hc : evalE ρ c = .bool (decide p)) (hp : ¬ p) (h : WPA ro P n y Q ρ A) : WPA ro P n (.cond c x y) Q ρ A := WPA.cond hc (fun k => absurd k hp) (fun _ => h)
theorem WPA.condTrue {c : Operand} {x y : Code} (hc : evalE ρ c = .bool true) (h : WPA ro P n x Q ρ A) : WPA ro P n (.cond c x y) Q ρ A := WPA.condB hc (fun _ => h) (fun k => by cases k)
theorem WPA.condFalse {c : Operand} {x y : Code} (hc : evalE ρ c = .bool false) (h : WPA ro P n y Q ρ A) : WPA ro P n (.cond c x y) Q ρ A := WPA.condB hc (fun k => by cases k) (fun _ => h)
end
def WDQ (ro : Option Nat) (P : Program) (N : Nat) (ops : Array Oper) (Q : Hnd) (T : World → Prop) (n : Nat) (o : Oper) (r : Plan) (ρ : Env) (A : World → Prop) : Prop := ∀ i, ops[i]? = some o → WDA ro P N ops Q T n (.q i r) ρ A
def WDE (ro : Option Nat) (P : Program) (N : Nat) (ops : Array Oper) (Q : Hnd) (T : World → Prop) (n : Nat) (o : Oper) (r : Plan) (ρ : Env) (A : World → Prop) : Prop := ∀ i, ops[i]? = some o → WDA ro P N ops Q T n (.e i r) ρ A
section
variable {ro : Option Nat} {P : Program} {N n i : Nat} {ops : Array Oper} {Q : Hnd} {T : World → Prop} {o : Oper} {ρ : Env} {A : World → Prop} {r : Plan} {d : Tmp} {op : Op} {ty : TypeId} {pos : String} {af : Array Edge} {g : Option (Nat × Bool)}
theorem WDQ.see (hi : ops[i]? = some o) (h : WDQ ro P N ops Q T n o r ρ A) : WDA ro P N ops Q T n (.q i r) ρ A := h i hi
theorem WDE.see (hi : ops[i]? = some o) (h : WDE ro P N ops Q T n o r ρ A) : WDA ro P N ops Q T n (.e i r) ρ A := h i hi
theorem WDQ.v {v : Value} (hw : Region.wanted ⟨some d, op, ty, pos, af, g⟩ (yieldedE N ops ρ) = true) (h : OpP P ρ op ty A v) (k : WDA ro P N ops Q T n r (upd N ρ d v) A) : WDQ ro P N ops Q T n ⟨some d, op, ty, pos, af, g⟩ r ρ A :=
  fun _ hi => WDA.v hi hw h k
theorem WDQ.off (hw : Region.wanted ⟨some d, op, ty, pos, af, g⟩ (yieldedE N ops ρ) = false) (k : WDA ro P N ops Q T n r (upd N ρ d undef) A) : WDQ ro P N ops Q T n ⟨some d, op, ty, pos, af, g⟩ r ρ A :=
  fun _ hi => WDA.off hi hw k
theorem WDQ.c {f : FuncId} {args : Array Operand} {vs : Array Value} {v : Value} {argTypes : Array TypeId}
    (hw : Region.wanted ⟨some d, .call { callee := .value (.func f), args := args, argTypes := argTypes }, ty, pos, af, g⟩ (yieldedE N ops ρ) = true) (hf : callable P f = true) (hc : TrP P f vs A v) (h1 : args.map (evalE ρ) = vs)
    (k : WDA ro P N ops Q T n r (upd N ρ d v) A) : WDQ ro P N ops Q T n ⟨some d, .call { callee := .value (.func f), args := args, argTypes := argTypes }, ty, pos, af, g⟩ r ρ A :=
  fun _ hi => WDA.c hi hw hf hc h1 k
theorem WDQ.split {dst : Option Tmp} {j : Nat} {b : Bool} {p : Prop} [Decidable p] (_hy : yieldedE N ops ρ j = some (decide p)) (kt : p → WDQ ro P N ops Q T n ⟨dst, op, ty, pos, af, some (j, b)⟩ r ρ A) (kf : ¬ p → WDQ ro P N ops Q T n ⟨dst, op, ty, pos, af, some (j, b)⟩ r ρ A) : WDQ ro P N ops Q T n ⟨dst, op, ty, pos, af, some (j, b)⟩ r ρ A := by
  by_cases h : p
  · exact kt h
  · exact kf h
theorem WDE.ev {τ : Type} {val : τ → Value} {B : τ → World → Prop} (hw : Region.wanted ⟨some d, op, ty, pos, af, g⟩ (yieldedE N ops ρ) = true)
    (h : OpT P ρ op ty A fun v w => ∃ x, v = val x ∧ B x w) (hd : ∀ x, DrC (B x)) (hTB : ∀ x w, B x w → T w) (hm : ∀ x w, B x w → A w) (k : ∀ x, WDA ro P N ops Q T n r (upd N ρ d (val x)) (B x)) : WDE ro P N ops Q T n ⟨some d, op, ty, pos, af, g⟩ r ρ A :=
  fun _ hi => WDA.ev hi hw h hd hTB hm k
theorem WDE.split {dst : Option Tmp} {j : Nat} {b : Bool} {p : Prop} [Decidable p] (_hy : yieldedE N ops ρ j = some (decide p)) (kt : p → WDE ro P N ops Q T n ⟨dst, op, ty, pos, af, some (j, b)⟩ r ρ A) (kf : ¬ p → WDE ro P N ops Q T n ⟨dst, op, ty, pos, af, some (j, b)⟩ r ρ A) : WDE ro P N ops Q T n ⟨dst, op, ty, pos, af, some (j, b)⟩ r ρ A := by
  by_cases h : p
  · exact kt h
  · exact kf h
end
section
variable {P : Program} {ρ : Env} {A : World → Prop} {ty : TypeId}
theorem P_cap_slice {x : Operand} {t e : TypeId} {a : Option Addr} {k c : Nat} (ht : P.underlying t = some (.slice e)) (h : evalE ρ x = .slice a k c) :
    OpP P ρ (.call { callee := .builtin .cap, args := #[x], argTypes := #[t] }) ty A (.int .i64 c) := by
  intro d pos af g w _; simp [execOp, resolve, invoke, builtin, h, run_underlying ht, Builtin.cap_, go_sem, goInt]
theorem P_eqpointer_nil {x y : Operand} {t e u : TypeId} {p : Option Addr} (ht : P.underlying t = some (.pointer e)) (h1 : evalE ρ x = .pointer p) (h2 : evalE ρ y = .pointer none) : OpP P ρ (.binOp .eql t x y u) ty A (.bool p.isNone) := by
  intro d pos af g w _
  have hp : P.pointee t = e := by simp [Program.pointee, ht]
  have := run_equal_pointer_nil (P := P) (w := w) t p (by rw [hp]; exact ht)
  simp [execOp, eqGuard, binOp, h1, h2, this, go_sem]
theorem P_neqpointer_nil {x y : Operand} {t e u : TypeId} {p : Option Addr} (ht : P.underlying t = some (.pointer e)) (h1 : evalE ρ x = .pointer p) (h2 : evalE ρ y = .pointer none) : OpP P ρ (.binOp .neq t x y u) ty A (.bool (!p.isNone)) := by
  intro d pos af g w _
  have hp : P.pointee t = e := by simp [Program.pointee, ht]
  have := run_equal_pointer_nil (P := P) (w := w) t p (by rw [hp]; exact ht)
  simp [execOp, eqGuard, binOp, h1, h2, this, go_sem]
end
def OwnR (e : TypeId) (size : Nat) (v : Value) (n : Nat) (xs : List Value) (R : List (Nat × Obj)) : Prop :=
  xs.length = n * size ∧ ((v = .slice none 0 0 ∧ n = 0 ∧ R = []) ∨
    ∃ g cap cur, v = .slice (some ⟨g, 0, none⟩) n cap ∧ n ≤ cap ∧ cap ≤ maxLen ∧ cur.size = cap * size ∧ cur.toList.take (n * size) = xs ∧ R = [(g, .cells cur e (0, 0))])
theorem OwnR.nil (e : TypeId) (size : Nat) : OwnR e size (.slice none 0 0) 0 [] [] := ⟨by simp, .inl ⟨rfl, rfl, rfl⟩⟩
theorem OwnR.slice {e : TypeId} {size : Nat} {v : Value} {n : Nat} {xs : List Value} {R : List (Nat × Obj)} (h : OwnR e size v n xs R) : ∃ a cap, v = .slice a n cap ∧ n ≤ cap := by
  rcases h.2 with ⟨rfl, rfl, _⟩ | ⟨g, cap, cur, rfl, h1, _⟩
  · exact ⟨none, 0, rfl, Nat.le_refl _⟩
  · exact ⟨_, cap, rfl, h1⟩
section
variable {P : Program} {ρ : Env} {ty : TypeId} {w0 : World} {H : HeapP} {L : List (Nat × Obj)}
theorem St.putRow {w : World} {g : Nat} {cur : Array Value} {e : TypeId} (h : St w0 H ((g, .cells cur e (0, 0)) :: L) w) (cs : Array Value) : St w0 H ((g, .cells cs e (0, 0)) :: L) (w.setRow g cs) := by
  have := h.put (j := 0) (b := g) (o := .cells cur e (0, 0)) (o' := .cells cs e (0, 0)) rfl (w' := w.setRow g cs) (fun k => ?_) (by simp) rfl rfl rfl (Nat.le_refl _)
  · exact this
  · by_cases hk : k = g
    · subst hk; rw [if_pos rfl]; exact setRow_heap w k cur cs e _ (h.at_ (j := 0) rfl)
    · rw [if_neg hk]; exact setRow_other w g k _ hk
theorem T_append {s x : Operand} {t e : TypeId} {z : Value} {size bytes : Nat} (ht : P.underlying t = some (.slice e)) (hi : (P.info? e).map (fun i => (i.zero, i.size, i.bytes)) = some (some z, size, bytes)) (hzs : z.cells.size = size) (hsz : 0 < size)
    {v : Value} {n : Nat} {xs : List Value} {R : List (Nat × Obj)} (hs : evalE ρ s = v) (hown : OwnR e size v n xs R)
    {a : Addr} {m c : Nat} {news : List Value} (hx : evalE ρ x = .slice (some a) m c) (hl : news.length = m * size) (hnews : ∀ w, St w0 H (R ++ L) w → ∀ j u, news[j]? = some u → w.cell? (a.add j) = some u) (h1 : ∀ u ∈ news, u.oneCell' = true)
    (h63 : n + m ≤ maxLen) (hbytes : (n + m) * bytes ≤ 140737488355328) :
    OpT P ρ (.call { callee := .builtin .append, args := #[s, x], argTypes := #[t, t] }) ty (St w0 H (R ++ L))
      fun v' w => ∃ q : Value × List (Nat × Obj), v' = q.1 ∧ (OwnR e size q.1 (n + m) (xs ++ news) q.2 ∧ St w0 H (q.2 ++ L) w) := by
  obtain ⟨i, hi', hzz⟩ := Option.map_eq_some_iff.1 hi
  simp only [Prod.mk.injEq] at hzz
  obtain ⟨hz, rfl, rfl⟩ := hzz
  have hsmall : n + m ≤ 9223372036854775807 := by simp only [maxLen] at h63; omega
  have hlen : (xs ++ news).length = (n + m) * i.size := by rw [List.length_append, hown.1, hl, Nat.add_mul]
  intro d pos af g w hw
  have key : ∃ v' w', (Builtin.append_ #[t, t] ty #[v, .slice (some a) m c]).run P w = .ok v' w' ∧ ∃ R', OwnR e i.size v' (n + m) (xs ++ news) R' ∧ St w0 H (R' ++ L) w' := by
    have hnw := hnews w hw
    have grown : ∀ (old : Nat), old < n + m → St w0 H L w →
        ∃ R', OwnR e i.size (.slice (some ⟨w.heap.size, 0, none⟩) (n + m) (grownCap w (n + m) old e)) (n + m) (xs ++ news) R' ∧
          St w0 H (R' ++ L) (w.drew.alloc (.cells (xs.toArray ++ news.toArray ++ Builtin.zeroCells z.cells (grownCap w (n + m) old e - (n + m))) e)) := by
      intro old ho hst
      have hge := grownCap_ge w (n + m) old e
      have hcm : grownCap w (n + m) old e ≤ maxLen := grownCap_le_maxLen w (n + m) old e h63
      refine ⟨[(w.heap.size, .cells (xs.toArray ++ news.toArray ++ Builtin.zeroCells z.cells (grownCap w (n + m) old e - (n + m))) e (0, 0))], ⟨hlen, .inr ⟨w.heap.size, _, _, rfl, hge, hcm, ?_, ?_, rfl⟩⟩, ?_⟩
      · simp only [Array.size_append, List.size_toArray, size_zeroCells, hzs, hown.1, hl, ← Nat.add_mul]
        congr 1
        omega
      · simp only [Array.toList_append, List.append_assoc]
        rw [← List.append_assoc, ← hlen]
        exact List.take_left
      · exact (hst.drawn (w.drawn + 1) (Nat.le_succ _)).push _
    rcases hown.2 with ⟨rfl, rfl, rfl⟩ | ⟨gb, cap, cur, rfl, hnc, hcm, hcs, htake, rfl⟩
    · have hx0 : xs = [] := List.eq_nil_of_length_eq_zero (by simpa using hown.1)
      subst hx0
      by_cases hm : m = 0
      · subst hm
        have hn : news = [] := List.eq_nil_of_length_eq_zero (by simpa using hl)
        subst hn
        refine ⟨.slice none 0 0, w, ?_, [], OwnR.nil _ _, hw⟩
        simp [Builtin.append_, run_underlying ht, sizeOf, typeInfo, hi', Builtin.lenOf, Builtin.firstCells, loadCells, loadCellsFrom]
      · have hr := run_append_nil (P := P) w t ty e i z ht hi' hz a m c news hl hnw (by omega) (by omega) (by have hb := hbytes; simp only [Nat.zero_add] at hb; omega)
        obtain ⟨R', g1, g2⟩ := grown 0 (by omega) hw
        simp only [Nat.zero_add, List.nil_append, Array.empty_append] at g1 g2 ⊢
        exact ⟨_, _, hr, R', g1, by simpa using g2⟩
    · by_cases hroom : n + m ≤ cap
      · have hfit : n * i.size + news.length ≤ cur.size := by rw [hl, hcs, ← Nat.add_mul]; exact Nat.mul_le_mul_right _ hroom
        have hr := run_append_room (P := P) w t ty e i ht hi' gb n cap cur (hw.at_ (j := 0) rfl) a m c news hl hnw h1 hroom hfit
        refine ⟨_, _, hr, [(gb, .cells (cur.toList.take (n * i.size) ++ news ++ cur.toList.drop (n * i.size + news.length)).toArray e (0, 0))], ⟨hlen, .inr ⟨gb, cap, _, rfl, hroom, hcm, ?_, ?_, rfl⟩⟩, hw.putRow _⟩
        · simp only [List.size_toArray, List.length_append, List.length_take, List.length_drop, Array.length_toList]
          omega
        · rw [htake, ← hlen]
          exact List.take_left
      · have holds : ∀ j u, xs[j]? = some u → w.cell? ((⟨gb, 0, none⟩ : Addr).add j) = some u := by
          intro j u hu
          have ha : (⟨gb, 0, none⟩ : Addr).add j = ⟨gb, j, none⟩ := by unfold Addr.add; split <;> simp_all
          rw [ha]
          refine cell_of_heap (hw.at_ (j := 0) rfl) ?_
          rw [← htake, List.getElem?_take] at hu
          split at hu
          · simpa using hu
          · cases hu
        have hr := run_append_grow (P := P) w t ty e i z ht hi' hz ⟨gb, 0, none⟩ n cap xs hown.1 holds a m c news hl hnw (by omega) (by omega) (growslice_fits (by omega) hbytes)
        obtain ⟨R', g1, g2⟩ := grown cap (by omega) (hw.drop (List.sublist_cons_self _ _))
        exact ⟨_, _, hr, R', g1, g2⟩
  obtain ⟨v', w', hr, R', g1, g2⟩ := key
  have e1 : (execOp (evalE ρ) ⟨d, .call { callee := .builtin .append, args := #[s, x], argTypes := #[t, t] }, ty, pos, af, g⟩).run P w = .ok (.value v') w' := by
    unfold execOp
    simp only [resolve, invoke, builtin, Sem.run_bind, Sem.run_pure, Result.andThen_ok, List.map_toArray, List.map_cons, List.map_nil, hs, hx, hr]
  rw [e1]
  exact ⟨(v', R'), rfl, g1, g2⟩
end
end Go.Fw
namespace Go.Fw
open Go Go.RowKit
set_option linter.unusedVariables false
set_option linter.unusedSimpArgs false
section
variable {P : Program} {ρ : Env} {A : World → Prop} {ty : TypeId} {w0 : World} {H : HeapP} {L : List (Nat × Obj)}
theorem T_make {l c : Operand} {t e : TypeId} {z : Value} {size bytes : Nat} (ht : P.underlying t = some (.slice e)) (hi : (P.info? e).map (fun i => (i.zero, i.size, i.bytes)) = some (some z, size, bytes))
    {kl kc : IntKind} {Lv C : Int} (hl : evalE ρ l = .int kl Lv) (hc : evalE ρ c = .int kc C) (h0 : 0 ≤ Lv) (hlc : Lv ≤ C) (hb : (bytes : Int) * C ≤ 281474976710656) (h63 : C ≤ 9223372036854775807) :
    OpT P ρ (.makeSlice t l c) ty (St w0 H L) fun v w => ∃ b, v = .slice (some ⟨b, 0, none⟩) Lv.toNat C.toNat ∧ St w0 H ((b, .cells (madeCells z.cells (C.toNat * size)) e (0, 0)) :: L) w := by
  obtain ⟨i, hi', hzz⟩ := Option.map_eq_some_iff.1 hi
  simp only [Prod.mk.injEq] at hzz
  obtain ⟨hz, rfl, rfl⟩ := hzz
  intro d pos af g w hw
  have hr := run_make (P := P) w t e i z ht hi' hz kl kc Lv C h0 hlc hb h63
  simp only [execOp, hl, hc, Sem.run_bind, hr, Result.andThen, Sem.run_pure, OpU]
  exact ⟨_, rfl, hw.push _⟩
theorem run_storeMany {w : World} {j b : Nat} {t' : TypeId} : ∀ (vs : List Value) (cs : Array Value) (i k : Nat) (w : World) (L : List (Nat × Obj)), St w0 H L w → L[j]? = some (b, .cells cs t' (0, 0)) → i + k + vs.length ≤ cs.size → (∀ v ∈ vs, v.oneCell' = true) →
    ∃ w', (storeCells ⟨b, i, none⟩ vs k).run P w = .ok () w' ∧ St w0 H (L.set j (b, .cells (vs.foldl (fun (p : Array Value × Nat) v => (p.1.setIfInBounds p.2 v, p.2 + 1)) (cs, i + k)).1 t' (0, 0))) w' := by
  intro vs
  induction vs with
  | nil =>
    intro cs i k w L hw hj _ _
    refine ⟨w, rfl, ?_⟩
    have hjl : j < L.length := (List.getElem?_eq_some_iff.1 hj).1
    have e : L.set j (b, .cells cs t' (0, 0)) = L := by
      apply List.ext_getElem?
      intro q
      rw [List.getElem?_set]
      by_cases h : j = q
      · subst h; simp [hjl]; exact (List.getElem?_eq_some_iff.1 hj).2.symm
      · simp [h]
    simpa [e] using hw
  | cons v vs ih =>
    intro cs i k w L hw hj hsz h1
    have hv := h1 v (List.mem_cons_self ..)
    have hjl : j < L.length := (List.getElem?_eq_some_iff.1 hj).1
    simp only [List.length_cons] at hsz
    have hb := hw.at_ hj
    have ha : (⟨b, i, none⟩ : Addr).add k = ⟨b, i + k, none⟩ := by unfold Addr.add; split <;> simp_all
    have hc : w.cell? ⟨b, i + k, none⟩ = some (cs[i + k]) := cell_of_heap hb (Array.getElem?_eq_getElem (by omega))
    have hfz : w.frozen? ⟨b, i + k, none⟩ = false := by simp [World.frozen?, hb]
    have hst := run_store P w ⟨b, i + k, none⟩ v .plain hv
    rw [hc] at hst
    simp only [hfz, Bool.false_eq_true, if_false] at hst
    have hw1 := hw.setCell hj (i + k) v
    obtain ⟨w', h2, h3⟩ := ih (cs.setIfInBounds (i + k) v) i (k + 1) _ _ hw1 (by rw [List.getElem?_set]; simp [hjl]) (by simp; omega) (fun u hu => h1 u (List.mem_cons_of_mem _ hu))
    refine ⟨w', ?_, ?_⟩
    · simp only [storeCells, ha, Sem.run_bind, hst, Result.andThen]
      exact h2
    · rw [List.set_set] at h3
      simpa [Nat.add_assoc] using h3
theorem T_storeAgg (j : Nat) {x y : Operand} {t t' : TypeId} {b i k : Nat} {cs : Array Value} {vs : List Value} (hz : (P.info? t).map (·.size) = some k) (h : evalE ρ x = .pointer (some ⟨b, i, none⟩))
    (hv : evalE ρ y = .agg vs.toArray) (hk : vs.length = k) (h1 : vs.all (·.oneCell') = true) (hj : L[j]? = some (b, .cells cs t' (0, 0))) (hi : i + vs.length ≤ cs.size) :
    OpT P ρ (.store t x y) ty (St w0 H L) fun _ w => St w0 H (L.set j (b, .cells (vs.foldl (fun (p : Array Value × Nat) v => (p.1.setIfInBounds p.2 v, p.2 + 1)) (cs, i)).1 t' (0, 0))) w := by
  intro d pos af g w hw
  obtain ⟨inf, hinf, hz'⟩ := Option.map_eq_some_iff.1 hz
  obtain ⟨w', h2, h3⟩ := run_storeMany (P := P) (w := w) vs cs i 0 w L hw hj (by omega) (fun v hv => List.all_eq_true.1 h1 v hv)
  have e : (storeVar t ⟨b, i, none⟩ (.agg vs.toArray)).run P w = .ok () w' := by
    have h2' : (storeCells ⟨b, i, none⟩ vs).run P w = .ok () w' := h2
    have hs : (Go.sizeOf t).run P w = .ok vs.length w := by simp [Go.sizeOf, typeInfo, hinf, hz', hk, go_sem]
    unfold storeVar
    simp only [Sem.run_bind, hs, Result.andThen, Value.cells, List.size_toArray, ne_eq, not_true_eq_false, if_false]
    exact h2'
  simp only [execOp, Instr.storeAt, Instr.sureAddr, h, hv, Sem.run_bind, Sem.run_pure, pure_bind, Result.andThen, e, OpU]
  simpa using h3
theorem WLA.pre {ro : Option Nat} {n : Nat} {Q : Hnd} {ops : Array Oper} {l : List Oper} {p : Prop} (k : p → WLA ro P n ops Q l ρ A) : WLA ro P n ops Q l ρ (fun w => p ∧ A w) := fun m a w ha ⟨hp, hA⟩ => k hp m a w ha hA
theorem WPA.pre {ro : Option Nat} {n : Nat} {Q : Hnd} {c : Code} {p : Prop} (k : p → WPA ro P n c Q ρ A) : WPA ro P n c Q ρ (fun w => p ∧ A w) := fun m a w ha ⟨hp, hA⟩ => k hp m a w ha hA
theorem QQ.mono {Q : Hnd} {e : Exit} {B : World → Prop} (h : ∀ w, A w → B w) (k : QQ Q e ρ B) : QQ Q e ρ A := fun w hA => k w (h w hA)
def builtInfo (P : Program) (t : TypeId) : Option (Array Value × List (Nat × Nat)) :=
  match P.info? t, P.underlying t with
  | some it, some (.struct fields) =>
    match it.zero, fields.toList.mapM (fun f => (P.info? f.type).map fun i => (f.offset, i.size)) with
    | some z, some places => some (z.cells, places)
    | _, _ => none
  | _, _ => none
theorem built_of {t : TypeId} {zc : Array Value} {offs : List (Nat × Nat)} (h : builtInfo P t = some (zc, offs)) (vs : List (Nat × Value)) : P.built t vs = Instr.fill (fun i => offs.toArray[i]?) zc vs := by
  unfold builtInfo at h
  unfold Program.built
  split at h
  · rename_i it fields e1 e2
    rw [e1, e2]
    simp only at h ⊢
    split at h
    · rename_i z places e3 e4
      rw [e3, e4]
      cases h
      rfl
    · cases h
  · cases h
theorem P_build {t : TypeId} {ps : List (Nat × Operand)} {vs : List (Nat × Value)} {zc cells : Array Value} {offs : List (Nat × Nat)} (hbi : builtInfo P t = some (zc, offs)) (hp : ps.map (fun p => (p.1, evalE ρ p.2)) = vs)
    (hf : Instr.fill (fun i => offs.toArray[i]?) zc vs = some cells) : OpP P ρ (.build t ps.toArray) ty A (.agg cells) := by
  intro d pos af g w _
  have h := run_build (P := P) w t vs.toArray cells (by rw [built_of hbi]; exact hf)
  have e : ps.toArray.map (fun (p : Nat × Operand) => (p.1, evalE ρ p.2)) = vs.toArray := by rw [← hp]; simp
  have e' : (Array.map (fun x => match x with | (i, x) => (i, evalE ρ x)) ps.toArray) = vs.toArray := e
  simp only [execOp, e', Sem.run_bind, h, Result.andThen, Sem.run_pure]
end
end Go.Fw
namespace Go.Fw
open Go Go.RowKit
set_option linter.unusedVariables false
set_option linter.unusedSimpArgs false
def Blk (H : HeapP) (L : List (Nat × Obj)) (b : Nat) (o : Obj) : Prop := H b = some o ∨ (b, o) ∈ L
def Rd (H : HeapP) (L : List (Nat × Obj)) (size : Nat) (v : Value) (n : Nat) (xs : List Value) : Prop :=
  xs.length = n * size ∧ ((∃ a cap, v = .slice a n cap ∧ n = 0) ∨
    ∃ b o cap cs t fr, v = .slice (some ⟨b, o, none⟩) n cap ∧ n ≤ cap ∧ Blk H L b (.cells cs t fr) ∧ ∀ j u, xs[j]? = some u → cs.toList[o + j]? = some u)
theorem Rd.mono {H H' : HeapP} {L L' : List (Nat × Obj)} {size : Nat} {v : Value} {n : Nat} {xs : List Value} (h : Rd H L size v n xs) (hH : HLe H H') (hL : L ⊆ L') : Rd H' L' size v n xs := by
  refine ⟨h.1, h.2.imp id ?_⟩
  rintro ⟨b, o, cap, cs, t, fr, h1, h2, h3, h4⟩
  exact ⟨b, o, cap, cs, t, fr, h1, h2, h3.imp (fun h => hH _ _ h) (fun h => hL h), h4⟩
theorem Rd.slice {H : HeapP} {L : List (Nat × Obj)} {size : Nat} {v : Value} {n : Nat} {xs : List Value} (h : Rd H L size v n xs) : ∃ a cap, v = .slice a n cap ∧ n ≤ cap := by
  rcases h.2 with ⟨a, cap, rfl, rfl⟩ | ⟨b, o, cap, cs, t, fr, rfl, h1, _⟩
  · exact ⟨a, cap, rfl, Nat.zero_le _⟩
  · exact ⟨_, cap, rfl, h1⟩
theorem OwnR.rd {H : HeapP} {L R : List (Nat × Obj)} {e : TypeId} {size : Nat} {v : Value} {n : Nat} {xs : List Value} (h : OwnR e size v n xs R) (hL : R ⊆ L) : Rd H L size v n xs := by
  refine ⟨h.1, h.2.imp (fun h => ⟨none, 0, by rw [h.2.1]; exact h.1, h.2.1⟩) ?_⟩
  rintro ⟨g, cap, cur, h1, h2, h3, h4, h5, rfl⟩
  refine ⟨g, 0, cap, cur, e, _, h1, h2, .inr (hL (List.mem_singleton.2 rfl)), fun j u hu => ?_⟩
  rw [← h5, List.getElem?_take] at hu
  split at hu
  · rwa [Nat.zero_add]
  · cases hu
section
variable {P : Program} {ρ : Env} {A : World → Prop} {ty : TypeId} {w0 : World} {H : HeapP} {L : List (Nat × Obj)}
theorem St.blk {w : World} (h : St w0 H L w) {b : Nat} {o : Obj} (hb : Blk H L b o) : w.heap[b]? = some o := hb.elim (fun e => h.imm _ _ e) (fun e => (h.own _ e).1)
theorem T_appendR {R : List (Nat × Obj)} {s x : Operand} {t e : TypeId} {z : Value} {size bytes : Nat} (ht : P.underlying t = some (.slice e)) (hi : (P.info? e).map (fun i => (i.zero, i.size, i.bytes)) = some (some z, size, bytes)) (hzs : z.cells.size = size) (hsz : 0 < size)
    {v : Value} {n : Nat} {xs : List Value} (hown : OwnR e size v n xs R) (hs : evalE ρ s = v) {vx : Value} {m : Nat} {news : List Value} (hr : Rd H (R ++ L) size vx m news) (hx : evalE ρ x = vx) (h1 : ∀ u ∈ news, u.oneCell' = true)
    (h63 : n + m ≤ maxLen) (hbytes : (n + m) * bytes ≤ 140737488355328) :
    OpT P ρ (.call { callee := .builtin .append, args := #[s, x], argTypes := #[t, t] }) ty (St w0 H (R ++ L))
      fun v' w => ∃ q : Value × List (Nat × Obj), v' = q.1 ∧ (OwnR e size q.1 (n + m) (xs ++ news) q.2 ∧ St w0 H (q.2 ++ L) w) := by
  rcases hr.2 with ⟨a, capx, rfl, rfl⟩ | ⟨b, o, cap, cs, t', fr, rfl, hc, hb, hcs⟩
  · have hn : news = [] := List.eq_nil_of_length_eq_zero (by simpa using hr.1)
    subst hn
    cases a with
    | some a => exact T_append ht hi hzs hsz hs hown hx (by simp) (fun w hw j u hu => by simp at hu) h1 h63 hbytes
    | none =>
      obtain ⟨i, hi', hzz⟩ := Option.map_eq_some_iff.1 hi
      simp only [Prod.mk.injEq] at hzz
      obtain ⟨hz, rfl, rfl⟩ := hzz
      intro d pos af g w hw
      have key : (Builtin.append_ #[t, t] ty #[v, .slice none 0 capx]).run P w = .ok v w := by
        rcases hown.2 with ⟨rfl, rfl, rfl⟩ | ⟨gb, cap, cur, rfl, hnc, hcm, hcs, htake, rfl⟩
        · simp [Builtin.append_, run_underlying ht, sizeOf, typeInfo, hi', Builtin.lenOf, Builtin.firstCells, loadCells, loadCellsFrom]
        · simp [Builtin.append_, run_underlying ht, sizeOf, typeInfo, hi', Builtin.lenOf, Builtin.firstCells, loadCells, loadCellsFrom, hnc, storeCells, go_sem]
      have e1 : (execOp (evalE ρ) ⟨d, .call { callee := .builtin .append, args := #[s, x], argTypes := #[t, t] }, ty, pos, af, g⟩).run P w = .ok (.value v) w := by
        have key' : (Builtin.append_ #[t, t] ty #[v, .slice none 0 capx]).run P w = .ok v w := key
        unfold execOp
        simp only [resolve, invoke, builtin, Sem.run_bind, Sem.run_pure, Result.andThen_ok, List.map_toArray, List.map_cons, List.map_nil, hs, hx, key']
      rw [e1]
      refine ⟨(v, R), rfl, ?_, hw⟩
      rw [List.append_nil]
      exact hown
  · refine T_append ht hi hzs hsz hs hown hx hr.1 (fun w hw j u hu => ?_) h1 h63 hbytes
    have ha : (⟨b, o, none⟩ : Addr).add j = ⟨b, o + j, none⟩ := by
      unfold Addr.add; split
      · rename_i e; simp [e]
      · rfl
    rw [ha]
    exact cell_of_heap (hw.blk hb) (by simpa using hcs j u hu)
end
section
variable {P : Program} {ρ : Env} {A : World → Prop} {ty : TypeId}
theorem P_eqB {x y : Operand} {t u : TypeId} {a b : Bool} (ht : P.underlying t = some .bool) (h1 : evalE ρ x = .bool a) (h2 : evalE ρ y = .bool b) : OpP P ρ (.binOp .eql t x y u) ty A (.bool (a == b)) := by
  intro d pos af g w _; simp [execOp, eqGuard, binOp, h1, h2, run_equal_bool w t a b ht, go_sem]
theorem P_neB {x y : Operand} {t u : TypeId} {a b : Bool} (ht : P.underlying t = some .bool) (h1 : evalE ρ x = .bool a) (h2 : evalE ρ y = .bool b) : OpP P ρ (.binOp .neq t x y u) ty A (.bool (a != b)) := by
  intro d pos af g w _; simp [execOp, eqGuard, binOp, h1, h2, run_equal_bool w t a b ht, bne, go_sem]
theorem P_eqslice_nil {x y : Operand} {t e u : TypeId} {p : Option Addr} {l c : Nat} (ht : P.underlying t = some (.slice e)) (h1 : evalE ρ x = .slice p l c) (h2 : evalE ρ y = .slice none 0 0) : OpP P ρ (.binOp .eql t x y u) ty A (.bool p.isNone) := by
  intro d pos af g w _
  simp [execOp, eqGuard, binOp, h1, h2, run_equal_slice_nil w t e p l c ht, go_sem]
theorem P_neslice_nil {x y : Operand} {t e u : TypeId} {p : Option Addr} {l c : Nat} (ht : P.underlying t = some (.slice e)) (h1 : evalE ρ x = .slice p l c) (h2 : evalE ρ y = .slice none 0 0) : OpP P ρ (.binOp .neq t x y u) ty A (.bool (!p.isNone)) := by
  intro d pos af g w _
  simp [execOp, eqGuard, binOp, h1, h2, run_equal_slice_nil w t e p l c ht, go_sem]
end
theorem Tr.conv {P : Program} {f : FuncId} {args : Array Value} {A A' : World → Prop} {τ τ' : Type} {val : τ → Value} {val' : τ' → Value} {B : τ → World → Prop} {B' : τ' → World → Prop} (h : Tr P f args A val B)
    (hA : ∀ w, A' w → A w) (hB : ∀ x w, B x w → ∃ x', val x = val' x' ∧ B' x' w) : Tr P f args A' val' B' := by
  intro w hw
  refine (h w (hA w hw)).mono ?_
  rintro e w' ⟨x, he, hb⟩
  obtain ⟨x', h1, h2⟩ := hB x w' hb
  exact ⟨x', by rw [he, h1], h2⟩
theorem TrP.pre {P : Program} {f : FuncId} {args : Array Value} {A A' : World → Prop} {v : Value} (h : TrP P f args A v) (hA : ∀ w, A' w → A w) : TrP P f args A' v := fun w hw => h w (hA w hw)
end Go.Fw
namespace Go.Fw
open Go Go.RowKit
set_option linter.unusedVariables false
set_option linter.unusedSimpArgs false
theorem QQ.pre {Q : Hnd} {e : Exit} {ρ : Env} {p : Prop} {A : World → Prop} (k : p → QQ Q e ρ A) : QQ Q e ρ (fun w => p ∧ A w) := fun w ⟨hp, hA⟩ => k hp w hA
def YTr (P : Program) (l : Nat) (args : Array Value) (A : World → Prop) {τ : Type} (val : τ → Value) (B : τ → World → Prop) : Prop :=
  ∀ w, A w → ∃ fn tmps as_ bd, (Instr.yield l args).run P w = .ok (.round l fn tmps as_ bd) w ∧ RoundIn Fence.wide 0 P l fn tmps as_ bd w fun e w' => ∃ x, e = .returned (val x) ∧ B x w'
theorem YTr.conv {P : Program} {l : Nat} {args : Array Value} {A A' : World → Prop} {τ τ' : Type} {val : τ → Value} {val' : τ' → Value} {B : τ → World → Prop} {B' : τ' → World → Prop} (h : YTr P l args A val B)
    (hA : ∀ w, A' w → A w) (hB : ∀ x w, B x w → ∃ x', val x = val' x' ∧ B' x' w) : YTr P l args A' val' B' := by
  intro w hw
  obtain ⟨fn, tmps, as_, bd, h1, h2⟩ := h w (hA w hw)
  refine ⟨fn, tmps, as_, bd, h1, h2.mono ?_⟩
  rintro e w' ⟨x, he, hb⟩
  obtain ⟨x', h1, h2⟩ := hB x w' hb
  exact ⟨x', by rw [he, h1], h2⟩
section
variable {P : Program} {ρ : Env} {A : World → Prop} {ty : TypeId}
theorem T_yield {c : Operand} {l : Nat} {args : Array Operand} {argTypes : Array TypeId} {τ : Type} {val : τ → Value} {B : τ → World → Prop} (hc : YTr P l (args.map (evalE ρ)) A val B) (hv : evalE ρ c = .func (.yield l) #[] #[]) :
    OpT P ρ (.call { callee := .value c, args := args, argTypes := argTypes }) ty A fun v w => ∃ x, v = val x ∧ B x w := by
  intro d pos af g w hA
  obtain ⟨fn, tmps, as_, bd, h1, h2⟩ := hc w hA
  have e : (execOp (evalE ρ) ⟨d, .call { callee := .value c, args := args, argTypes := argTypes }, ty, pos, af, g⟩).run P w = .ok (.round l fn tmps as_ bd) w := by
    simp [execOp, resolve, hv, Deferred.ofValue, invoke, h1, go_sem]
  rw [e]
  refine h2.mono ?_
  rintro e w' ⟨x, rfl, hB⟩
  exact ⟨_, rfl, x, rfl, hB⟩
end
def IsRec (rc : LoopState → Option Code → Obj) (N : Nat) (ρ : Env) (ps : Array Tmp) (as_ bd : Code) (D : Nat) : Prop :=
  ∃ fn tmps, tmps.size = N ∧ (∀ i, tmps.getD i undef = ρ.f i) ∧ rc = fun st pe => .loop ⟨st, pe, fn, tmps, ps, as_, bd, D⟩
def midQ (P : Program) (l N : Nat) (rc : LoopState → Option Code → Obj) (bd : Code) (Q : Hnd) : Hnd
  | .normal, ρ, w => w.heap[l]? = some (rc .ready none) ∧ WPA (some l) P N bd Q ρ (fun u => u = w.putObj l (rc .busy none))
  | _, _, _ => False
def rndQ (l : Nat) (rc : LoopState → Option Code → Obj) (R : Bool → World → Prop) : Hnd
  | .normal, _, w => w.heap[l]? = some (rc .busy none) ∧ R true (w.putObj l (rc .ready none))
  | .ret, _, w => w.heap[l]? = some (rc .busy none) ∧ R false (w.putObj l (rc .done (some .ret)))
  | .exit id, _, w => w.heap[l]? = some (rc .busy none) ∧ R false (w.putObj l (rc .done (some (.exit id))))
  | _, _, _ => False
section
variable {P : Program} {w0 : World} {H : HeapP} {L : List (Nat × Obj)} {rc : LoopState → Option Code → Obj}
theorem St.putObj {w : World} {l : Nat} {o : Obj} (h : St w0 H ((l, o) :: L) w) (o' : Obj) : St w0 H ((l, o') :: L) (w.putObj l o') := by
  have hl : l < w.heap.size := (Array.getElem?_eq_some_iff.1 (h.at_ (j := 0) rfl)).1
  refine h.put (j := 0) (b := l) (o := o) (o' := o') rfl (w' := w.putObj l o') (fun k => ?_) (by simp) rfl rfl rfl (Nat.le_refl _)
  by_cases hk : k = l
  · subst hk; rw [if_pos rfl]; exact World.putObj_heap_same hl
  · rw [if_neg hk]; exact World.putObj_heap_other hk
theorem YTr.of {l N : Nat} {ps : Array Tmp} {as_ bd : Code} {D : Nat} {args : Array Value} {ρ ρ1 : Env} {τ : Type} {B : τ → World → Prop} {val : τ → Bool} (hrc : IsRec rc N ρ ps as_ bd D)
    (hag : ∀ tmps : Array Value, tmps.size = N → (∀ i, tmps.getD i undef = ρ.f i) → Agree N ρ1 { tmps := (ps.zip args).foldl (fun t (p, v) => t.setIfInBounds p v) tmps, defers := [] } []) (hps : args.size = ps.size)
    (h : WPA (some l) P N as_ (midQ P l N rc bd (rndQ l rc fun b w => ∃ x, val x = b ∧ B x w)) ρ1 (St w0 H ((l, rc .ready none) :: L))) :
    YTr P l args (St w0 H ((l, rc .ready none) :: L)) (fun x => .bool (val x)) B := by
  obtain ⟨fn, tmps, hs, hg, rfl⟩ := hrc
  intro w hw
  have hl := hw.at_ (j := 0) rfl
  refine ⟨fn, _, as_, bd, run_yield hl hps, roundIn_of_wpIn (F := Fence.wide) trivial ?_⟩
  refine wpIn_mono (h (0, []) _ w (hag tmps hs hg) hw) ?_
  intro e a w1 hq
  cases e with
  | normal =>
    obtain ⟨ρ1, ha1, hl1, hb⟩ := hq
    refine ⟨_, run_beginRound hl1 rfl, wpIn_mono (hb (0, []) a _ ha1 rfl) ?_⟩
    intro e a2 w2 hq2
    cases e with
    | normal =>
      obtain ⟨_, _, hr, x, hx, hB⟩ := hq2
      exact ⟨_, _, run_endRound none hr, x, (by show _ = Ending.returned (.bool (val x)); rw [hx]; rfl), hB⟩
    | ret =>
      obtain ⟨_, _, hr, x, hx, hB⟩ := hq2
      exact ⟨_, _, run_endRound (some .ret) hr, x, (by show _ = Ending.returned (.bool (val x)); rw [hx]; rfl), hB⟩
    | exit id =>
      obtain ⟨_, _, hr, x, hx, hB⟩ := hq2
      exact ⟨_, _, run_endRound (some (.exit id)) hr, x, (by show _ = Ending.returned (.bool (val x)); rw [hx]; rfl), hB⟩
    | goto t => obtain ⟨_, _, hf⟩ := hq2; exact hf.elim
    | panic c => obtain ⟨_, _, hf⟩ := hq2; exact hf.elim
    | outgrown => exact hq2.elim
  | ret => obtain ⟨_, _, hf⟩ := hq; exact hf.elim
  | exit id => obtain ⟨_, _, hf⟩ := hq; exact hf.elim
  | goto t => obtain ⟨_, _, hf⟩ := hq; exact hf.elim
  | panic c => obtain ⟨_, _, hf⟩ := hq; exact hf.elim
  | outgrown => exact hq.elim
theorem agree2 {N : Nat} {ρ : Env} {p q : Nat} {v u : Value} (tmps : Array Value) (hs : tmps.size = N) (hag : ∀ i, tmps.getD i undef = ρ.f i) :
    Agree N (upd N (upd N ⟨ρ.f, []⟩ p v) q u) { tmps := (#[p, q].zip #[v, u]).foldl (fun t (p, v) => t.setIfInBounds p v) tmps, defers := [] } [] := by
  have h0 : Agree N ⟨ρ.f, []⟩ { tmps := tmps, defers := [] } [] := ⟨hs, hag, rfl⟩
  have := (h0.put (some p) v).put (some q) u
  simpa [Act.put, updO] using this
def jumpQ (Q : Hnd) (ρ : Env) (A : World → Prop) : Option Code → Prop
  | none => QQ Q .normal ρ A
  | some .ret => QQ Q .ret ρ A
  | some (.exit id) => QQ Q (.exit id) ρ A
  | _ => False
theorem WPA.range {N : Nat} {g : Operand} {ps : Array Tmp} {as_ bd : Code} {Q : Hnd} {ρ : Env} {gf : FuncId} {caps : List Value} (hg : evalE ρ g = .func (.func gf) #[] caps.toArray) (hf : callable P gf = true)
    (h : ∀ (D : Nat) (rc : LoopState → Option Code → Obj), IsRec rc N ρ ps as_ bd D →
      ∃ (τ : Type) (val : τ → Value) (st : τ → LoopState) (jump : τ → Option Code) (L' : τ → List (Nat × Obj)),
        Tr P gf (List.toArray (.func (.yield (D + 1)) #[] #[] :: caps)) (St w0 H ((D + 1, rc .ready none) :: (D, .deferred (some [])) :: L)) val
          (fun x => St w0 H ((D + 1, rc (st x) (jump x)) :: L' x)) ∧
        ∀ x, st x ≠ .busy ∧ jumpQ Q ⟨ρ.f, D :: ρ.ms⟩ (St w0 H (L' x)) (jump x)) :
    WPA none P N (.rangeFunc g ps as_ bd) Q ρ (St w0 H L) := by
  intro m a w ha hw
  refine wpIn_rangeFunc fun fn _ => ?_
  obtain ⟨τ, val, st, jump, L', hT, hk⟩ := h w.heap.size _ ⟨fn, a.tmps, ha.sz, ha.get, rfl⟩
  have hw1 := (hw.push (.deferred (some []))).push (.loop ⟨.ready, none, fn, a.tmps, ps, as_, bd, w.heap.size⟩)
  have hs1 : (w.heap.push (.deferred (some []))).size = w.heap.size + 1 := by simp
  simp only [hs1] at hw1
  have hen := run_enterLoop_outer (P := P) (w := w) fn a.tmps ps as_ bd
  have hw1' : St w0 H ((w.heap.size + 1, .loop ⟨.ready, none, fn, a.tmps, ps, as_, bd, w.heap.size⟩) :: (w.heap.size, .deferred (some [])) :: L) ((w.alloc (.deferred (some []))).alloc (.loop ⟨.ready, none, fn, a.tmps, ps, as_, bd, w.heap.size⟩)) := hw1
  generalize (w.alloc (.deferred (some []))).alloc (.loop ⟨.ready, none, fn, a.tmps, ps, as_, bd, w.heap.size⟩) = W1 at hen hw1'
  have hg' : a.eval g = .func (.func gf) #[] caps.toArray := by rw [ha.eval]; exact hg
  refine ⟨w.heap.size + 1, [{ target := .collected w.heap.size, args := #[] }], W1, { target := .fn (.func gf) caps.toArray, args := #[.func (.yield (w.heap.size + 1)) #[] #[]] }, W1, gf,
    #[.func (.yield (w.heap.size + 1)) #[] #[]] ++ caps.toArray, W1, hen, ?_, fun _ _ => trivial, ?_, fun h => (by cases h), ?_⟩
  · simp only [resolve, hg']
    simp [go_sem, Deferred.ofValue]
  · simp [invoke, go_sem, run_callFunc hf]
  · have e : (#[.func (.yield (w.heap.size + 1)) #[] #[]] ++ caps.toArray : Array Value) = List.toArray (.func (.yield (w.heap.size + 1)) #[] #[] :: caps) := by simp
    rw [e]
    have hc : CallsIn (FR none) (m.1 - 1) P gf _ _ _ := callsIn_wide.2 (hT _ hw1')
    refine hc.mono ?_
    rintro e w3 ⟨x, rfl, hB⟩
    obtain ⟨hst, hj⟩ := hk x
    have hl := hB.at_ (j := 0) rfl
    refine ⟨_, _, run_endLoop hl hst, ?_⟩
    have hB2 := (hB.putObj (.loop { (⟨st x, jump x, fn, a.tmps, ps, as_, bd, w.heap.size⟩ : Loop) with state := .exhausted })).drop (List.sublist_cons_self ..)
    have ha2 : Agree N ⟨ρ.f, w.heap.size :: ρ.ms⟩ { a with defers := [{ target := .collected w.heap.size, args := #[] }] ++ a.defers } m.2 := ⟨ha.sz, ha.get, by show _ :: a.defers = _; rw [ha.df]; rfl⟩
    generalize jump x = j at hj hB2 hB hl ⊢
    unfold jumpQ at hj
    split at hj
    · exact ⟨_, ha2, hj _ hB2⟩
    · exact wpIn_ret ⟨_, ha2, hj _ hB2⟩
    · exact wpIn_exit ⟨_, ha2, hj _ hB2⟩
    · exact hj.elim
end
section
variable {P : Program} {ρ : Env} {A : World → Prop} {ty : TypeId}
theorem run_equalIn_func_nil (w : World) (d : Nat) (t : TypeId) {f : Fn} {ts cs : Array Value} {a c : Array TypeId} {b : Bool} (ht : P.underlying t = some (.func a c b)) : (Op.equalIn (d + 1) t (.func f ts cs) .nilFunc).run P w = .ok false w := by
  simp [Op.equalIn, run_underlying ht]
theorem P_eqfunc_nil {x y : Operand} {t u : TypeId} {f : Fn} {ts cs : Array Value} {a c : Array TypeId} {b : Bool} (ht : P.underlying t = some (.func a c b)) (h1 : evalE ρ x = .func f ts cs) (h2 : evalE ρ y = .nilFunc) : OpP P ρ (.binOp .eql t x y u) ty A (.bool false) := by
  intro d pos af g w _
  have e : (Op.equal t (.func f ts cs) .nilFunc).run P w = .ok false w := run_equalIn_func_nil w 9999 t ht
  simp [execOp, eqGuard, binOp, h1, h2, e, go_sem]
end
end Go.Fw
namespace Go.Fw
open Go Go.RowKit
set_option linter.unusedVariables false
set_option linter.unusedSimpArgs false
section
variable {P : Program} {ρ : Env} {A : World → Prop} {ty : TypeId}
theorem P_max {x y : Operand} {ts : Array TypeId} {k : IntKind} {a b : Int} (h1 : evalE ρ x = .int k a) (h2 : evalE ρ y = .int k b) : OpP P ρ (.call { callee := .builtin .max, args := #[x, y], argTypes := ts }) ty A (.int k (max a b)) := by
  intro d pos af g w _
  have e : max a b = if b > a then b else a := by split <;> omega
  rw [e]
  simp [execOp, resolve, invoke, builtin, h1, h2, Builtin.max_, Builtin.max2, go_sem]
theorem P_min {x y : Operand} {ts : Array TypeId} {k : IntKind} {a b : Int} (h1 : evalE ρ x = .int k a) (h2 : evalE ρ y = .int k b) : OpP P ρ (.call { callee := .builtin .min, args := #[x, y], argTypes := ts }) ty A (.int k (min a b)) := by
  intro d pos af g w _
  have e : min a b = if b < a then b else a := by split <;> omega
  rw [e]
  simp [execOp, resolve, invoke, builtin, h1, h2, Builtin.min_, Builtin.min2, go_sem]
end
theorem fold_size (vs : List Value) : ∀ (cs : Array Value) (i : Nat), (vs.foldl (fun (p : Array Value × Nat) v => (p.1.setIfInBounds p.2 v, p.2 + 1)) (cs, i)).1.size = cs.size := by
  induction vs with
  | nil => intro cs i; rfl
  | cons v vs ih => intro cs i; simp only [List.foldl_cons]; rw [ih]; simp
section
variable {P : Program} {ρ : Env} {ty : TypeId} {w0 : World} {H : HeapP} {L R : List (Nat × Obj)}
theorem T_clearR {x : Operand} {t e : TypeId} {z : Value} {size bytes : Nat} (ht : P.underlying t = some (.slice e)) (hi : (P.info? e).map (fun i => (i.zero, i.size, i.bytes)) = some (some z, size, bytes)) (hzs : z.cells.size = size) (hz1 : ∀ u ∈ (Builtin.zeroCells z.cells 1).toList, u.oneCell' = true) (hz2 : ∀ n, ∀ u ∈ (Builtin.zeroCells z.cells n).toList, u.oneCell' = true)
    {v : Value} {n : Nat} {xs : List Value} (hown : OwnR e size v n xs R) (hx : evalE ρ x = v) :
    OpT P ρ (.call { callee := .builtin .clear, args := #[x], argTypes := #[t] }) ty (St w0 H (R ++ L)) fun u w => ∃ q : List Value × List (Nat × Obj), u = .tuple #[] ∧ (OwnR e size v n q.1 q.2 ∧ St w0 H (q.2 ++ L) w) := by
  obtain ⟨i, hi', hzz⟩ := Option.map_eq_some_iff.1 hi
  simp only [Prod.mk.injEq] at hzz
  obtain ⟨hz, rfl, rfl⟩ := hzz
  intro d pos af g w hw
  rcases hown.2 with ⟨rfl, rfl, rfl⟩ | ⟨gb, cap, cur, rfl, hnc, hcm, hcs, htake, rfl⟩
  · have e1 : (execOp (evalE ρ) ⟨d, .call { callee := .builtin .clear, args := #[x], argTypes := #[t] }, ty, pos, af, g⟩).run P w = .ok (.value (.tuple #[])) w := by
      simp [execOp, resolve, invoke, builtin, hx, Builtin.clear_, run_underlying ht, go_sem]
    rw [e1]
    exact ⟨([], []), rfl, OwnR.nil _ _, hw⟩
  · by_cases h0 : n = 0
    · subst h0
      have e1 : (execOp (evalE ρ) ⟨d, .call { callee := .builtin .clear, args := #[x], argTypes := #[t] }, ty, pos, af, g⟩).run P w = .ok (.value (.tuple #[])) w := by
        simp [execOp, resolve, invoke, builtin, hx, Builtin.clear_, run_underlying ht, go_sem]
      rw [e1]
      exact ⟨(xs, _), rfl, hown, hw⟩
    · have hlen : (Builtin.zeroCells z.cells n).toList.length = n * i.size := by rw [Array.length_toList, size_zeroCells, hzs]
      obtain ⟨w', h2, h3⟩ := run_storeMany (P := P) (w := w) (j := 0) (Builtin.zeroCells z.cells n).toList cur 0 0 w _ hw rfl (by rw [hlen, hcs]; have := Nat.mul_le_mul_right i.size hnc; omega) (hz2 n)
      have hzr : (zeroValue e).run P w = .ok z w := by simp [zeroValue, typeInfo, hi', hz, go_sem]
      have e1 : (execOp (evalE ρ) ⟨d, .call { callee := .builtin .clear, args := #[x], argTypes := #[t] }, ty, pos, af, g⟩).run P w = .ok (.value (.tuple #[])) w' := by
        obtain ⟨m, rfl⟩ : ∃ m, n = m + 1 := ⟨n - 1, by omega⟩
        have key : (Builtin.clear_ #[t] ty #[.slice (some ⟨gb, 0, none⟩) (m + 1) cap]).run P w = .ok (.tuple #[]) w' := by
          unfold Builtin.clear_
          simp only [List.getElem?_toArray, List.getElem?_cons_zero, Sem.run_bind, run_underlying ht, Result.andThen_ok, hzr, h2, Sem.run_pure]
        simp only [execOp, resolve, invoke, builtin, Sem.run_bind, Sem.run_pure, Result.andThen_ok, List.map_toArray, List.map_cons, List.map_nil, hx, key]
      rw [e1]
      exact ⟨(_, [(gb, _)]), rfl, ⟨by rw [List.length_take, Array.length_toList, fold_size, hcs]; have := Nat.mul_le_mul_right i.size hnc; omega, .inr ⟨gb, cap, _, rfl, hnc, hcm, by rw [fold_size, hcs], rfl, rfl⟩⟩, h3⟩
end
end Go.Fw
