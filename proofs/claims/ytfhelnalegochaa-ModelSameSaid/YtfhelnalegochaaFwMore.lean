/- More rules: decided tests, slices that are held alone, append, literals. Conditions: none. -/
import Derived.Test.YtfhelnalegochaaFwDraw
namespace Go.Fw
open Go Go.RowKit
set_option linter.unusedVariables false
set_option linter.unusedSimpArgs false

section
variable {ro : Option Nat} {P : Program} {n : Nat} {Q : Hnd} {ρ : Env} {A : World → Prop}
theorem WPA.condT {c : Operand} {x y : Code} {p : Prop} [Decidable p] (hc : evalE ρ c = .bool (decide p)) (hp : p) (h : WPA ro P n x Q ρ A) : WPA ro P n (.cond c x y) Q ρ A := WPA.cond hc (fun _ => h) (fun k => absurd hp k)
theorem WPA.condF {c : Operand} {x y : Code} {p : Prop} [Decidable p] (hc : evalE ρ c = .bool (decide p)) (hp : ¬ p) (h : WPA ro P n y Q ρ A) : WPA ro P n (.cond c x y) Q ρ A := WPA.cond hc (fun k => absurd k hp) (fun _ => h)
theorem WPA.condTrue {c : Operand} {x y : Code} (hc : evalE ρ c = .bool true) (h : WPA ro P n x Q ρ A) : WPA ro P n (.cond c x y) Q ρ A := WPA.condB hc (fun _ => h) (fun k => by cases k)
theorem WPA.condFalse {c : Operand} {x y : Code} (hc : evalE ρ c = .bool false) (h : WPA ro P n y Q ρ A) : WPA ro P n (.cond c x y) Q ρ A := WPA.condB hc (fun k => by cases k) (fun _ => h)
theorem WLA.isT {ops : Array Oper} {rest : List Oper} {dst : Option Tmp} {op : Op} {ty : TypeId} {pos : String} {af : Array Edge} {j : Nat} {b : Bool} {p : Prop} [Decidable p]
    (_hy : yieldedE n ops ρ j = some (decide p)) (_hp : p) (k : WLA ro P n ops Q (⟨dst, op, ty, pos, af, some (j, b)⟩ :: rest) ρ A) : WLA ro P n ops Q (⟨dst, op, ty, pos, af, some (j, b)⟩ :: rest) ρ A := k
theorem WLA.isF {ops : Array Oper} {rest : List Oper} {dst : Option Tmp} {op : Op} {ty : TypeId} {pos : String} {af : Array Edge} {j : Nat} {b : Bool} {p : Prop} [Decidable p]
    (_hy : yieldedE n ops ρ j = some (decide p)) (_hp : ¬ p) (k : WLA ro P n ops Q (⟨dst, op, ty, pos, af, some (j, b)⟩ :: rest) ρ A) : WLA ro P n ops Q (⟨dst, op, ty, pos, af, some (j, b)⟩ :: rest) ρ A := k
end
section
variable {ro : Option Nat} {P : Program} {N n i : Nat} {ops : Array Oper} {Q : Hnd} {T : World → Prop} {ρ : Env} {A : World → Prop} {r : Plan} {dst : Option Tmp} {op : Op} {ty : TypeId} {pos : String} {af : Array Edge} {j : Nat} {b : Bool} {p : Prop} [Decidable p]
theorem WDA.isT (_hi : ops[i]? = some ⟨dst, op, ty, pos, af, some (j, b)⟩) (_hy : yieldedE N ops ρ j = some (decide p)) (_hp : p) (k : WDA ro P N ops Q T n (.q i r) ρ A) : WDA ro P N ops Q T n (.q i r) ρ A := k
theorem WDA.isF (_hi : ops[i]? = some ⟨dst, op, ty, pos, af, some (j, b)⟩) (_hy : yieldedE N ops ρ j = some (decide p)) (_hp : ¬ p) (k : WDA ro P N ops Q T n (.q i r) ρ A) : WDA ro P N ops Q T n (.q i r) ρ A := k
theorem WDA.splitq (_hi : ops[i]? = some ⟨dst, op, ty, pos, af, some (j, b)⟩) (_hy : yieldedE N ops ρ j = some (decide p)) (kt : p → WDA ro P N ops Q T n (.q i r) ρ A) (kf : ¬ p → WDA ro P N ops Q T n (.q i r) ρ A) : WDA ro P N ops Q T n (.q i r) ρ A := WDA.split kt kf
theorem WDA.splite (_hi : ops[i]? = some ⟨dst, op, ty, pos, af, some (j, b)⟩) (_hy : yieldedE N ops ρ j = some (decide p)) (kt : p → WDA ro P N ops Q T n (.e i r) ρ A) (kf : ¬ p → WDA ro P N ops Q T n (.e i r) ρ A) : WDA ro P N ops Q T n (.e i r) ρ A := WDA.split kt kf
end

/-! ### The step of a plan, its operation laid open -/
def WDQ (ro : Option Nat) (P : Program) (N : Nat) (ops : Array Oper) (Q : Hnd) (T : World → Prop) (n : Nat) (o : Oper) (r : Plan) (ρ : Env) (A : World → Prop) : Prop := ∀ i, ops[i]? = some o → WDA ro P N ops Q T n (.q i r) ρ A
def WDE (ro : Option Nat) (P : Program) (N : Nat) (ops : Array Oper) (Q : Hnd) (T : World → Prop) (n : Nat) (o : Oper) (r : Plan) (ρ : Env) (A : World → Prop) : Prop := ∀ i, ops[i]? = some o → WDA ro P N ops Q T n (.e i r) ρ A
section
variable {ro : Option Nat} {P : Program} {N n i : Nat} {ops : Array Oper} {Q : Hnd} {T : World → Prop} {o : Oper} {ρ : Env} {A : World → Prop} {r : Plan} {d : Tmp} {op : Op} {ty : TypeId} {pos : String} {af : Array Edge} {g : Option (Nat × Bool)}
theorem WDQ.see (hi : ops[i]? = some o) (h : WDQ ro P N ops Q T n o r ρ A) : WDA ro P N ops Q T n (.q i r) ρ A := h i hi
theorem WDE.see (hi : ops[i]? = some o) (h : WDE ro P N ops Q T n o r ρ A) : WDA ro P N ops Q T n (.e i r) ρ A := h i hi
theorem WDQ.v {v : Value} (hw : Region.wanted ⟨some d, op, ty, pos, af, g⟩ (yieldedE N ops ρ) = true) (h : OpP P ρ op ty A v) (k : WDA ro P N ops Q T n r (upd N ρ d v) A) : WDQ ro P N ops Q T n ⟨some d, op, ty, pos, af, g⟩ r ρ A :=
  fun _ hi => WDA.v hi hw h k
theorem WDQ.off (hw : Region.wanted ⟨some d, op, ty, pos, af, g⟩ (yieldedE N ops ρ) = false) (k : WDA ro P N ops Q T n r (upd N ρ d undef) A) : WDQ ro P N ops Q T n ⟨some d, op, ty, pos, af, g⟩ r ρ A :=
  fun _ hi => WDA.off hi hw k
theorem WDQ.cV {c : Operand} {f : FuncId} {caps : List Value} {x1 : Operand} {v1 v : Value} {argTypes : Array TypeId}
    (hw : Region.wanted ⟨some d, .call { callee := .value c, args := #[x1], argTypes := argTypes }, ty, pos, af, g⟩ (yieldedE N ops ρ) = true) (hf : callable P f = true) (hc : TrP P f (List.toArray (v1 :: caps)) A v)
    (hv : evalE ρ c = .func (.func f) #[] caps.toArray) (h1 : evalE ρ x1 = v1) (k : WDA ro P N ops Q T n r (upd N ρ d v) A) : WDQ ro P N ops Q T n ⟨some d, .call { callee := .value c, args := #[x1], argTypes := argTypes }, ty, pos, af, g⟩ r ρ A :=
  fun _ hi => WDA.cV hi hw hf hc hv h1 k
theorem WDQ.c {f : FuncId} {args : Array Operand} {vs : Array Value} {v : Value} {argTypes : Array TypeId}
    (hw : Region.wanted ⟨some d, .call { callee := .value (.func f), args := args, argTypes := argTypes }, ty, pos, af, g⟩ (yieldedE N ops ρ) = true) (hf : callable P f = true) (hc : TrP P f vs A v) (h1 : args.map (evalE ρ) = vs)
    (k : WDA ro P N ops Q T n r (upd N ρ d v) A) : WDQ ro P N ops Q T n ⟨some d, .call { callee := .value (.func f), args := args, argTypes := argTypes }, ty, pos, af, g⟩ r ρ A :=
  fun _ hi => WDA.c hi hw hf hc h1 k
theorem WDQ.c_0 {f : FuncId} {v : Value} {argTypes : Array TypeId}
    (hw : Region.wanted ⟨some d, .call { callee := .value (.func f), args := #[], argTypes := argTypes }, ty, pos, af, g⟩ (yieldedE N ops ρ) = true) (hf : callable P f = true) (hc : TrP P f #[] A v) 
    (k : WDA ro P N ops Q T n r (upd N ρ d v) A) : WDQ ro P N ops Q T n ⟨some d, .call { callee := .value (.func f), args := #[], argTypes := argTypes }, ty, pos, af, g⟩ r ρ A :=
  WDQ.c hw hf hc (by simp) k
theorem WDQ.c_1 {f : FuncId} {x1 : Operand} {v1 : Value} {v : Value} {argTypes : Array TypeId}
    (hw : Region.wanted ⟨some d, .call { callee := .value (.func f), args := #[x1], argTypes := argTypes }, ty, pos, af, g⟩ (yieldedE N ops ρ) = true) (hf : callable P f = true) (hc : TrP P f #[v1] A v) (h1 : evalE ρ x1 = v1)
    (k : WDA ro P N ops Q T n r (upd N ρ d v) A) : WDQ ro P N ops Q T n ⟨some d, .call { callee := .value (.func f), args := #[x1], argTypes := argTypes }, ty, pos, af, g⟩ r ρ A :=
  WDQ.c hw hf hc (by simp [h1]) k
theorem WDQ.c_2 {f : FuncId} {x1 x2 : Operand} {v1 v2 : Value} {v : Value} {argTypes : Array TypeId}
    (hw : Region.wanted ⟨some d, .call { callee := .value (.func f), args := #[x1, x2], argTypes := argTypes }, ty, pos, af, g⟩ (yieldedE N ops ρ) = true) (hf : callable P f = true) (hc : TrP P f #[v1, v2] A v) (h1 : evalE ρ x1 = v1) (h2 : evalE ρ x2 = v2)
    (k : WDA ro P N ops Q T n r (upd N ρ d v) A) : WDQ ro P N ops Q T n ⟨some d, .call { callee := .value (.func f), args := #[x1, x2], argTypes := argTypes }, ty, pos, af, g⟩ r ρ A :=
  WDQ.c hw hf hc (by simp [h1, h2]) k
theorem WDQ.c_3 {f : FuncId} {x1 x2 x3 : Operand} {v1 v2 v3 : Value} {v : Value} {argTypes : Array TypeId}
    (hw : Region.wanted ⟨some d, .call { callee := .value (.func f), args := #[x1, x2, x3], argTypes := argTypes }, ty, pos, af, g⟩ (yieldedE N ops ρ) = true) (hf : callable P f = true) (hc : TrP P f #[v1, v2, v3] A v) (h1 : evalE ρ x1 = v1) (h2 : evalE ρ x2 = v2) (h3 : evalE ρ x3 = v3)
    (k : WDA ro P N ops Q T n r (upd N ρ d v) A) : WDQ ro P N ops Q T n ⟨some d, .call { callee := .value (.func f), args := #[x1, x2, x3], argTypes := argTypes }, ty, pos, af, g⟩ r ρ A :=
  WDQ.c hw hf hc (by simp [h1, h2, h3]) k
theorem WDQ.c_4 {f : FuncId} {x1 x2 x3 x4 : Operand} {v1 v2 v3 v4 : Value} {v : Value} {argTypes : Array TypeId}
    (hw : Region.wanted ⟨some d, .call { callee := .value (.func f), args := #[x1, x2, x3, x4], argTypes := argTypes }, ty, pos, af, g⟩ (yieldedE N ops ρ) = true) (hf : callable P f = true) (hc : TrP P f #[v1, v2, v3, v4] A v) (h1 : evalE ρ x1 = v1) (h2 : evalE ρ x2 = v2) (h3 : evalE ρ x3 = v3) (h4 : evalE ρ x4 = v4)
    (k : WDA ro P N ops Q T n r (upd N ρ d v) A) : WDQ ro P N ops Q T n ⟨some d, .call { callee := .value (.func f), args := #[x1, x2, x3, x4], argTypes := argTypes }, ty, pos, af, g⟩ r ρ A :=
  WDQ.c hw hf hc (by simp [h1, h2, h3, h4]) k
theorem WDQ.split {dst : Option Tmp} {j : Nat} {b : Bool} {p : Prop} [Decidable p] (_hy : yieldedE N ops ρ j = some (decide p)) (kt : p → WDQ ro P N ops Q T n ⟨dst, op, ty, pos, af, some (j, b)⟩ r ρ A) (kf : ¬ p → WDQ ro P N ops Q T n ⟨dst, op, ty, pos, af, some (j, b)⟩ r ρ A) : WDQ ro P N ops Q T n ⟨dst, op, ty, pos, af, some (j, b)⟩ r ρ A := by
  by_cases h : p
  · exact kt h
  · exact kf h
theorem WDQ.isT {dst : Option Tmp} {j : Nat} {b : Bool} {p : Prop} [Decidable p] (_hy : yieldedE N ops ρ j = some (decide p)) (_hp : p) (k : WDQ ro P N ops Q T n ⟨dst, op, ty, pos, af, some (j, b)⟩ r ρ A) : WDQ ro P N ops Q T n ⟨dst, op, ty, pos, af, some (j, b)⟩ r ρ A := k
theorem WDQ.isF {dst : Option Tmp} {j : Nat} {b : Bool} {p : Prop} [Decidable p] (_hy : yieldedE N ops ρ j = some (decide p)) (_hp : ¬ p) (k : WDQ ro P N ops Q T n ⟨dst, op, ty, pos, af, some (j, b)⟩ r ρ A) : WDQ ro P N ops Q T n ⟨dst, op, ty, pos, af, some (j, b)⟩ r ρ A := k
theorem WDE.ev {τ : Type} {val : τ → Value} {B : τ → World → Prop} (hw : Region.wanted ⟨some d, op, ty, pos, af, g⟩ (yieldedE N ops ρ) = true)
    (h : OpT P ρ op ty A fun v w => ∃ x, v = val x ∧ B x w) (hd : ∀ x, DrC (B x)) (hTB : ∀ x w, B x w → T w) (hm : ∀ x w, B x w → A w) (k : ∀ x, WDA ro P N ops Q T n r (upd N ρ d (val x)) (B x)) : WDE ro P N ops Q T n ⟨some d, op, ty, pos, af, g⟩ r ρ A :=
  fun _ hi => WDA.ev hi hw h hd hTB hm k
theorem WDE.split {dst : Option Tmp} {j : Nat} {b : Bool} {p : Prop} [Decidable p] (_hy : yieldedE N ops ρ j = some (decide p)) (kt : p → WDE ro P N ops Q T n ⟨dst, op, ty, pos, af, some (j, b)⟩ r ρ A) (kf : ¬ p → WDE ro P N ops Q T n ⟨dst, op, ty, pos, af, some (j, b)⟩ r ρ A) : WDE ro P N ops Q T n ⟨dst, op, ty, pos, af, some (j, b)⟩ r ρ A := by
  by_cases h : p
  · exact kt h
  · exact kf h
theorem WDE.isT {dst : Option Tmp} {j : Nat} {b : Bool} {p : Prop} [Decidable p] (_hy : yieldedE N ops ρ j = some (decide p)) (_hp : p) (k : WDE ro P N ops Q T n ⟨dst, op, ty, pos, af, some (j, b)⟩ r ρ A) : WDE ro P N ops Q T n ⟨dst, op, ty, pos, af, some (j, b)⟩ r ρ A := k
theorem WDE.isF {dst : Option Tmp} {j : Nat} {b : Bool} {p : Prop} [Decidable p] (_hy : yieldedE N ops ρ j = some (decide p)) (_hp : ¬ p) (k : WDE ro P N ops Q T n ⟨dst, op, ty, pos, af, some (j, b)⟩ r ρ A) : WDE ro P N ops Q T n ⟨dst, op, ty, pos, af, some (j, b)⟩ r ρ A := k
end

/-! ### More quiet operations -/
section
variable {P : Program} {ρ : Env} {A : World → Prop} {ty : TypeId}
theorem P_cap_slice {x : Operand} {t e : TypeId} {a : Option Addr} {k c : Nat} (ht : P.underlying t = some (.slice e)) (h : evalE ρ x = .slice a k c) :
    OpP P ρ (.call { callee := .builtin .cap, args := #[x], argTypes := #[t] }) ty A (.int .i64 c) := by
  intro d pos af g w _; simp [execOp, resolve, invoke, builtin, h, run_underlying ht, Builtin.cap_, go_sem, goInt]
theorem P_eqpointer_nil {x y : Operand} {t e u : TypeId} {p : Option Addr} (ht : P.underlying t = some (.pointer e)) (h1 : evalE ρ x = .pointer p) (h2 : evalE ρ y = .pointer none) : OpP P ρ (.binOp .eql t x y u) ty A (.bool p.isNone) := by
  intro d pos af g w _
  have hp : P.pointee t = e := by simp [Program.pointee, ht]
  have := run_equal_pointer_nil (P := P) (w := w) t p (by rw [hp]; exact ht)
  simp [execOp, eqGuard, binOp, h1, h2, this, go_sem]
theorem P_neqpointer_nil {x y : Operand} {t e u : TypeId} {p : Option Addr} (ht : P.underlying t = some (.pointer e)) (h1 : evalE ρ x = .pointer p) (h2 : evalE ρ y = .pointer none) : OpP P ρ (.binOp .neq t x y u) ty A (.bool (!p.isNone)) := by
  intro d pos af g w _
  have hp : P.pointee t = e := by simp [Program.pointee, ht]
  have := run_equal_pointer_nil (P := P) (w := w) t p (by rw [hp]; exact ht)
  simp [execOp, eqGuard, binOp, h1, h2, this, go_sem]
theorem P_convIntBi64 {x : Operand} {src dst : TypeId} {k' : IntKind} {a : Int} {dd : TypeDesc} (hs : P.underlying src = some dd) (hd : P.underlying dst = some (.int .i64)) (h : evalE ρ x = .int k' a) (hb : -9223372036854775808 ≤ a ∧ a ≤ 9223372036854775807) :
    OpP P ρ (.convert src dst x) ty A (.int .i64 a) := by have := P_convInt (P := P) (A := A) (ty := ty) hs hd h; rwa [wrap_i64 hb] at this
theorem P_convIntBu64 {x : Operand} {src dst : TypeId} {k' : IntKind} {a : Int} {dd : TypeDesc} (hs : P.underlying src = some dd) (hd : P.underlying dst = some (.int .u64)) (h : evalE ρ x = .int k' a) (hb : 0 ≤ a ∧ a ≤ 18446744073709551615) :
    OpP P ρ (.convert src dst x) ty A (.int .u64 a) := by have := P_convInt (P := P) (A := A) (ty := ty) hs hd h; rwa [wrap_u64 hb] at this
theorem P_convIntBi32 {x : Operand} {src dst : TypeId} {k' : IntKind} {a : Int} {dd : TypeDesc} (hs : P.underlying src = some dd) (hd : P.underlying dst = some (.int .i32)) (h : evalE ρ x = .int k' a) (hb : -2147483648 ≤ a ∧ a ≤ 2147483647) :
    OpP P ρ (.convert src dst x) ty A (.int .i32 a) := by have := P_convInt (P := P) (A := A) (ty := ty) hs hd h; rwa [wrap_i32 hb] at this
theorem P_convIntBu8 {x : Operand} {src dst : TypeId} {k' : IntKind} {a : Int} {dd : TypeDesc} (hs : P.underlying src = some dd) (hd : P.underlying dst = some (.int .u8)) (h : evalE ρ x = .int k' a) (hb : 0 ≤ a ∧ a ≤ 255) :
    OpP P ρ (.convert src dst x) ty A (.int .u8 a) := by have := P_convInt (P := P) (A := A) (ty := ty) hs hd h; rwa [wrap_u8 hb] at this
end

/-! ### A slice held alone -/
/-- v is a slice of n elements (size cells each) over the cells xs; R: the block that is held for it. -/
def OwnR (e : TypeId) (size : Nat) (v : Value) (n : Nat) (xs : List Value) (R : List (Nat × Obj)) : Prop :=
  xs.length = n * size ∧ ((v = .slice none 0 0 ∧ n = 0 ∧ R = []) ∨
    ∃ g cap cur, v = .slice (some ⟨g, 0, none⟩) n cap ∧ n ≤ cap ∧ cap ≤ maxLen ∧ cur.size = cap * size ∧ cur.toList.take (n * size) = xs ∧ R = [(g, .cells cur e (0, 0))])

theorem OwnR.nil (e : TypeId) (size : Nat) : OwnR e size (.slice none 0 0) 0 [] [] := ⟨by simp, .inl ⟨rfl, rfl, rfl⟩⟩
theorem OwnR.slice {e : TypeId} {size : Nat} {v : Value} {n : Nat} {xs : List Value} {R : List (Nat × Obj)} (h : OwnR e size v n xs R) : ∃ a cap, v = .slice a n cap ∧ n ≤ cap := by
  rcases h.2 with ⟨rfl, rfl, _⟩ | ⟨g, cap, cur, rfl, h1, _⟩
  · exact ⟨none, 0, rfl, Nat.le_refl _⟩
  · exact ⟨_, cap, rfl, h1⟩

section
variable {P : Program} {ρ : Env} {ty : TypeId} {w0 : World} {H : HeapP} {L : List (Nat × Obj)}

theorem St.putRow {w : World} {g : Nat} {cur : Array Value} {e : TypeId} (h : St w0 H ((g, .cells cur e (0, 0)) :: L) w) (cs : Array Value) : St w0 H ((g, .cells cs e (0, 0)) :: L) (w.setRow g cs) := by
  have := h.put (j := 0) (b := g) (o := .cells cur e (0, 0)) (o' := .cells cs e (0, 0)) rfl (w' := w.setRow g cs) (fun k => ?_) (by simp) rfl rfl rfl (Nat.le_refl _)
  · exact this
  · by_cases hk : k = g
    · subst hk; rw [if_pos rfl]; exact setRow_heap w k cur cs e _ (h.at_ (j := 0) rfl)
    · rw [if_neg hk]; exact setRow_other w g k _ hk

/-- append(v, x...), v held alone, what is appended read where it lies. -/
theorem T_append {s x : Operand} {t e : TypeId} {z : Value} {size bytes : Nat} (ht : P.underlying t = some (.slice e)) (hi : (P.info? e).map (fun i => (i.zero, i.size, i.bytes)) = some (some z, size, bytes)) (hzs : z.cells.size = size) (hsz : 0 < size)
    {v : Value} {n : Nat} {xs : List Value} {R : List (Nat × Obj)} (hs : evalE ρ s = v) (hown : OwnR e size v n xs R)
    {a : Addr} {m c : Nat} {news : List Value} (hx : evalE ρ x = .slice (some a) m c) (hl : news.length = m * size) (hnews : ∀ w, St w0 H (R ++ L) w → ∀ j u, news[j]? = some u → w.cell? (a.add j) = some u) (h1 : ∀ u ∈ news, u.oneCell' = true)
    (h63 : n + m ≤ maxLen) (hbytes : (n + m) * bytes ≤ 140737488355328) :
    OpT P ρ (.call { callee := .builtin .append, args := #[s, x], argTypes := #[t, t] }) ty (St w0 H (R ++ L))
      fun v' w => ∃ q : Value × List (Nat × Obj), v' = q.1 ∧ (OwnR e size q.1 (n + m) (xs ++ news) q.2 ∧ St w0 H (q.2 ++ L) w) := by
  obtain ⟨i, hi', hzz⟩ := Option.map_eq_some_iff.1 hi
  simp only [Prod.mk.injEq] at hzz
  obtain ⟨hz, rfl, rfl⟩ := hzz
  have hsmall : n + m ≤ 9223372036854775807 := by simp only [maxLen] at h63; omega
  have hlen : (xs ++ news).length = (n + m) * i.size := by rw [List.length_append, hown.1, hl, Nat.add_mul]
  intro d pos af g w hw
  have key : ∃ v' w', (Builtin.append_ #[t, t] ty #[v, .slice (some a) m c]).run P w = .ok v' w' ∧ ∃ R', OwnR e i.size v' (n + m) (xs ++ news) R' ∧ St w0 H (R' ++ L) w' := by
    have hnw := hnews w hw
    have grown : ∀ (old : Nat), old < n + m → St w0 H L w →
        ∃ R', OwnR e i.size (.slice (some ⟨w.heap.size, 0, none⟩) (n + m) (grownCap w (n + m) old e)) (n + m) (xs ++ news) R' ∧
          St w0 H (R' ++ L) (w.drew.alloc (.cells (xs.toArray ++ news.toArray ++ Builtin.zeroCells z.cells (grownCap w (n + m) old e - (n + m))) e)) := by
      intro old ho hst
      have hge := grownCap_ge w (n + m) old e
      have hcm : grownCap w (n + m) old e ≤ maxLen := grownCap_le_maxLen w (n + m) old e h63
      refine ⟨[(w.heap.size, .cells (xs.toArray ++ news.toArray ++ Builtin.zeroCells z.cells (grownCap w (n + m) old e - (n + m))) e (0, 0))], ⟨hlen, .inr ⟨w.heap.size, _, _, rfl, hge, hcm, ?_, ?_, rfl⟩⟩, ?_⟩
      · simp only [Array.size_append, List.size_toArray, size_zeroCells, hzs, hown.1, hl, ← Nat.add_mul]
        congr 1
        omega
      · simp only [Array.toList_append, List.append_assoc]
        rw [← List.append_assoc, ← hlen]
        exact List.take_left
      · exact (hst.drawn (w.drawn + 1) (Nat.le_succ _)).push _
    rcases hown.2 with ⟨rfl, rfl, rfl⟩ | ⟨gb, cap, cur, rfl, hnc, hcm, hcs, htake, rfl⟩
    · have hx0 : xs = [] := List.eq_nil_of_length_eq_zero (by simpa using hown.1)
      subst hx0
      by_cases hm : m = 0
      · subst hm
        have hn : news = [] := List.eq_nil_of_length_eq_zero (by simpa using hl)
        subst hn
        refine ⟨.slice none 0 0, w, ?_, [], OwnR.nil _ _, hw⟩
        simp [Builtin.append_, run_underlying ht, sizeOf, typeInfo, hi', Builtin.lenOf, Builtin.firstCells, loadCells, loadCellsFrom]
      · have hr := run_append_nil (P := P) w t ty e i z ht hi' hz a m c news hl hnw (by omega) (by omega) (by have hb := hbytes; simp only [Nat.zero_add] at hb; omega)
        obtain ⟨R', g1, g2⟩ := grown 0 (by omega) hw
        simp only [Nat.zero_add, List.nil_append, Array.empty_append] at g1 g2 ⊢
        exact ⟨_, _, hr, R', g1, by simpa using g2⟩
    · by_cases hroom : n + m ≤ cap
      · have hfit : n * i.size + news.length ≤ cur.size := by rw [hl, hcs, ← Nat.add_mul]; exact Nat.mul_le_mul_right _ hroom
        have hr := run_append_room (P := P) w t ty e i ht hi' gb n cap cur (hw.at_ (j := 0) rfl) a m c news hl hnw h1 hroom hfit
        refine ⟨_, _, hr, [(gb, .cells (cur.toList.take (n * i.size) ++ news ++ cur.toList.drop (n * i.size + news.length)).toArray e (0, 0))], ⟨hlen, .inr ⟨gb, cap, _, rfl, hroom, hcm, ?_, ?_, rfl⟩⟩, hw.putRow _⟩
        · simp only [List.size_toArray, List.length_append, List.length_take, List.length_drop, Array.length_toList]
          omega
        · rw [htake, ← hlen]
          exact List.take_left
      · have holds : ∀ j u, xs[j]? = some u → w.cell? ((⟨gb, 0, none⟩ : Addr).add j) = some u := by
          intro j u hu
          have ha : (⟨gb, 0, none⟩ : Addr).add j = ⟨gb, j, none⟩ := by unfold Addr.add; split <;> simp_all
          rw [ha]
          refine cell_of_heap (hw.at_ (j := 0) rfl) ?_
          rw [← htake, List.getElem?_take] at hu
          split at hu
          · simpa using hu
          · cases hu
        have hr := run_append_grow (P := P) w t ty e i z ht hi' hz ⟨gb, 0, none⟩ n cap xs hown.1 holds a m c news hl hnw (by omega) (by omega) (growslice_fits (by omega) hbytes)
        obtain ⟨R', g1, g2⟩ := grown cap (by omega) (hw.drop (List.sublist_cons_self _ _))
        exact ⟨_, _, hr, R', g1, g2⟩
  obtain ⟨v', w', hr, R', g1, g2⟩ := key
  have e1 : (execOp (evalE ρ) ⟨d, .call { callee := .builtin .append, args := #[s, x], argTypes := #[t, t] }, ty, pos, af, g⟩).run P w = .ok (.value v') w' := by
    unfold execOp
    simp only [resolve, invoke, builtin, Sem.run_bind, Sem.run_pure, Result.andThen_ok, List.map_toArray, List.map_cons, List.map_nil, hs, hx, hr]
  rw [e1]
  exact ⟨(v', R'), rfl, g1, g2⟩
end
end Go.Fw
