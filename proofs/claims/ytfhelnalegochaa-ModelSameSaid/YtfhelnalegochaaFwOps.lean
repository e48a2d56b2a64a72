/- The operations' own triples. Conditions: none. -/
import Derived.Test.YtfhelnalegochaaFw
namespace Go.Fw
open Go Go.RowKit
set_option linter.unusedVariables false
set_option linter.unusedSimpArgs false

section
variable {P : Program} {ρ : Env} {A : World → Prop} {ty : TypeId}

theorem P_move {x : Operand} {v : Value} (h : evalE ρ x = v) : OpP P ρ (.move x) ty A v := by
  intro d pos af g w _; simp only [execOp, h]; rfl
theorem P_assign {x : Operand} {v : Value} (h : evalE ρ x = v) : OpP P ρ (.assign x) ty A v := by
  intro d pos af g w _; simp only [execOp, h]; rfl
theorem P_pickT {c a b : Operand} {v : Value} {t : Bool} (hc : evalE ρ c = .bool t) (ht : t = true) (h : evalE ρ a = v) : OpP P ρ (.pick c a b) ty A v := by
  intro d pos af g w _; subst ht; simp only [execOp, h, hc]; rfl
theorem P_pickF {c a b : Operand} {v : Value} {t : Bool} (hc : evalE ρ c = .bool t) (ht : t = false) (h : evalE ρ b = v) : OpP P ρ (.pick c a b) ty A v := by
  intro d pos af g w _; subst ht; simp only [execOp, h, hc]; rfl
theorem P_nilCheck {x : Operand} {a : Addr} (h : evalE ρ x = .pointer (some a)) : OpP P ρ (.nilCheck x) ty A (.pointer (some a)) := by
  intro d pos af g w _; simp only [execOp, h]; rfl
theorem P_not {x : Operand} {t : TypeId} {b : Bool} (h : evalE ρ x = .bool b) : OpP P ρ (.unOp .not t x) ty A (.bool (!b)) := by
  intro d pos af g w _; simp only [execOp, h]; rfl
theorem P_notD {x : Operand} {t : TypeId} {p : Prop} [Decidable p] (h : evalE ρ x = .bool (decide p)) : OpP P ρ (.unOp .not t x) ty A (.bool (decide (¬ p))) := by
  intro d pos af g w _; simp only [execOp, h]; simp [decide_not]; rfl
theorem P_extract {x : Operand} {i : Nat} {vs : Array Value} {v : Value} (h : evalE ρ x = .tuple vs) (hv : vs[i]? = some v) : OpP P ρ (.extract x i) ty A v := by
  intro d pos af g w _; simp only [execOp, h, Instr.extract, hv]; rfl
theorem P_makeFunc0 {f : FuncId} : OpP P ρ (.makeFunc (.func f) #[] #[]) ty A (.func (.func f) #[] #[]) := by
  intro d pos af g w _; simp [execOp, Instr.makeFunc, go_sem]
theorem P_makeFunc1 {f : FuncId} {x : Operand} {v : Value} (h : evalE ρ x = v) : OpP P ρ (.makeFunc (.func f) #[] #[x]) ty A (.func (.func f) #[] #[v]) := by
  intro d pos af g w _; simp [execOp, Instr.makeFunc, h, go_sem]
theorem P_makeFunc2 {f : FuncId} {x y : Operand} {v u : Value} (h : evalE ρ x = v) (h2 : evalE ρ y = u) : OpP P ρ (.makeFunc (.func f) #[] #[x, y]) ty A (.func (.func f) #[] #[v, u]) := by
  intro d pos af g w _; simp [execOp, Instr.makeFunc, h, h2, go_sem]
theorem P_len_slice {x : Operand} {t e : TypeId} {a : Option Addr} {k c : Nat} (ht : P.underlying t = some (.slice e)) (h : evalE ρ x = .slice a k c) :
    OpP P ρ (.call { callee := .builtin .len, args := #[x], argTypes := #[t] }) ty A (.int .i64 k) := by
  intro d pos af g w _; simp [execOp, resolve, invoke, builtin, h, run_underlying ht, Builtin.len_, go_sem, goInt]
theorem P_len_str {x : Operand} {t : TypeId} {s : ByteArray} (ht : P.underlying t = some .string) (h : evalE ρ x = .string s) :
    OpP P ρ (.call { callee := .builtin .len, args := #[x], argTypes := #[t] }) ty A (.int .i64 s.size) := by
  intro d pos af g w _; simp [execOp, resolve, invoke, builtin, h, run_underlying ht, Builtin.len_, go_sem, goInt]
theorem P_add {x y : Operand} {t u : TypeId} {k : IntKind} {a b : Int} (h1 : evalE ρ x = .int k a) (h2 : evalE ρ y = .int k b) : OpP P ρ (.binOp .add t x y u) ty A (.int k (k.wrap (a + b))) := by
  intro d pos af g w _; simp [execOp, eqGuard, binOp, h1, h2, Op.intArith, go_sem]
theorem P_sub {x y : Operand} {t u : TypeId} {k : IntKind} {a b : Int} (h1 : evalE ρ x = .int k a) (h2 : evalE ρ y = .int k b) : OpP P ρ (.binOp .sub t x y u) ty A (.int k (k.wrap (a - b))) := by
  intro d pos af g w _; simp [execOp, eqGuard, binOp, h1, h2, Op.intArith, go_sem]
theorem P_mul {x y : Operand} {t u : TypeId} {k : IntKind} {a b : Int} (h1 : evalE ρ x = .int k a) (h2 : evalE ρ y = .int k b) : OpP P ρ (.binOp .mul t x y u) ty A (.int k (k.wrap (a * b))) := by
  intro d pos af g w _; simp [execOp, eqGuard, binOp, h1, h2, Op.intArith, go_sem]
theorem wrap_i64 {a : Int} (h : -9223372036854775808 ≤ a ∧ a ≤ 9223372036854775807) : IntKind.i64.wrap a = a := by
  simp only [IntKind.wrap, IntKind.bits, IntKind.signed]; simp; omega
theorem wrap_u8 {a : Int} (h : 0 ≤ a ∧ a ≤ 255) : IntKind.u8.wrap a = a := by
  simp only [IntKind.wrap, IntKind.bits, IntKind.signed]; simp; omega
theorem wrap_i32 {a : Int} (h : -2147483648 ≤ a ∧ a ≤ 2147483647) : IntKind.i32.wrap a = a := by
  simp only [IntKind.wrap, IntKind.bits, IntKind.signed]; simp; omega
theorem wrap_u64 {a : Int} (h : 0 ≤ a ∧ a ≤ 18446744073709551615) : IntKind.u64.wrap a = a := by
  simp only [IntKind.wrap, IntKind.bits, IntKind.signed]; simp; omega
theorem P_addB {x y : Operand} {t u : TypeId} {a b : Int} (h1 : evalE ρ x = .int .i64 a) (h2 : evalE ρ y = .int .i64 b) (hb : -9223372036854775808 ≤ a + b ∧ a + b ≤ 9223372036854775807) : OpP P ρ (.binOp .add t x y u) ty A (.int .i64 (a + b)) := by
  have := P_add (P := P) (A := A) (ty := ty) (t := t) (u := u) h1 h2; rwa [wrap_i64 hb] at this
theorem P_subB {x y : Operand} {t u : TypeId} {a b : Int} (h1 : evalE ρ x = .int .i64 a) (h2 : evalE ρ y = .int .i64 b) (hb : -9223372036854775808 ≤ a - b ∧ a - b ≤ 9223372036854775807) : OpP P ρ (.binOp .sub t x y u) ty A (.int .i64 (a - b)) := by
  have := P_sub (P := P) (A := A) (ty := ty) (t := t) (u := u) h1 h2; rwa [wrap_i64 hb] at this
theorem P_mulB {x y : Operand} {t u : TypeId} {a b : Int} (h1 : evalE ρ x = .int .i64 a) (h2 : evalE ρ y = .int .i64 b) (hb : -9223372036854775808 ≤ a * b ∧ a * b ≤ 9223372036854775807) : OpP P ρ (.binOp .mul t x y u) ty A (.int .i64 (a * b)) := by
  have := P_mul (P := P) (A := A) (ty := ty) (t := t) (u := u) h1 h2; rwa [wrap_i64 hb] at this
theorem P_bits {op : BinOp} (hop : op = .and ∨ op = .or ∨ op = .xor) {x y : Operand} {t u : TypeId} {k : IntKind} {a b : Int} (h1 : evalE ρ x = .int k a) (h2 : evalE ρ y = .int k b) : OpP P ρ (.binOp op t x y u) ty A (.int k (Go.bits op k a b)) := by
  intro d pos af g w _
  rcases hop with rfl | rfl | rfl <;> simp [execOp, eqGuard, binOp, h1, h2, Op.intBits, Go.bits, go_sem]
theorem P_quo {x y : Operand} {t u : TypeId} {k : IntKind} {a b : Int} (h1 : evalE ρ x = .int k a) (h2 : evalE ρ y = .int k b) (hb : b ≠ 0) : OpP P ρ (.binOp .quo t x y u) ty A (.int k (k.wrap (a.tdiv b))) := by
  intro d pos af g w _; simp [execOp, eqGuard, binOp, h1, h2, Op.intDiv, hb, go_sem]
theorem P_rem {x y : Operand} {t u : TypeId} {k : IntKind} {a b : Int} (h1 : evalE ρ x = .int k a) (h2 : evalE ρ y = .int k b) (hb : b ≠ 0) : OpP P ρ (.binOp .rem t x y u) ty A (.int k (a.tmod b)) := by
  intro d pos af g w _; simp [execOp, eqGuard, binOp, h1, h2, Op.intDiv, hb, go_sem]
theorem P_quoB {x y : Operand} {t u : TypeId} {a b : Int} (h1 : evalE ρ x = .int .i64 a) (h2 : evalE ρ y = .int .i64 b) (ha : 0 ≤ a ∧ a ≤ 9223372036854775807) (hb : 0 < b) : OpP P ρ (.binOp .quo t x y u) ty A (.int .i64 (a / b)) := by
  have h := P_quo (P := P) (A := A) (ty := ty) (t := t) (u := u) h1 h2 (by omega)
  have e : a.tdiv b = a / b := Int.tdiv_eq_ediv_of_nonneg ha.1
  have e2 : 0 ≤ a / b := Int.ediv_nonneg ha.1 (by omega)
  have e3 : a / b ≤ a := Int.ediv_le_self _ ha.1
  rw [e, wrap_i64 (by omega)] at h; exact h
theorem P_remB {x y : Operand} {t u : TypeId} {a b : Int} (h1 : evalE ρ x = .int .i64 a) (h2 : evalE ρ y = .int .i64 b) (ha : 0 ≤ a) (hb : 0 < b) : OpP P ρ (.binOp .rem t x y u) ty A (.int .i64 (a % b)) := by
  have h := P_rem (P := P) (A := A) (ty := ty) (t := t) (u := u) h1 h2 (by omega)
  rw [Int.tmod_eq_emod_of_nonneg ha] at h; exact h
theorem P_shr {x y : Operand} {t u : TypeId} {k k' : IntKind} {a : Int} {s : Nat} (h1 : evalE ρ x = .int k a) (h2 : evalE ρ y = .int k' (s : Int)) (hs : s ≤ k.bits) : OpP P ρ (.binOp .shr t x y u) ty A (.int k (a.fdiv (2 ^ s))) := by
  intro d pos af g w _
  have e : min s k.bits = s := by omega
  simp [execOp, eqGuard, binOp, h1, h2, Op.shift, e, go_sem]
  rw [if_neg (by omega)]
  cases k <;> simp_all [IntKind.bits]
theorem P_lss {x y : Operand} {t u : TypeId} {k : IntKind} {a b : Int} (h1 : evalE ρ x = .int k a) (h2 : evalE ρ y = .int k b) : OpP P ρ (.binOp .lss t x y u) ty A (.bool (decide (a < b))) := by
  intro d pos af g w _; simp [execOp, eqGuard, binOp, h1, h2, Op.intCmp, go_sem]
theorem P_leq {x y : Operand} {t u : TypeId} {k : IntKind} {a b : Int} (h1 : evalE ρ x = .int k a) (h2 : evalE ρ y = .int k b) : OpP P ρ (.binOp .leq t x y u) ty A (.bool (decide (a ≤ b))) := by
  intro d pos af g w _; simp [execOp, eqGuard, binOp, h1, h2, Op.intCmp, go_sem]
theorem P_gtr {x y : Operand} {t u : TypeId} {k : IntKind} {a b : Int} (h1 : evalE ρ x = .int k a) (h2 : evalE ρ y = .int k b) : OpP P ρ (.binOp .gtr t x y u) ty A (.bool (decide (b < a))) := by
  intro d pos af g w _; simp [execOp, eqGuard, binOp, h1, h2, Op.intCmp, go_sem]
theorem P_geq {x y : Operand} {t u : TypeId} {k : IntKind} {a b : Int} (h1 : evalE ρ x = .int k a) (h2 : evalE ρ y = .int k b) : OpP P ρ (.binOp .geq t x y u) ty A (.bool (decide (b ≤ a))) := by
  intro d pos af g w _; simp [execOp, eqGuard, binOp, h1, h2, Op.intCmp, go_sem]
theorem P_eqI {x y : Operand} {t u : TypeId} {k : IntKind} {a b : Int} (h1 : evalE ρ x = .int k a) (h2 : evalE ρ y = .int k b) : OpP P ρ (.binOp .eql t x y u) ty A (.bool (decide (a = b))) := by
  intro d pos af g w _; simp [execOp, eqGuard, binOp, h1, h2, Op.intCmp, go_sem]; rfl
theorem P_neI {x y : Operand} {t u : TypeId} {k : IntKind} {a b : Int} (h1 : evalE ρ x = .int k a) (h2 : evalE ρ y = .int k b) : OpP P ρ (.binOp .neq t x y u) ty A (.bool (decide (a ≠ b))) := by
  intro d pos af g w _; simp [execOp, eqGuard, binOp, h1, h2, Op.intCmp, go_sem, bne, BEq.beq]
theorem bytes_eq (a b : ByteArray) : (a.toList == b.toList) = decide (a = b) := by
  rw [ByteArray.toList_eq, ByteArray.toList_eq, Bool.eq_iff_iff]
  simp only [beq_iff_eq, decide_eq_true_eq]
  constructor
  · intro h; cases a; cases b; simp at h; simp [h]
  · rintro rfl; rfl
theorem P_eqS {x y : Operand} {t u : TypeId} {a b : ByteArray} (h1 : evalE ρ x = .string a) (h2 : evalE ρ y = .string b) : OpP P ρ (.binOp .eql t x y u) ty A (.bool (decide (a = b))) := by
  intro d pos af g w _; rw [← bytes_eq]; simp [execOp, eqGuard, binOp, h1, h2, Op.stringOp, go_sem]
theorem P_neS {x y : Operand} {t u : TypeId} {a b : ByteArray} (h1 : evalE ρ x = .string a) (h2 : evalE ρ y = .string b) : OpP P ρ (.binOp .neq t x y u) ty A (.bool (decide (a ≠ b))) := by
  intro d pos af g w _; rw [decide_not, ← bytes_eq]; simp [execOp, eqGuard, binOp, h1, h2, Op.stringOp, go_sem]
theorem P_catS {x y : Operand} {t u : TypeId} {a b : ByteArray} (h1 : evalE ρ x = .string a) (h2 : evalE ρ y = .string b) (hb : a.size + b.size ≤ 9223372036854775807) : OpP P ρ (.binOp .add t x y u) ty A (.string (a ++ b)) := by
  intro d pos af g w _
  have := run_string_add_sum (P := P) (w := w) a b hb
  simp [execOp, eqGuard, binOp, h1, h2, this, go_sem]
theorem P_convInt {x : Operand} {src dst : TypeId} {k k' : IntKind} {a : Int} {dd : TypeDesc} (hs : P.underlying src = some dd) (hd : P.underlying dst = some (.int k)) (h : evalE ρ x = .int k' a) : OpP P ρ (.convert src dst x) ty A (.int k (k.wrap a)) := by
  intro d pos af g w _; simp [execOp, convert, h, run_underlying hs, run_underlying hd, Conv.intToInt, go_sem]
def bt (s : ByteArray) (i : Int) : Int := if h : i.toNat < s.size then ((s[i.toNat]'h).toNat : Int) else 0
theorem bt_range (s : ByteArray) (i : Int) : 0 ≤ bt s i ∧ bt s i ≤ 255 := by
  unfold bt
  split
  · rename_i h; have := (s[i.toNat]'h).toNat_lt; omega
  · omega
theorem P_index_str {x y : Operand} {t : TypeId} {k : IntKind} {s : ByteArray} {i : Int} (ht : P.underlying t = some .string) (h1 : evalE ρ x = .string s) (h2 : evalE ρ y = .int k i) (h0 : 0 ≤ i) (hi : i < (s.size : Int)) :
    OpP P ρ (.index t x y) ty A (.int .u8 (bt s i)) := by
  intro d pos af g w _
  have hl : i.toNat < s.size := by omega
  have e : s[i.toNat]? = some (s[i.toNat]'hl) := by simp [hl]
  simp [execOp, Instr.index, asIntOf, h1, h2, run_underlying ht, e, h0, bt, hl, go_sem]
theorem P_indexAddr {x y : Operand} {t e : TypeId} {k : IntKind} {b o len cap : Nat} {i : Int} {sz : Nat} (ht : P.underlying t = some (.slice e)) (hz : (P.info? e).map (·.size) = some sz)
    (h1 : evalE ρ x = .slice (some ⟨b, o, none⟩) len cap) (h2 : evalE ρ y = .int k i) (h0 : 0 ≤ i) (hi : i < (len : Int)) :
    OpP P ρ (.indexAddr t x y) ty A (.pointer (some ⟨b, o + i.toNat * sz, none⟩)) := by
  intro d pos af g w _
  obtain ⟨inf, hinf, hz'⟩ := Option.map_eq_some_iff.1 hz
  have ea : (⟨b, o, none⟩ : Addr).add (i.toNat * sz) = ⟨b, o + i.toNat * sz, none⟩ := by
    unfold Addr.add; split
    · rename_i h; simp [h]
    · rfl
  simp [execOp, Instr.indexAt, asIntOf, h1, h2, run_underlying ht, h0, hi, Go.sizeOf, typeInfo, hinf, hz', ea, go_sem]
end
end Go.Fw
