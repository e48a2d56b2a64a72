/- Shifts and bits of small numbers. Conditions: none. -/
import Derived.Test.YtlodbajaoadhdaaSlRows
namespace Go.Fw
open Go Go.RowKit
set_option linter.unusedVariables false
set_option linter.unusedSimpArgs false
section
variable {P : Program} {ρ : Env} {A : World → Prop} {ty : TypeId}
theorem P_shl {x y : Operand} {t u : TypeId} {k k' : IntKind} {a : Int} {s : Nat} (h1 : evalE ρ x = .int k a) (h2 : evalE ρ y = .int k' (s : Int)) (hs : s ≤ k.bits) : OpP P ρ (.binOp .shl t x y u) ty A (.int k (k.wrap (a * 2 ^ s))) := by
  intro d pos af g w _
  have e : min s k.bits = s := by omega
  simp [execOp, eqGuard, binOp, h1, h2, Op.shift, e, go_sem]
  rw [if_neg (by omega)]
  cases k <;> simp_all [IntKind.bits]
/-- A power of two, written out. -/
class Pow2 (s : Int) (m : outParam Int) : Prop where
  out : (2 : Int) ^ s.toNat = m ∧ 0 ≤ s ∧ s ≤ 62
instance : Pow2 16 65536 := ⟨by decide⟩
instance : Pow2 8 256 := ⟨by decide⟩
instance {x y : Operand} {t u : TypeId} {k' : IntKind} {a s m : Int} [h1 : Ev ρ x (.int .i64 a)] [h2 : Ev ρ y (.int k' s)] [hp : Pow2 s m] : OpM P ρ A (.binOp .shl t x y u) ty (.int .i64 (a * m)) (-9223372036854775808 ≤ a * m ∧ a * m ≤ 9223372036854775807) := ⟨fun h => by
  have h3 := P_shl (P := P) (A := A) (ty := ty) (t := t) (u := u) (s := s.toNat) h1.out (by rw [h2.out]; congr 1; have := hp.out.2.1; omega) (by have := hp.out.2.2; simp [IntKind.bits]; omega)
  rw [hp.out.1, wrap_i64 h] at h3
  exact h3⟩
theorem P_lssS {x y : Operand} {t u : TypeId} {a b : ByteArray} (h1 : evalE ρ x = .string a) (h2 : evalE ρ y = .string b) : OpP P ρ (.binOp .lss t x y u) ty A (.bool (decide (Op.bytesLess a.data.toList b.data.toList = true))) := by
  intro d pos af g w _; rw [← ByteArray.toList_eq, ← ByteArray.toList_eq]; simp [execOp, eqGuard, binOp, h1, h2, Op.stringOp, go_sem]
instance {x y : Operand} {t u : TypeId} {a b : ByteArray} [h1 : Ev ρ x (.string a)] [h2 : Ev ρ y (.string b)] : OpM P ρ A (.binOp .lss t x y u) ty (.bool (decide (Op.bytesLess a.data.toList b.data.toList = true))) True := ⟨fun _ => P_lssS h1.out h2.out⟩
end
theorem or_i64 {a b : Int} (k : Nat) (ha : 0 ≤ a ∧ a < 4611686018427387904) (hb : 0 ≤ b ∧ b < 2 ^ k) (hd : a % 2 ^ k = 0) (hk : k ≤ 62) : Go.bits .or .i64 a b = a + b := by
  obtain ⟨m, rfl⟩ := Int.eq_ofNat_of_zero_le ha.1
  obtain ⟨n, rfl⟩ := Int.eq_ofNat_of_zero_le hb.1
  have hn : n < 2 ^ k := by exact_mod_cast hb.2
  have hm : m % 2 ^ k = 0 := by exact_mod_cast hd
  have hp : (2 : Nat) ^ k ≤ 2 ^ 62 := Nat.pow_le_pow_right (by decide) hk
  have h62 : (2 : Nat) ^ 62 = 4611686018427387904 := by decide
  have hmm : m < 4611686018427387904 := by have := ha.2; omega
  have hor : m ||| n = m + n := by
    have e : m = 2 ^ k * (m / 2 ^ k) := by have := Nat.div_add_mod m (2 ^ k); omega
    rw [e]; exact (Nat.two_pow_add_eq_or_of_lt hn _).symm
  have h1 : (BitVec.ofInt 64 (m : Int)).toNat = m := by
    rw [BitVec.ofInt_natCast, BitVec.toNat_ofNat]; exact Nat.mod_eq_of_lt (by omega)
  have h2 : (BitVec.ofInt 64 (n : Int)).toNat = n := by
    rw [BitVec.ofInt_natCast, BitVec.toNat_ofNat]; exact Nat.mod_eq_of_lt (by omega)
  show IntKind.i64.wrap ((BitVec.ofInt 64 (m : Int) ||| BitVec.ofInt 64 (n : Int)).toNat : Int) = _
  rw [BitVec.toNat_or, h1, h2, hor]
  have := wrap_i64 (a := ((m + n : Nat) : Int)) (by omega)
  rw [this]; omega
/-- What many slices hold for good, named at once. -/
theorem WLA.rds {ro : Option Nat} {P : Program} {n : Nat} {Q : Hnd} {ops : Array Oper} {ρ : Env} {w0 : World} {I : Foot} {L : List HP} {l : List Oper} {α : Type} {e : Enc α} [EncI α] {ι : Type} {s : ι → SV} {xs : ι → List α} (h : ∀ i, SlI I (s i) α e (xs i)) (k : (∀ i, Go.Fw.rd α I (s i) = xs i) → WLA ro P n ops Q l ρ (SL w0 I L)) : WLA ro P n ops Q l ρ (SL w0 I L) :=
  fun m a w ha hA => k (fun i => (h i).rd.det (h i) hA) m a w ha hA
theorem WPA.rds {ro : Option Nat} {P : Program} {n : Nat} {Q : Hnd} {ρ : Env} {w0 : World} {I : Foot} {L : List HP} {c : Code} {α : Type} {e : Enc α} [EncI α] {ι : Type} {s : ι → SV} {xs : ι → List α} (h : ∀ i, SlI I (s i) α e (xs i)) (k : (∀ i, Go.Fw.rd α I (s i) = xs i) → WPA ro P n c Q ρ (SL w0 I L)) : WPA ro P n c Q ρ (SL w0 I L) :=
  fun m a w ha hA => k (fun i => (h i).rd.det (h i) hA) m a w ha hA
end Go.Fw
