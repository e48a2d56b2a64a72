/- Built-in functions: max and min of two whole numbers. Conditions: none. -/
import Derived.Test.YtfhelnalegochaaFwRange
namespace Go.Fw
open Go Go.RowKit
set_option linter.unusedVariables false
set_option linter.unusedSimpArgs false
section
variable {P : Program} {ρ : Env} {A : World → Prop} {ty : TypeId}
theorem P_max {x y : Operand} {ts : Array TypeId} {k : IntKind} {a b : Int} (h1 : evalE ρ x = .int k a) (h2 : evalE ρ y = .int k b) : OpP P ρ (.call { callee := .builtin .max, args := #[x, y], argTypes := ts }) ty A (.int k (max a b)) := by
  intro d pos af g w _
  have e : max a b = if b > a then b else a := by split <;> omega
  rw [e]
  simp [execOp, resolve, invoke, builtin, h1, h2, Builtin.max_, Builtin.max2, go_sem]
theorem P_min {x y : Operand} {ts : Array TypeId} {k : IntKind} {a b : Int} (h1 : evalE ρ x = .int k a) (h2 : evalE ρ y = .int k b) : OpP P ρ (.call { callee := .builtin .min, args := #[x, y], argTypes := ts }) ty A (.int k (min a b)) := by
  intro d pos af g w _
  have e : min a b = if b < a then b else a := by split <;> omega
  rw [e]
  simp [execOp, resolve, invoke, builtin, h1, h2, Builtin.min_, Builtin.min2, go_sem]
theorem P_sliceV_h {x y : Operand} {t e : TypeId} {sz : Nat} {a : Option Addr} {n c : Nat} {k : IntKind} {h : Int} (ht : P.underlying t = some (.slice e)) (hz : (P.info? e).map (·.size) = some sz) (h1 : evalE ρ x = .slice a n c) (h2 : evalE ρ y = .int k h) (h0 : 0 ≤ h) (hc : h ≤ (c : Int)) :
    OpP P ρ (.slice t x none (some y) none) ty A (.slice a h.toNat c) := by
  intro d pos af g w _
  obtain ⟨inf, hinf, hz'⟩ := Option.map_eq_some_iff.1 hz
  have ha : a.map (fun q => q.add (0 * sz)) = a := by cases a <;> simp [Addr.add]
  have hl : h.toNat ≤ c := by omega
  have hh : ¬ h < 0 := by omega
  have hh2 : ¬ h > (c : Int) := by omega
  simp [execOp, Instr.sliceAt, Instr.slice, Instr.sliceBounds, Instr.sliceBound, asIntOf, ha, h0, hc, hh, hh2, hl, h1, h2, run_underlying ht, sizeOf, typeInfo, hinf, hz', go_sem]
end
theorem fold_size (vs : List Value) : ∀ (cs : Array Value) (i : Nat), (vs.foldl (fun (p : Array Value × Nat) v => (p.1.setIfInBounds p.2 v, p.2 + 1)) (cs, i)).1.size = cs.size := by
  induction vs with
  | nil => intro cs i; rfl
  | cons v vs ih => intro cs i; simp only [List.foldl_cons]; rw [ih]; simp
section
variable {P : Program} {ρ : Env} {ty : TypeId} {w0 : World} {H : HeapP} {L R : List (Nat × Obj)}
/-- clear(v), v held alone: what it holds is not told. -/
theorem T_clearR {x : Operand} {t e : TypeId} {z : Value} {size bytes : Nat} (ht : P.underlying t = some (.slice e)) (hi : (P.info? e).map (fun i => (i.zero, i.size, i.bytes)) = some (some z, size, bytes)) (hzs : z.cells.size = size) (hz1 : ∀ u ∈ (Builtin.zeroCells z.cells 1).toList, u.oneCell' = true) (hz2 : ∀ n, ∀ u ∈ (Builtin.zeroCells z.cells n).toList, u.oneCell' = true)
    {v : Value} {n : Nat} {xs : List Value} (hown : OwnR e size v n xs R) (hx : evalE ρ x = v) :
    OpT P ρ (.call { callee := .builtin .clear, args := #[x], argTypes := #[t] }) ty (St w0 H (R ++ L)) fun u w => ∃ q : List Value × List (Nat × Obj), u = .tuple #[] ∧ (OwnR e size v n q.1 q.2 ∧ St w0 H (q.2 ++ L) w) := by
  obtain ⟨i, hi', hzz⟩ := Option.map_eq_some_iff.1 hi
  simp only [Prod.mk.injEq] at hzz
  obtain ⟨hz, rfl, rfl⟩ := hzz
  intro d pos af g w hw
  rcases hown.2 with ⟨rfl, rfl, rfl⟩ | ⟨gb, cap, cur, rfl, hnc, hcm, hcs, htake, rfl⟩
  · have e1 : (execOp (evalE ρ) ⟨d, .call { callee := .builtin .clear, args := #[x], argTypes := #[t] }, ty, pos, af, g⟩).run P w = .ok (.value (.tuple #[])) w := by
      simp [execOp, resolve, invoke, builtin, hx, Builtin.clear_, run_underlying ht, go_sem]
    rw [e1]
    exact ⟨([], []), rfl, OwnR.nil _ _, hw⟩
  · by_cases h0 : n = 0
    · subst h0
      have e1 : (execOp (evalE ρ) ⟨d, .call { callee := .builtin .clear, args := #[x], argTypes := #[t] }, ty, pos, af, g⟩).run P w = .ok (.value (.tuple #[])) w := by
        simp [execOp, resolve, invoke, builtin, hx, Builtin.clear_, run_underlying ht, go_sem]
      rw [e1]
      exact ⟨(xs, _), rfl, hown, hw⟩
    · have hlen : (Builtin.zeroCells z.cells n).toList.length = n * i.size := by rw [Array.length_toList, size_zeroCells, hzs]
      obtain ⟨w', h2, h3⟩ := run_storeMany (P := P) (w := w) (j := 0) (Builtin.zeroCells z.cells n).toList cur 0 0 w _ hw rfl (by rw [hlen, hcs]; have := Nat.mul_le_mul_right i.size hnc; omega) (hz2 n)
      have hzr : (zeroValue e).run P w = .ok z w := by simp [zeroValue, typeInfo, hi', hz, go_sem]
      have e1 : (execOp (evalE ρ) ⟨d, .call { callee := .builtin .clear, args := #[x], argTypes := #[t] }, ty, pos, af, g⟩).run P w = .ok (.value (.tuple #[])) w' := by
        obtain ⟨m, rfl⟩ : ∃ m, n = m + 1 := ⟨n - 1, by omega⟩
        have key : (Builtin.clear_ #[t] ty #[.slice (some ⟨gb, 0, none⟩) (m + 1) cap]).run P w = .ok (.tuple #[]) w' := by
          unfold Builtin.clear_
          simp only [List.getElem?_toArray, List.getElem?_cons_zero, Sem.run_bind, run_underlying ht, Result.andThen_ok, hzr, h2, Sem.run_pure]
        simp only [execOp, resolve, invoke, builtin, Sem.run_bind, Sem.run_pure, Result.andThen_ok, List.map_toArray, List.map_cons, List.map_nil, hx, key]
      rw [e1]
      exact ⟨(_, [(gb, _)]), rfl, ⟨by rw [List.length_take, Array.length_toList, fold_size, hcs]; have := Nat.mul_le_mul_right i.size hnc; omega, .inr ⟨gb, cap, _, rfl, hnc, hcm, by rw [fold_size, hcs], rfl, rfl⟩⟩, h3⟩
end
end Go.Fw
