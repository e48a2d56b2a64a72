/- Arrays of numbers: elements, parameters. Conditions: none. -/
import Derived.Test.YtfhelnalegochaaSlOpen
import Derived.OpenShut
namespace Go.Fw
open Go Go.RowKit
set_option linter.unusedVariables false
set_option linter.unusedSimpArgs false
/-- A number, written out. -/
class NatI (i : Int) (k : outParam Nat) : Prop where
  out : i = k
instance : NatI 0 0 := ⟨rfl⟩
instance : NatI 1 1 := ⟨rfl⟩
instance : NatI 2 2 := ⟨rfl⟩
instance : NatI 3 3 := ⟨rfl⟩
instance : NatI 4 4 := ⟨rfl⟩
instance {P : Program} {ρ : Env} {A : World → Prop} {ty : TypeId} {x y : Operand} {t e : TypeId} {n : Nat} {kd : IntKind} {b o : Nat} {i : Int} {k : Nat} {z : List Value} {bytes : Nat} [h1 : Ev ρ x (.pointer (some ⟨b, o, none⟩))] [h2 : Ev ρ y (.int kd i)] [hk : NatI i k] [ht : Und P t (.array n e)] [hz : Inf P e z 1 bytes] [hn : NatLe (k + 1) n] :
    OpM P ρ A (.indexAddr t x y) ty (.pointer (some ⟨b, o + k, none⟩)) True := ⟨fun _ d pos af g w _ => by
  obtain ⟨inf, hinf, hz'⟩ := Option.map_eq_some_iff.1 hz.size
  have hi := hk.out
  have hl := hn.out
  have ea : (⟨b, o, none⟩ : Addr).add k = ⟨b, o + k, none⟩ := by
    unfold Addr.add; split
    · rename_i h; simp [h]
    · rfl
  subst hi
  have h0 : (0 : Int) ≤ (k : Int) := by omega
  have h3 : (k : Int) < (n : Int) := by omega
  simp [execOp, Instr.indexAt, Instr.sureAddr, asIntOf, h1.out, h2.out, run_underlying ht.out, h0, h3, Go.sizeOf, typeInfo, hinf, hz', ea, go_sem]
  intro h; omega⟩
instance {P : Program} {t e : TypeId} [ht : Und P t (.array 3 e)] [he : Und P e (.int .i64)] {z : List Value} {bytes : Nat} [hz : Inf P e z 1 bytes] {zt : List Value} {bt : Nat} [hzt : Inf P t zt 3 bt] : OpenT P t (Int × Int × Int) inferInstance (gPair gInt (gPair gInt gInt)) := ⟨fun {H enc w base spare held fuel cs x} h hw => by
  obtain ⟨xs, m, _, _, hl, hxl, hf⟩ := DataW.trod_array ht.out h
  have hc : P.cellsOf e = 1 := by obtain ⟨i, h1, h2⟩ := Option.map_eq_some_iff.1 hz.size; simp [Program.cellsOf, h1, h2]
  have hct : P.cellsOf t = 3 := by obtain ⟨i, h1, h2⟩ := Option.map_eq_some_iff.1 hzt.size; simp [Program.cellsOf, h1, h2]
  rw [hct] at hl
  match cs, hl with
  | [a, b, c], _ =>
    have one : ∀ i (hi : i < 3) v, ([a, b, c].drop i).take 1 = [v] → ∃ y : Int, v = .int .i64 y ∧ gInt w y := by
      intro i hi v hv
      have h1 := hf i hi
      rw [hc, Nat.mul_one, hv, List.getElem?_eq_getElem (by omega)] at h1
      obtain ⟨n, h2, _, h4⟩ := DataW.trod_int he.out h1
      injection h2 with h2 _
      refine ⟨n, h2, ?_⟩
      simp [Lit.wf, IntKind.min, IntKind.max, IntKind.bits, IntKind.signed] at h4
      unfold gInt; omega
    obtain ⟨x, rfl, gx⟩ := one 0 (by omega) a rfl
    obtain ⟨y, rfl, gy⟩ := one 1 (by omega) b rfl
    obtain ⟨z, rfl, gz⟩ := one 2 (by omega) c rfl
    exact ⟨(x, y, z), rfl, gx, gy, gz⟩⟩
instance {P : Program} {t e : TypeId} {n : Nat} {α : Type} {en : Enc α} {good : World → α → Prop} [ht : Und P t (.array n e)] [h : OpenT P t α en good] : OpenP P t α (fun x => .agg (Enc.cells x).toArray) good := ⟨fun {H enc w base spare held v d p} hv hd hw => by
  obtain ⟨y, hy, hg⟩ := h.use hd hw
  refine ⟨y, ?_, hg⟩
  unfold Value.okWide at hv
  rw [ht.out] at hv
  obtain ⟨cs, rfl, _⟩ := hv
  rw [hy]; rfl⟩
end Go.Fw
