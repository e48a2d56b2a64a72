/- Rows of slices; what a slice holds is known by where it lies. Conditions: none. -/
import Derived.Test.YtfhelnalegochaaSlBytes
namespace Go.Fw
open Go Go.RowKit
set_option linter.unusedVariables false
set_option linter.unusedSimpArgs false

/-- What is told apart by its cells. -/
class EncI (α : Type) [Enc α] : Prop where
  inj : ∀ x y : α, Enc.cells x = Enc.cells y → x = y
instance : EncI Int := ⟨fun x y h => by injection h with h _; injection h⟩
instance : EncI Bool := ⟨fun x y h => by injection h with h _; injection h⟩
instance : EncI ByteArray := ⟨fun x y h => by injection h with h _; injection h⟩
instance : EncI SV := ⟨fun x y h => by
  injection h with h _; injection h with h1 h2 h3
  cases x; cases y; simp only at h1 h2 h3; rw [h1, h2, h3]⟩
instance {α β : Type} [Enc α] [Enc β] [EncI α] [EncI β] : EncI (α × β) := ⟨fun x y h => by
  have h : Enc.cells x.1 ++ Enc.cells x.2 = Enc.cells y.1 ++ Enc.cells y.2 := h
  have h' := List.append_inj h (by rw [Enc.len, Enc.len])
  exact Prod.ext (EncI.inj _ _ h'.1) (EncI.inj _ _ h'.2)⟩
theorem RdW.det {α : Type} [Enc α] [EncI α] {w : World} {s : SV} {xs ys : List α} (h : RdW w s xs) (k : RdW w s ys) : xs = ys := by
  have hx := h.len
  have hy := k.len
  refine List.ext_getElem (by omega) fun i h1 h2 => EncI.inj _ _ ?_
  have e1 : xs.getD i Enc.dflt = xs[i] := by simp [List.getD_eq_getElem?_getD, h1]
  have e2 : ys.getD i Enc.dflt = ys[i] := by simp [List.getD_eq_getElem?_getD, h2]
  refine List.ext_getElem (by rw [Enc.len, Enc.len]) fun q h3 h4 => ?_
  have a := h.cells i q _ h1 (by rw [e1]; exact List.getElem?_eq_getElem h3)
  have b := k.cells i q _ h2 (by rw [e2]; exact List.getElem?_eq_getElem h4)
  rw [a] at b
  injection b
open Classical in
/-- What s holds, if it holds something for good. -/
noncomputable def rd (α : Type) [e : Enc α] (I : Foot) (s : SV) : List α := if h : ∃ xs : List α, SlI I s α e xs then h.choose else []
theorem SlI.rd {α : Type} [e : Enc α] {I : Foot} {s : SV} {xs : List α} (h : SlI I s α e xs) : SlI I s α e (Go.Fw.rd α I s) := by
  unfold Go.Fw.rd
  have hx : ∃ xs : List α, SlI I s α e xs := ⟨xs, h⟩
  rw [dif_pos hx]
  exact hx.choose_spec
theorem SlI.det {α : Type} [e : Enc α] [EncI α] {I : Foot} {s : SV} {xs ys : List α} (h : SlI I s α e xs) (k : SlI I s α e ys) {w0 : World} {L : List HP} {w : World} (hw : SL w0 I L w) : xs = ys :=
  (h.out w fun b o hb => hw.mem b o hb).det (k.out w fun b o hb => hw.mem b o hb)
theorem SlI.sub {α : Type} [e : Enc α] {I I' : Foot} {s : SV} {xs : List α} (h : SlI I s α e xs) [hs : SubI I' I] : SlI I' s α e xs := ⟨fun w hw => h.out w fun b o hb => hw b o (hs.out hb)⟩

section
variable {ro : Option Nat} {P : Program} {n : Nat} {Q : Hnd} {ρ : Env} {ops : Array Oper} {w0 : World} {I : Foot} {L : List HP}
theorem WPA.rd {c : Code} {α : Type} {e : Enc α} [EncI α] {s : SV} {xs : List α} (h : SlI I s α e xs) (k : Go.Fw.rd α I s = xs → WPA ro P n c Q ρ (SL w0 I L)) : WPA ro P n c Q ρ (SL w0 I L) := fun m a w ha hA => k (h.rd.det h hA) m a w ha hA
theorem WLA.rd {l : List Oper} {α : Type} {e : Enc α} [EncI α] {s : SV} {xs : List α} (h : SlI I s α e xs) (k : Go.Fw.rd α I s = xs → WLA ro P n ops Q l ρ (SL w0 I L)) : WLA ro P n ops Q l ρ (SL w0 I L) := fun m a w ha hA => k (h.rd.det h hA) m a w ha hA
end
/-- What is held for good, from now on. -/
theorem SlI.ofLit {α : Type} [e : Enc α] {t : TypeId} {s : SV} {xs : List α} {R : Foot} (h : LitS t s xs R) : SlI R s α e xs := ⟨fun w hw => OwnR.rdW h hw⟩

/-- A row of slices, each held alone. -/
def RowH {α : Type} [Enc α] (e : TypeId) : List SV → List (List α) → HP
  | s :: ss, t :: ts => star (OwnS e s t) (RowH e ss ts)
  | _, _ => fun R => R = []
theorem RowH.nil {α : Type} [Enc α] {e : TypeId} {L : List HP} : Ent L (RowH e [] ([] : List (List α)) :: L) := Ent.intro1 rfl
theorem RowH.snoc {α : Type} [Enc α] {e : TypeId} {s : SV} {t : List α} : ∀ {ss : List SV} {ts : List (List α)} {L : List HP}, ss.length = ts.length → Ent (OwnS e s t :: RowH e ss ts :: L) (RowH e (ss ++ [s]) (ts ++ [t]) :: L)
  | [], [], L, _ => Ent.star (Ent.cons Ent.drop1 |>.trans (Ent.cons (Ent.intro1 (p := RowH e [] ([] : List (List α))) rfl)))
  | s1 :: ss, t1 :: ts, L, h => by
    simp only [List.cons_append, RowH]
    refine (Ent.cons Ent.unstar).trans (Ent.swap.trans ?_)
    refine (Ent.cons (RowH.snoc (by simpa using h))).trans ?_
    exact Ent.star Ent.refl
  | [], t1 :: ts, L, h => by simp at h
  | s1 :: ss, [], L, h => by simp at h
theorem RowH.frozen {α : Type} [en : Enc α] {e : TypeId} : ∀ {ss : List SV} {ts : List (List α)} {R : Foot}, RowH e ss ts R → ∀ i, i < ss.length → i < ts.length → SlI R (ss.getD i SV.nil) α en (ts.getD i [])
  | s :: ss, t :: ts, R, h, 0, _, _ => by
    obtain ⟨R1, R2, h1, h2, rfl⟩ := h
    have := SlI.ofOwn h1
    simp only [List.getD_cons_zero]
    exact SlI.left
  | s :: ss, t :: ts, R, h, i + 1, hi, hj => by
    obtain ⟨R1, R2, h1, h2, rfl⟩ := h
    have := RowH.frozen h2 i (by simpa using hi) (by simpa using hj)
    simp only [List.getD_cons_succ]
    exact SlI.right
theorem RowH.rdW {α : Type} [en : Enc α] {e : TypeId} {ss : List SV} {ts : List (List α)} {i : Nat} (hi : i < ss.length) (hj : i < ts.length) {I w0 w} {L : List HP} (h : SL w0 I (RowH e ss ts :: L) w) : RdW w (ss.getD i SV.nil) (ts.getD i []) := by
  obtain ⟨R, hR, h1⟩ := h.freeze
  have := RowH.frozen hR i hi hj
  exact (SlI.left (I := I) : SlI (R ++ I) _ _ _ _).out w fun b o hb => h1.mem b o hb
/-- The slice s is one of a row. -/
class IsRow {α : Type} (ss : List SV) (ts : List (List α)) (s : SV) (xs : outParam (List α)) : Prop where
  out : ∃ i, i < ss.length ∧ i < ts.length ∧ ss.getD i SV.nil = s ∧ ts.getD i [] = xs
theorem IsRow.at {α : Type} {ss : List SV} {ts : List (List α)} {i : Int} (h0 : 0 ≤ i) (h1 : i < ss.length) (h2 : i < ts.length) : IsRow ss ts (at_ ss i) (ts.getD i.toNat []) := ⟨⟨i.toNat, by omega, by omega, rfl, rfl⟩⟩
instance OwnIn.row {α : Type} [e : Enc α] {L : List HP} {t : TypeId} {ss : List SV} {ts : List (List α)} {s : SV} {xs : List α} [h : IsRow ss ts s xs] : OwnIn (RowH t ss ts :: L) s α e xs := ⟨fun I w0 w hw => by
  obtain ⟨i, h1, h2, h3, h4⟩ := h.out
  have := RowH.rdW h1 h2 hw
  rw [h3, h4] at this; exact this⟩
/-! ### Sums that may wrap -/
section
variable {P : Program} {ρ : Env} {A : World → Prop} {ty : TypeId} {x y : Operand} {t u : TypeId} {k : IntKind} {a b : Int}
theorem addW [h1 : Ev ρ x (.int k a)] [h2 : Ev ρ y (.int k b)] : OpM P ρ A (.binOp .add t x y u) ty (.int k (k.wrap (a + b))) True := ⟨fun _ => P_add h1.out h2.out⟩
theorem subW [h1 : Ev ρ x (.int k a)] [h2 : Ev ρ y (.int k b)] : OpM P ρ A (.binOp .sub t x y u) ty (.int k (k.wrap (a - b))) True := ⟨fun _ => P_sub h1.out h2.out⟩
theorem mulW [h1 : Ev ρ x (.int k a)] [h2 : Ev ρ y (.int k b)] : OpM P ρ A (.binOp .mul t x y u) ty (.int k (k.wrap (a * b))) True := ⟨fun _ => P_mul h1.out h2.out⟩
theorem convW {src dst : TypeId} {k' : IntKind} [h : Ev ρ x (.int k' a)] [hd : Und P dst (.int k)] [hs : Und P src (.int k')] : OpM P ρ A (.convert src dst x) ty (.int k (k.wrap a)) True := ⟨fun _ => P_convInt hs.out hd.out h.out⟩
end
end Go.Fw
