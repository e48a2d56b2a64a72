/- Slices and blocks as held things; literal lists of cells. Conditions: none. -/
import Derived.Test.YtfhelnalegochaaSl
namespace Go.Fw
open Go Go.RowKit
set_option linter.unusedVariables false
set_option linter.unusedSimpArgs false

/-- A slice's header. -/
structure SV where
  a : Option Addr
  n : Nat
  cap : Nat
def SV.nil : SV := ⟨none, 0, 0⟩
@[reducible] def SV.v (s : SV) : Value := .slice s.a s.n s.cap
/-- What lies in cells. -/
class Enc (α : Type) where
  sz : Nat
  cells : α → List Value
  dflt : α
  len : ∀ x, (cells x).length = sz
  one : ∀ x, ∀ u ∈ cells x, u.oneCell' = true
  pos : 0 < sz
def KInt (_ : IntKind) : Type := Int
/-- A value of one cell, whatever it is. -/
def Any : Type := { v : Value // v.oneCell' = true }
instance : Enc Int := ⟨1, fun x => [.int .i64 x], 0, fun _ => rfl, by simp [Value.oneCell'], by decide⟩
instance {k : IntKind} : Enc (KInt k) := ⟨1, fun x => [.int k x], (0 : Int), fun _ => rfl, by simp [Value.oneCell'], by decide⟩
instance : Enc Bool := ⟨1, fun x => [.bool x], false, fun _ => rfl, by simp [Value.oneCell'], by decide⟩
instance : Enc ByteArray := ⟨1, fun x => [.string x], ⟨#[]⟩, fun _ => rfl, by simp [Value.oneCell'], by decide⟩
instance : Enc SV := ⟨1, fun x => [.slice x.a x.n x.cap], SV.nil, fun _ => rfl, by simp [Value.oneCell'], by decide⟩
instance : Enc (Option Addr) := ⟨1, fun x => [.pointer x], none, fun _ => rfl, by simp [Value.oneCell'], by decide⟩
instance : Enc Any := ⟨1, fun x => [x.1], ⟨.bool false, rfl⟩, fun _ => rfl, by intro x u hu; simp at hu; subst hu; exact x.2, by decide⟩
instance {α β : Type} [Enc α] [Enc β] : Enc (α × β) :=
  ⟨Enc.sz α + Enc.sz β, fun x => Enc.cells x.1 ++ Enc.cells x.2, (Enc.dflt, Enc.dflt), fun x => by rw [List.length_append, Enc.len, Enc.len],
   fun x u hu => by exact (List.mem_append.1 hu).elim (Enc.one _ _) (Enc.one _ _), by have := Enc.pos (α := α); omega⟩
def flat {α : Type} [Enc α] (xs : List α) : List Value := xs.flatMap Enc.cells
/-- The element number i. -/
def at_ {α : Type} [Enc α] (xs : List α) (i : Int) : α := xs.getD i.toNat Enc.dflt
theorem at_nat {α : Type} [Enc α] (xs : List α) (i : Nat) (h : i < xs.length) : at_ xs (i : Int) = xs[i] := by
  simp [at_, List.getD_eq_getElem?_getD, h]
theorem at_int {α : Type} [Enc α] (xs : List α) (i : Int) (h0 : 0 ≤ i) (h : i < xs.length) : at_ xs i = xs[i.toNat]'(by omega) := by
  simp [at_, List.getD_eq_getElem?_getD, show i.toNat < xs.length by omega]

theorem flat_len {α : Type} [Enc α] (xs : List α) : (flat xs).length = xs.length * Enc.sz α := by
  induction xs with
  | nil => simp [flat]
  | cons x xs ih => simp only [flat, List.flatMap_cons, List.length_append, Enc.len, List.length_cons] at *; rw [ih, Nat.add_mul]; omega
theorem flat_append {α : Type} [Enc α] (xs ys : List α) : flat (xs ++ ys) = flat xs ++ flat ys := by simp [flat]
theorem flat_one {α : Type} [Enc α] (x : α) : flat [x] = Enc.cells x := by simp [flat]
theorem flat_get {α : Type} [Enc α] : ∀ (xs : List α) (i k : Nat) (v : Value), i < xs.length → (Enc.cells (xs.getD i Enc.dflt))[k]? = some v → (flat xs)[i * Enc.sz α + k]? = some v
  | [], i, k, v, h, _ => by simp at h
  | x :: xs, 0, k, v, _, h => by
    simp only [List.getD_cons_zero] at h
    simp only [flat, List.flatMap_cons, Nat.zero_mul, Nat.zero_add]
    rw [List.getElem?_append_left (List.getElem?_eq_some_iff.1 h).1]; exact h
  | x :: xs, i + 1, k, v, hi, h => by
    simp only [List.getD_cons_succ] at h
    have := flat_get xs i k v (by simpa using hi) h
    simp only [flat, List.flatMap_cons]
    rw [List.getElem?_append_right (by rw [Enc.len, Nat.add_mul]; omega), Enc.len]
    have e : (i + 1) * Enc.sz α + k - Enc.sz α = i * Enc.sz α + k := by rw [Nat.add_mul]; omega
    rw [e]; exact this
theorem flat_one' {α : Type} [Enc α] (xs : List α) : ∀ u ∈ flat xs, u.oneCell' = true := by
  intro u hu
  obtain ⟨x, _, hx⟩ := List.mem_flatMap.1 hu
  exact Enc.one _ _ hx
theorem flat_set {α : Type} [Enc α] : ∀ (xs : List α) (i k : Nat) (y : α) (vs : List Value), i < xs.length → k + vs.length ≤ Enc.sz α → Enc.cells y = (Enc.cells (xs.getD i Enc.dflt)).take k ++ vs ++ (Enc.cells (xs.getD i Enc.dflt)).drop (k + vs.length) →
    flat (xs.set i y) = (flat xs).take (i * Enc.sz α + k) ++ vs ++ (flat xs).drop (i * Enc.sz α + k + vs.length)
  | [], i, k, y, vs, h, _, _ => by simp at h
  | x :: xs, 0, k, y, vs, _, hk, h => by
    simp only [List.getD_cons_zero] at h
    simp only [flat, List.set_cons_zero, List.flatMap_cons, h, Nat.zero_mul, Nat.zero_add]
    have hx := Enc.len x
    rw [List.take_append_of_le_length (by omega), List.drop_append_of_le_length (by omega)]
    simp
  | x :: xs, i + 1, k, y, vs, hi, hk, h => by
    simp only [List.getD_cons_succ] at h
    have := flat_set xs i k y vs (by simpa using hi) hk h
    simp only [flat, List.set_cons_succ, List.flatMap_cons] at this ⊢
    rw [this]
    have e : (i + 1) * Enc.sz α + k = (Enc.cells x).length + (i * Enc.sz α + k) := by rw [Enc.len, Nat.add_mul]; omega
    have e2 : (Enc.cells x).length + (i * Enc.sz α + k) + vs.length = (Enc.cells x).length + (i * Enc.sz α + k + vs.length) := by omega
    rw [e, e2, List.take_length_add_append, List.drop_length_add_append]
    simp [List.append_assoc]

/-! ### Blocks and slices -/
/-- The block b holds just these cells. -/
def Bk (b : Nat) (t : TypeId) (cs : List Value) : HP := fun R => R = [(b, .cells cs.toArray t (0, 0))]
/-- A block that is no row of cells. -/
def Ob (b : Nat) (o : Obj) : HP := fun R => R = [(b, o)]
/-- A slice held alone, with its spare room. -/
def OwnS {α : Type} [Enc α] (e : TypeId) (s : SV) (xs : List α) : HP := fun R => OwnR e (Enc.sz α) (.slice s.a s.n s.cap) s.n (flat xs) R
/-- A literal that is going to be appended. -/
def LitS {α : Type} [Enc α] (e : TypeId) (s : SV) (xs : List α) : HP := OwnS e s xs
def eAddr (s : SV) (sz : Nat) (i : Int) (k : Nat) : Addr := ⟨(s.a.getD ⟨0, 0, none⟩).block, (s.a.getD ⟨0, 0, none⟩).off + i.toNat * sz + k, none⟩
/-- In w, s is a slice of xs. -/
structure RdW {α : Type} [Enc α] (w : World) (s : SV) (xs : List α) : Prop where
  len : s.n = xs.length
  cap : s.n ≤ s.cap
  plain : s.n = 0 ∨ ∃ b o, s.a = some ⟨b, o, none⟩
  cells : ∀ i k v, i < xs.length → (Enc.cells (xs.getD i Enc.dflt))[k]? = some v → w.cell? (eAddr s (Enc.sz α) (i : Int) k) = some v
theorem OwnR.rdW {α : Type} [Enc α] {e : TypeId} {s : SV} {xs : List α} {R : Foot} (h : OwnR e (Enc.sz α) (.slice s.a s.n s.cap) s.n (flat xs) R) {w : World} (hw : ∀ b o, (b, o) ∈ R → w.heap[b]? = some o) : RdW w s xs := by
  have hp := Enc.pos (α := α)
  have hn : s.n = xs.length := by
    have h1 := h.1
    rw [flat_len] at h1
    exact (Nat.eq_of_mul_eq_mul_right hp h1).symm
  rcases h.2 with ⟨h1, h2, h3⟩ | ⟨g, cap, cur, h1, h2, h3, h4, h5, h6⟩
  · cases s with
    | mk a n c =>
      cases h1
      exact ⟨hn, Nat.le_refl _, .inl rfl, fun i k v hi => by simp only at hn; omega⟩
  · cases s with
    | mk a n c =>
      cases h1
      refine ⟨hn, h2, .inr ⟨g, 0, rfl⟩, fun i k v hi hv => ?_⟩
      have hk : k < Enc.sz α := by have := (List.getElem?_eq_some_iff.1 hv).1; rwa [Enc.len] at this
      have hg := flat_get xs i k v hi hv
      rw [← h5, List.getElem?_take] at hg
      split at hg
      · have := hw g _ (by rw [h6]; exact List.mem_singleton.2 rfl)
        simp only [eAddr, Option.getD_some, World.cell?, this, Int.toNat_natCast, Nat.zero_add]
        simpa using hg
      · cases hg
theorem OwnR.len {α : Type} [Enc α] {e : TypeId} {s : SV} {xs : List α} {R : Foot} (h : OwnR e (Enc.sz α) (.slice s.a s.n s.cap) s.n (flat xs) R) : s.n = xs.length := by
  have h1 := h.1
  rw [flat_len] at h1
  exact (Nat.eq_of_mul_eq_mul_right (Enc.pos (α := α)) h1).symm

/-- s is there for good, as xs. -/
class SlI (I : Foot) (s : SV) (α : outParam Type) (e : outParam (Enc α)) (xs : outParam (List α)) : Prop where
  out : ∀ w : World, (∀ b o, (b, o) ∈ I → w.heap[b]? = some o) → RdW w s xs
/-- s can be read, as xs. -/
class RdS (I : Foot) (L : List HP) (s : SV) (α : outParam Type) (e : outParam (Enc α)) (xs : outParam (List α)) : Prop where
  out : ∀ w0 w, SL w0 I L w → RdW w s xs
class OwnIn (L : List HP) (s : SV) (α : outParam Type) (e : outParam (Enc α)) (xs : outParam (List α)) : Prop where
  out : ∀ I w0 w, SL w0 I L w → RdW w s xs
instance SlI.left {R I : Foot} {s : SV} {α : Type} {e : Enc α} {xs : List α} [h : SlI R s α e xs] : SlI (R ++ I) s α e xs := ⟨fun w hw => h.out w fun b o hb => hw b o (List.mem_append_left _ hb)⟩
instance SlI.right {R I : Foot} {s : SV} {α : Type} {e : Enc α} {xs : List α} [h : SlI I s α e xs] : SlI (R ++ I) s α e xs := ⟨fun w hw => h.out w fun b o hb => hw b o (List.mem_append_right _ hb)⟩
theorem SL.mem {w0 : World} {I : Foot} {L : List HP} {w : World} (h : SL w0 I L w) (b : Nat) (o : Obj) (hb : (b, o) ∈ I) : w.heap[b]? = some o := by
  obtain ⟨H, Rs, h1, _, h⟩ := h; exact h.imm _ _ (h1 _ _ hb)
theorem SL.heap {w0 : World} {I : Foot} {p : HP} {L : List HP} {w : World} (h : SL w0 I (p :: L) w) : ∃ R, p R ∧ ∀ b o, (b, o) ∈ R → w.heap[b]? = some o := by
  obtain ⟨H, R, Rs, h1, hp, h2, h3⟩ := h.uncons
  exact ⟨R, hp, fun b o hb => (h3.own (b, o) (List.mem_append_left _ hb)).1⟩
instance RdS.lower {I R : Foot} {L : List HP} {s : SV} {α : Type} {e : Enc α} {xs : List α} [h : RdS I L s α e xs] : RdS (R ++ I) L s α e xs := ⟨fun w0 w hw => h.out w0 w (hw.sub (List.subset_append_right ..))⟩
instance RdS.tail {I : Foot} {L : List HP} {p : HP} {s : SV} {α : Type} {e : Enc α} {xs : List α} [h : RdS I L s α e xs] : RdS I (p :: L) s α e xs := ⟨fun w0 w hw => h.out w0 w (Ent.drop1.sl hw)⟩
instance RdS.own {I : Foot} {L : List HP} {s : SV} {α : Type} {e : Enc α} {xs : List α} [h : OwnIn L s α e xs] : RdS I L s α e xs := ⟨fun w0 w hw => h.out I w0 w hw⟩
instance RdS.imm {I : Foot} {L : List HP} {s : SV} {α : Type} {e : Enc α} {xs : List α} [h : SlI I s α e xs] : RdS I L s α e xs := ⟨fun w0 w hw => h.out w fun b o hb => hw.mem b o hb⟩
instance OwnIn.tail {L : List HP} {p : HP} {s : SV} {α : Type} {e : Enc α} {xs : List α} [h : OwnIn L s α e xs] : OwnIn (p :: L) s α e xs := ⟨fun I w0 w hw => h.out I w0 w (Ent.drop1.sl hw)⟩
instance OwnIn.here {L : List HP} {t : TypeId} {s : SV} {α : Type} {e : Enc α} {xs : List α} : OwnIn (OwnS t s xs :: L) s α e xs := ⟨fun I w0 w hw => by
  obtain ⟨R, hp, h⟩ := hw.heap; exact OwnR.rdW hp h⟩
instance OwnIn.lit {L : List HP} {t : TypeId} {s : SV} {α : Type} {e : Enc α} {xs : List α} : OwnIn (LitS t s xs :: L) s α e xs := ⟨fun I w0 w hw => by
  obtain ⟨R, hp, h⟩ := hw.heap; exact OwnR.rdW hp h⟩
/-- What is held alone, from now on there for good. -/
theorem SlI.ofOwn {α : Type} [e : Enc α] {t : TypeId} {s : SV} {xs : List α} {R : Foot} (h : OwnS t s xs R) : SlI R s α e xs := ⟨fun w hw => OwnR.rdW h hw⟩
theorem SlI.nil {I : Foot} {α : Type} [e : Enc α] : SlI I SV.nil α e [] := ⟨fun w hw => ⟨rfl, Nat.le_refl _, .inl rfl, fun i k v hi => by simp at hi⟩⟩
theorem Ent.ownNil {α : Type} [Enc α] {t : TypeId} {L L' : List HP} (h : Ent L L') : Ent L (OwnS t SV.nil ([] : List α) :: L') := by
  intro Rs hf
  obtain ⟨Rs', K, h1, h2⟩ := h Rs hf
  refine ⟨[] :: Rs', K, ⟨?_, h1⟩, by simpa using h2⟩
  exact ⟨by simp [flat, SV.nil], .inl ⟨rfl, rfl, rfl⟩⟩

/-! ### Literal lists of cells -/
class IsN (a : Nat) (b : outParam Nat) : Prop where
  out : a = b
instance {a : Nat} : IsN a a := ⟨rfl⟩
class GetL (l : List Value) (k : Nat) (v : outParam Value) : Prop where
  out : l[k]? = some v
instance {l : List Value} {v : Value} {k : Nat} [h : IsN k 0] : GetL (v :: l) k v := ⟨by rw [h.out]; rfl⟩
instance {l : List Value} {u v : Value} {k : Nat} [h : GetL l k v] : GetL (u :: l) (k + 1) v := ⟨by simpa using h.out⟩
class SetL (l : List Value) (k : Nat) (v : Value) (l' : outParam (List Value)) : Prop where
  out : l.set k v = l' ∧ k < l.length
instance {l : List Value} {u v : Value} {k : Nat} [h : IsN k 0] : SetL (u :: l) k v (v :: l) := ⟨by rw [h.out]; rfl, by rw [h.out]; simp⟩
instance {l l' : List Value} {u v : Value} {k : Nat} [h : SetL l k v l'] : SetL (u :: l) (k + 1) v (u :: l') := ⟨by simp [h.out.1], by simpa using h.out.2⟩
/-- The first n cells, and the others. -/
class FirstL (l : List Value) (n : Nat) (l1 l2 : outParam (List Value)) : Prop where
  out : l = l1 ++ l2 ∧ l1.length = n
instance {l : List Value} {k : Nat} [h : IsN k 0] : FirstL l k [] l := ⟨rfl, by rw [h.out]; rfl⟩
instance {l l1 l2 : List Value} {u : Value} {n : Nat} [h : FirstL l n l1 l2] : FirstL (u :: l) (n + 1) (u :: l1) l2 := ⟨by rw [h.out.1]; rfl, by simp [h.out.2]⟩
/-- vs is laid over l, from k on. -/
class PutL (l : List Value) (k : Nat) (vs : List Value) (l' : outParam (List Value)) : Prop where
  out : l' = l.take k ++ vs ++ l.drop (k + vs.length) ∧ k + vs.length ≤ l.length
instance {l : List Value} {k : Nat} [h : IsN k 0] : PutL l k [] l := ⟨by rw [h.out]; simp, by rw [h.out]; simp⟩
instance {l l' vs : List Value} {u v : Value} {k : Nat} [hk : IsN k 0] [h : PutL l 0 vs l'] : PutL (u :: l) k (v :: vs) (v :: l') := ⟨by rw [hk.out, h.out.1]; simp, by have := h.out.2; rw [hk.out]; simp at this ⊢; omega⟩
instance {l l' vs : List Value} {u : Value} {k : Nat} [h : PutL l k vs l'] : PutL (u :: l) (k + 1) vs (u :: l') := ⟨by rw [h.out.1]; simp [Nat.add_right_comm], by have := h.out.2; simp at this ⊢; omega⟩
class AppL (l1 l2 : List Value) (l : outParam (List Value)) : Prop where
  out : l1 ++ l2 = l
instance {l : List Value} : AppL [] l l := ⟨rfl⟩
instance {l1 l2 l : List Value} {u : Value} [h : AppL l1 l2 l] : AppL (u :: l1) l2 (u :: l) := ⟨by rw [← h.out]; rfl⟩
/-- The cells of x, written out. -/
class CellsL (α : Type) [Enc α] (x : α) (l : outParam (List Value)) : Prop where
  out : Enc.cells x = l
instance {x : Int} : CellsL Int x [.int .i64 x] := ⟨rfl⟩
def ofK {k : IntKind} (x : KInt k) : Int := x
instance {k : IntKind} {x : KInt k} : CellsL (KInt k) x [.int k (ofK x)] := ⟨rfl⟩
instance {x : Bool} : CellsL Bool x [.bool x] := ⟨rfl⟩
instance {x : ByteArray} : CellsL ByteArray x [.string x] := ⟨rfl⟩
instance {x : SV} : CellsL SV x [.slice x.a x.n x.cap] := ⟨rfl⟩
instance {x : Option Addr} : CellsL (Option Addr) x [.pointer x] := ⟨rfl⟩
instance {x : Any} : CellsL Any x [x.1] := ⟨rfl⟩
instance (priority := 900) {α β : Type} [Enc α] [Enc β] {x : α × β} {l1 l2 l : List Value} [h1 : CellsL α x.1 l1] [h2 : CellsL β x.2 l2] [h : AppL l1 l2 l] : CellsL (α × β) x l := ⟨by rw [← h.out, ← h1.out, ← h2.out]; rfl⟩
instance {α β : Type} [Enc α] [Enc β] {a : α} {b : β} {l1 l2 l : List Value} [h1 : CellsL α a l1] [h2 : CellsL β b l2] [h : AppL l1 l2 l] : CellsL (α × β) (a, b) l := ⟨by rw [← h.out, ← h1.out, ← h2.out]; rfl⟩
class SzIs (α : Type) [Enc α] (n : outParam Nat) : Prop where
  out : Enc.sz α = n
instance : SzIs Int 1 := ⟨rfl⟩
instance {k : IntKind} : SzIs (KInt k) 1 := ⟨rfl⟩
instance : SzIs Bool 1 := ⟨rfl⟩
instance : SzIs ByteArray 1 := ⟨rfl⟩
instance : SzIs SV 1 := ⟨rfl⟩
instance : SzIs (Option Addr) 1 := ⟨rfl⟩
instance : SzIs Any 1 := ⟨rfl⟩
instance {α β : Type} [Enc α] [Enc β] {m n k : Nat} [h1 : SzIs α m] [h2 : SzIs β n] [h : IsN (m + n) k] : SzIs (α × β) k := ⟨by rw [← h.out, ← h1.out, ← h2.out]; rfl⟩
/-- Of which y these are the cells. -/
class Dec (α : Type) [Enc α] (l : List Value) (y : outParam α) : Prop where
  out : Enc.cells y = l
instance {x : Int} : Dec Int [.int .i64 x] x := ⟨rfl⟩
def toK (k : IntKind) (x : Int) : KInt k := x
instance {k : IntKind} {x : Int} : Dec (KInt k) [.int k x] (toK k x) := ⟨rfl⟩
instance {x : Bool} : Dec Bool [.bool x] x := ⟨rfl⟩
instance {x : ByteArray} : Dec ByteArray [.string x] x := ⟨rfl⟩
instance {x : SV} : Dec SV [.slice x.a x.n x.cap] x := ⟨rfl⟩
instance : Dec SV [.slice none 0 0] SV.nil := ⟨rfl⟩
instance {x : Option Addr} : Dec (Option Addr) [.pointer x] x := ⟨rfl⟩
instance {x : Any} : Dec Any [x.1] x := ⟨rfl⟩
instance {α β : Type} [Enc α] [Enc β] {n : Nat} {l l1 l2 : List Value} {a : α} {b : β} [hs : SzIs α n] [hf : FirstL l n l1 l2] [h1 : Dec α l1 a] [h2 : Dec β l2 b] : Dec (α × β) l (a, b) := ⟨by rw [hf.out.1, ← h1.out, ← h2.out]; rfl⟩
/-- The cells of a value. -/
class CellsV (v : Value) (l : outParam (List Value)) : Prop where
  out : v.cells = l.toArray ∧ (∀ u ∈ l, u.oneCell' = true)
instance {k : IntKind} {x : Int} : CellsV (.int k x) [.int k x] := ⟨rfl, by simp [Value.oneCell']⟩
instance {x : Bool} : CellsV (.bool x) [.bool x] := ⟨rfl, by simp [Value.oneCell']⟩
instance {x : ByteArray} : CellsV (.string x) [.string x] := ⟨rfl, by simp [Value.oneCell']⟩
instance {x : Option Addr} : CellsV (.pointer x) [.pointer x] := ⟨rfl, by simp [Value.oneCell']⟩
instance {x : Option Nat} : CellsV (.map x) [.map x] := ⟨rfl, by simp [Value.oneCell']⟩
instance {x : Option Addr} {n c : Nat} : CellsV (.slice x n c) [.slice x n c] := ⟨rfl, by simp [Value.oneCell']⟩
instance {f : Fn} {x y : Array Value} : CellsV (.func f x y) [.func f x y] := ⟨rfl, by simp [Value.oneCell']⟩
instance : CellsV .nilFunc [.nilFunc] := ⟨rfl, by simp [Value.oneCell']⟩
instance : CellsV .nilIface [.nilIface] := ⟨rfl, by simp [Value.oneCell']⟩
instance {t : TypeId} {v : Value} : CellsV (.iface t v) [.iface t v] := ⟨rfl, by simp [Value.oneCell']⟩
class OnesL (l : List Value) : Prop where
  out : ∀ u ∈ l, u.oneCell' = true
instance : OnesL [] := ⟨by simp⟩
instance {v : Value} {l : List Value} [h1 : CellsV v [v]] [h : OnesL l] : OnesL (v :: l) := ⟨by
  intro u hu; rcases List.mem_cons.1 hu with rfl | hu
  · exact h1.out.2 _ (List.mem_singleton.2 rfl)
  · exact h.out _ hu⟩
instance {l : List Value} [h : OnesL l] : CellsV (.agg l.toArray) l := ⟨rfl, h.out⟩
class FindBk (L : List HP) (b : Nat) (t : outParam TypeId) (cs : outParam (List Value)) (L' : outParam (List HP)) : Prop where
  out : Ent L (Bk b t cs :: L')
instance {L : List HP} {b : Nat} {t : TypeId} {cs : List Value} : FindBk (Bk b t cs :: L) b t cs L := ⟨Ent.refl⟩
instance (priority := 900) {L L' : List HP} {p : HP} {b : Nat} {t : TypeId} {cs : List Value} [h : FindBk L b t cs L'] : FindBk (p :: L) b t cs (p :: L') := ⟨(Ent.cons h.out).trans Ent.swap⟩
class FindOwn (L : List HP) (s : SV) (t : outParam TypeId) (α : outParam Type) (e : outParam (Enc α)) (xs : outParam (List α)) (L' : outParam (List HP)) : Prop where
  out : Ent L (OwnS t s xs :: L')
instance {L : List HP} {s : SV} {t : TypeId} {α : Type} {e : Enc α} {xs : List α} : FindOwn (OwnS t s xs :: L) s t α e xs L := ⟨Ent.refl⟩
instance (priority := 900) {L L' : List HP} {p : HP} {s : SV} {t : TypeId} {α : Type} {e : Enc α} {xs : List α} [h : FindOwn L s t α e xs L'] : FindOwn (p :: L) s t α e xs (p :: L') := ⟨(Ent.cons h.out).trans Ent.swap⟩
instance {L : List HP} {s : SV} {t : TypeId} {α : Type} {e : Enc α} {xs : List α} : FindOwn (LitS t s xs :: L) s t α e xs L := ⟨Ent.refl⟩
class FindLit (L : List HP) (s : SV) (t : outParam TypeId) (α : outParam Type) (e : outParam (Enc α)) (xs : outParam (List α)) (L' : outParam (List HP)) : Prop where
  out : Ent L (LitS t s xs :: L')
instance {L : List HP} {s : SV} {t : TypeId} {α : Type} {e : Enc α} {xs : List α} : FindLit (LitS t s xs :: L) s t α e xs L := ⟨Ent.refl⟩
instance (priority := 900) {L L' : List HP} {p : HP} {s : SV} {t : TypeId} {α : Type} {e : Enc α} {xs : List α} [h : FindLit L s t α e xs L'] : FindLit (p :: L) s t α e xs (p :: L') := ⟨(Ent.cons h.out).trans Ent.swap⟩
end Go.Fw
