/- The operations, found by their form. Conditions: none. -/
import Derived.Test.YtfhelnalegochaaSlV
namespace Go.Fw
open Go Go.RowKit
set_option linter.unusedVariables false
set_option linter.unusedSimpArgs false

/-! ### Operands -/
class IsB (a b : Bool) : Prop where
  out : a = b
instance {a : Bool} : IsB a a := ⟨rfl⟩
class EvT (ρ : Env) (t : Nat) (v : outParam Value) : Prop where
  out : ρ.f t = v
class EvL (l : List Value) (t : Nat) (v : outParam Value) : Prop where
  out : l.getD t undef = v
instance {v : Value} {l : List Value} : EvL (v :: l) 0 v := ⟨rfl⟩
instance {u v : Value} {l : List Value} {t : Nat} [h : EvL l t v] : EvL (u :: l) (t + 1) v := ⟨by simpa using h.out⟩
instance {l : List Value} {t : Nat} {v : Value} [h : EvL l t v] : EvT (envOf l) t v := ⟨h.out⟩
/-- upd, its place known to be within. -/
def put1 (ρ : Env) (d : Nat) (v : Value) : Env := ⟨fun i => bif Nat.beq i d then v else ρ.f i, ρ.ms⟩
theorem upd_put1 {n d : Nat} (h : Nat.blt d n = true) (ρ : Env) (v : Value) : upd n ρ d v = put1 ρ d v := by
  unfold upd put1
  congr 1
  funext i
  rw [h, Bool.and_true]
instance EvT.there {ρ : Env} {d t : Nat} {u v : Value} [hn : IsB (Nat.beq t d) false] [h : EvT ρ t v] : EvT (put1 ρ d u) t v := ⟨by simp only [put1, hn.out]; exact h.out⟩
instance (priority := 1100) EvT.here {ρ : Env} {d : Nat} {v : Value} : EvT (put1 ρ d v) d v := ⟨by simp [put1]⟩
instance {ρ : Env} {l : List Nat} {t : Nat} {v : Value} [h : EvT ρ t v] : EvT (envM l ρ) t v := ⟨h.out⟩
instance EvT.lthere {ρ : Env} {d t : Nat} {u v : Value} {l : List (Nat × Value)} [hn : IsB (Nat.beq t d) false] [h : EvT (envL l ρ) t v] : EvT (envL ((d, u) :: l) ρ) t v := ⟨by simp only [envL, hn.out]; exact h.out⟩
instance (priority := 1100) EvT.lhere {ρ : Env} {d : Nat} {v : Value} {l : List (Nat × Value)} : EvT (envL ((d, v) :: l) ρ) d v := ⟨by simp [envL]⟩
class Ev (ρ : Env) (x : Operand) (v : outParam Value) : Prop where
  out : evalE ρ x = v
instance {ρ : Env} {t : Nat} {v : Value} [h : EvT ρ t v] : Ev ρ (.tmp t) v := ⟨h.out⟩
instance {ρ : Env} {v : Value} : Ev ρ (.const v) v := ⟨rfl⟩
instance (priority := 1100) {ρ : Env} : Ev ρ (.const (.slice none 0 0)) (.slice SV.nil.a SV.nil.n SV.nil.cap) := ⟨rfl⟩
instance {ρ : Env} {f : FuncId} : Ev ρ (.func f) (.func (.func f) #[] #[]) := ⟨rfl⟩
instance {ρ : Env} {g : Nat} : Ev ρ (.global g) (.pointer (some ⟨g, 0, none⟩)) := ⟨rfl⟩
class EvAll (ρ : Env) (xs : List Operand) (vs : outParam (List Value)) : Prop where
  out : xs.map (evalE ρ) = vs
instance {ρ : Env} : EvAll ρ [] [] := ⟨rfl⟩
instance {ρ : Env} {x : Operand} {xs : List Operand} {v : Value} {vs : List Value} [h : Ev ρ x v] [k : EvAll ρ xs vs] : EvAll ρ (x :: xs) (v :: vs) := ⟨by rw [List.map_cons, h.out, k.out]⟩

/-! ### What the program's tables say -/
class Und (P : Program) (t : TypeId) (d : outParam TypeDesc) : Prop where
  out : P.underlying t = some d
class Inf (P : Program) (t : TypeId) (z : outParam (List Value)) (size bytes : outParam Nat) : Prop where
  out : (P.info? t).map (fun i => (i.zero.map (·.cells), i.size, i.bytes)) = some (some z.toArray, size, bytes)
/-- One cell, or several. -/
class One (P : Program) (t : TypeId) : Prop where
  out : oneTy P t = true
class Agg (P : Program) (t : TypeId) (n : outParam Nat) : Prop where
  out : aggTy P t = some n
class FieldO (P : Program) (s : TypeId) (f : Nat) (off : outParam Nat) : Prop where
  out : fieldOff P s f = some off
class Callb (P : Program) (f : FuncId) : Prop where
  out : callable P f = true
/-- The words for a type's values. -/
class Phys (P : Program) (t : TypeId) (α : outParam Type) (e : outParam (Enc α)) : Prop where
  out : True
theorem Inf.size {P : Program} {t : TypeId} {z : List Value} {n m : Nat} (h : Inf P t z n m) : (P.info? t).map (·.size) = some n := by
  obtain ⟨i, h1, h2⟩ := Option.map_eq_some_iff.1 h.out
  rw [h1]; simp only [Prod.mk.injEq] at h2; simp [h2.2.1]
theorem Inf.zero {P : Program} {t : TypeId} {z : List Value} {n m : Nat} (h : Inf P t z n m) : ∃ z', (P.info? t).bind (·.zero) = some z' ∧ z'.cells = z.toArray ∧ (P.info? t).map (fun i => (i.zero, i.size, i.bytes)) = some (some z', n, m) := by
  obtain ⟨i, h1, h2⟩ := Option.map_eq_some_iff.1 h.out
  simp only [Prod.mk.injEq] at h2
  obtain ⟨z', h3, h4⟩ := Option.map_eq_some_iff.1 h2.1
  exact ⟨z', by rw [h1]; exact h3, h4, by rw [h1]; simp [h3, h2.2.1, h2.2.2]⟩

theorem fold_put (vs : List Value) : ∀ (cs : List Value) (i : Nat), i + vs.length ≤ cs.length → ((vs.foldl (fun (p : Array Value × Nat) v => (p.1.setIfInBounds p.2 v, p.2 + 1)) (cs.toArray, i)).1) = (cs.take i ++ vs ++ cs.drop (i + vs.length)).toArray := by
  induction vs with
  | nil => intro cs i h; simp
  | cons v vs ih =>
    intro cs i h
    simp only [List.length_cons] at h
    simp only [List.foldl_cons]
    have e : cs.toArray.setIfInBounds i v = (cs.set i v).toArray := by simp
    rw [e, ih _ _ (by simp; omega)]
    congr 1
    apply List.ext_getElem?
    intro q
    simp only [List.length_cons, List.getElem?_append, List.length_append, List.length_take, List.length_set, List.getElem?_take, List.getElem?_set, List.getElem?_drop, List.getElem?_cons]
    rcases Nat.lt_trichotomy q i with hq | hq | hq
    · simp only [show q < min (i + 1) cs.length + vs.length by omega, show q < min (i + 1) cs.length by omega, show q < i + 1 by omega, show q < min i cs.length + (vs.length + 1) by omega, show q < min i cs.length by omega, if_true, show i ≠ q by omega, hq, if_false]
    · subst hq
      simp only [show q < min (q + 1) cs.length + vs.length by omega, show q < min (q + 1) cs.length by omega, show q < q + 1 by omega, show q < min q cs.length + (vs.length + 1) by omega, show ¬ q < min q cs.length by omega, if_true, show q < cs.length by omega, if_false, show q - min q cs.length = 0 by omega]
    · simp only [show ¬ q < min i cs.length by omega, show ¬ q < min (i + 1) cs.length by omega, if_false, show ¬ q - min i cs.length = 0 by omega, show min (i + 1) cs.length = i + 1 by omega, show min i cs.length = i by omega]
      by_cases h2 : q < i + 1 + vs.length
      · simp only [h2, if_true, show q < i + (vs.length + 1) by omega, show q - (i + 1) = q - i - 1 by omega, show ¬ q < i + 1 by omega, show ¬ q < i by omega, show ¬ q - i = 0 by omega, if_false]
      · simp only [h2, if_false, show ¬ q < i + (vs.length + 1) by omega, show i + 1 + vs.length + (q - (i + 1 + vs.length)) = q by omega, show i + (vs.length + 1) + (q - (i + (vs.length + 1))) = q by omega, show i ≠ q by omega]
theorem fold_zip (vs : List Value) : ∀ (cs : List Value) (o j : Nat), o + j + vs.length ≤ cs.length → ((vs.zipIdx j).foldl (fun (cs : Array Value) (x : Value × Nat) => cs.setIfInBounds (o + x.2) x.1) cs.toArray) = (cs.take (o + j) ++ vs ++ cs.drop (o + j + vs.length)).toArray := by
  intro cs o j h
  rw [← fold_put vs cs (o + j) h]
  induction vs generalizing cs j with
  | nil => simp
  | cons v vs ih =>
    simp only [List.length_cons] at h
    simp only [List.zipIdx_cons, List.foldl_cons]
    have e : cs.toArray.setIfInBounds (o + j) v = (cs.set (o + j) v).toArray := by simp
    rw [e, ih _ (j + 1) (by simp; omega)]
    rfl
theorem fold_zip0 (l cs : List Value) (o : Nat) (h : o + l.length ≤ cs.length) : Array.foldl (fun (cs : Array Value) (x : Value × Nat) => cs.setIfInBounds (o + x.2) x.1) cs.toArray l.toArray.zipIdx = (cs.take o ++ l ++ cs.drop (o + l.length)).toArray := by
  have := fold_zip l cs o 0 (by omega)
  simp only [Nat.add_zero] at this
  rw [← this, ← Array.foldl_toList, Array.toList_zipIdx]
/-! ### Operations that yield a value, and do nothing else -/
class OpM (P : Program) (ρ : Env) (A : World → Prop) (op : Op) (ty : TypeId) (v : outParam Value) (S : outParam Prop) : Prop where
  out : S → OpP P ρ op ty A v
section
variable {P : Program} {ρ : Env} {A : World → Prop} {ty : TypeId}
instance {x : Operand} {v : Value} [h : Ev ρ x v] : OpM P ρ A (.move x) ty v True := ⟨fun _ => P_move h.out⟩
instance {x : Operand} {v : Value} [h : Ev ρ x v] : OpM P ρ A (.assign x) ty v True := ⟨fun _ => P_assign h.out⟩
instance {c x y : Operand} {v : Value} [hc : Ev ρ c (.bool true)] [h : Ev ρ x v] : OpM P ρ A (.pick c x y) ty v True := ⟨fun _ => P_pickT hc.out rfl h.out⟩
instance {c x y : Operand} {v : Value} [hc : Ev ρ c (.bool false)] [h : Ev ρ y v] : OpM P ρ A (.pick c x y) ty v True := ⟨fun _ => P_pickF hc.out rfl h.out⟩
instance {x : Operand} {a : Addr} [h : Ev ρ x (.pointer (some a))] : OpM P ρ A (.nilCheck x) ty (.pointer (some a)) True := ⟨fun _ => P_nilCheck h.out⟩
instance {x : Operand} {t : TypeId} {p : Prop} [Decidable p] [h : Ev ρ x (.bool (decide p))] : OpM P ρ A (.unOp .not t x) ty (.bool (decide (¬ p))) True := ⟨fun _ => P_notD h.out⟩
instance (priority := 900) {x : Operand} {t : TypeId} {b : Bool} [h : Ev ρ x (.bool b)] : OpM P ρ A (.unOp .not t x) ty (.bool (!b)) True := ⟨fun _ => P_not h.out⟩
instance (priority := 1100) {x : Operand} {t : TypeId} [h : Ev ρ x (.bool true)] : OpM P ρ A (.unOp .not t x) ty (.bool false) True := ⟨fun _ => P_not h.out⟩
instance (priority := 1100) {x : Operand} {t : TypeId} [h : Ev ρ x (.bool false)] : OpM P ρ A (.unOp .not t x) ty (.bool true) True := ⟨fun _ => P_not h.out⟩
class NthL (l : List Value) (i : Nat) (v : outParam Value) : Prop where
  out : l[i]? = some v
instance {v : Value} {l : List Value} : NthL (v :: l) 0 v := ⟨rfl⟩
instance {u v : Value} {l : List Value} {i : Nat} [h : NthL l i v] : NthL (u :: l) (i + 1) v := ⟨by simpa using h.out⟩
instance {x : Operand} {i : Nat} {vs : List Value} {v : Value} [h : Ev ρ x (.tuple vs.toArray)] [k : NthL vs i v] : OpM P ρ A (.extract x i) ty v True := ⟨fun _ => P_extract h.out (by simpa using k.out)⟩
instance {f : FuncId} {xs : List Operand} {vs : List Value} [h : EvAll ρ xs vs] : OpM P ρ A (.makeFunc (.func f) #[] xs.toArray) ty (.func (.func f) #[] vs.toArray) True := ⟨fun _ => by
  intro d pos af g w _; simp [execOp, Instr.makeFunc, go_sem, ← h.out]⟩
-- whole numbers
instance {x y : Operand} {t u : TypeId} {a b : Int} [h1 : Ev ρ x (.int .i64 a)] [h2 : Ev ρ y (.int .i64 b)] : OpM P ρ A (.binOp .add t x y u) ty (.int .i64 (a + b)) (-9223372036854775808 ≤ a + b ∧ a + b ≤ 9223372036854775807) := ⟨fun h => P_addB h1.out h2.out h⟩
instance {x y : Operand} {t u : TypeId} {a b : Int} [h1 : Ev ρ x (.int .i64 a)] [h2 : Ev ρ y (.int .i64 b)] : OpM P ρ A (.binOp .sub t x y u) ty (.int .i64 (a - b)) (-9223372036854775808 ≤ a - b ∧ a - b ≤ 9223372036854775807) := ⟨fun h => P_subB h1.out h2.out h⟩
instance {x y : Operand} {t u : TypeId} {a b : Int} [h1 : Ev ρ x (.int .i64 a)] [h2 : Ev ρ y (.int .i64 b)] : OpM P ρ A (.binOp .mul t x y u) ty (.int .i64 (a * b)) (-9223372036854775808 ≤ a * b ∧ a * b ≤ 9223372036854775807) := ⟨fun h => P_mulB h1.out h2.out h⟩
instance {x y : Operand} {t u : TypeId} {a b : Int} [h1 : Ev ρ x (.int .i64 a)] [h2 : Ev ρ y (.int .i64 b)] : OpM P ρ A (.binOp .quo t x y u) ty (.int .i64 (a / b)) ((0 ≤ a ∧ a ≤ 9223372036854775807) ∧ 0 < b) := ⟨fun h => P_quoB h1.out h2.out h.1 h.2⟩
instance {x y : Operand} {t u : TypeId} {a b : Int} [h1 : Ev ρ x (.int .i64 a)] [h2 : Ev ρ y (.int .i64 b)] : OpM P ρ A (.binOp .rem t x y u) ty (.int .i64 (a % b)) (0 ≤ a ∧ 0 < b) := ⟨fun h => P_remB h1.out h2.out h.1 h.2⟩
instance (priority := 900) {x y : Operand} {t u : TypeId} {k : IntKind} {a b : Int} [h1 : Ev ρ x (.int k a)] [h2 : Ev ρ y (.int k b)] : OpM P ρ A (.binOp .add t x y u) ty (.int k (k.wrap (a + b))) True := ⟨fun _ => P_add h1.out h2.out⟩
instance (priority := 900) {x y : Operand} {t u : TypeId} {k : IntKind} {a b : Int} [h1 : Ev ρ x (.int k a)] [h2 : Ev ρ y (.int k b)] : OpM P ρ A (.binOp .sub t x y u) ty (.int k (k.wrap (a - b))) True := ⟨fun _ => P_sub h1.out h2.out⟩
instance (priority := 900) {x y : Operand} {t u : TypeId} {k : IntKind} {a b : Int} [h1 : Ev ρ x (.int k a)] [h2 : Ev ρ y (.int k b)] : OpM P ρ A (.binOp .mul t x y u) ty (.int k (k.wrap (a * b))) True := ⟨fun _ => P_mul h1.out h2.out⟩
instance {x y : Operand} {t u : TypeId} {k : IntKind} {a b : Int} [h1 : Ev ρ x (.int k a)] [h2 : Ev ρ y (.int k b)] : OpM P ρ A (.binOp .and t x y u) ty (.int k (Go.bits .and k a b)) True := ⟨fun _ => P_bits (.inl rfl) h1.out h2.out⟩
instance {x y : Operand} {t u : TypeId} {k : IntKind} {a b : Int} [h1 : Ev ρ x (.int k a)] [h2 : Ev ρ y (.int k b)] : OpM P ρ A (.binOp .or t x y u) ty (.int k (Go.bits .or k a b)) True := ⟨fun _ => P_bits (.inr (.inl rfl)) h1.out h2.out⟩
instance {x y : Operand} {t u : TypeId} {k : IntKind} {a b : Int} [h1 : Ev ρ x (.int k a)] [h2 : Ev ρ y (.int k b)] : OpM P ρ A (.binOp .xor t x y u) ty (.int k (Go.bits .xor k a b)) True := ⟨fun _ => P_bits (.inr (.inr rfl)) h1.out h2.out⟩
instance {x y : Operand} {t u : TypeId} {k k' : IntKind} {a s : Int} [h1 : Ev ρ x (.int k a)] [h2 : Ev ρ y (.int k' s)] : OpM P ρ A (.binOp .shr t x y u) ty (.int k (a.fdiv (2 ^ s.toNat))) (0 ≤ s ∧ s ≤ k.bits) := ⟨fun h => P_shr h1.out (s := s.toNat) (by rw [h2.out]; congr 1; omega) (by omega)⟩
instance {x y : Operand} {t u : TypeId} {k : IntKind} {a b : Int} [h1 : Ev ρ x (.int k a)] [h2 : Ev ρ y (.int k b)] : OpM P ρ A (.binOp .lss t x y u) ty (.bool (decide (a < b))) True := ⟨fun _ => P_lss h1.out h2.out⟩
instance {x y : Operand} {t u : TypeId} {k : IntKind} {a b : Int} [h1 : Ev ρ x (.int k a)] [h2 : Ev ρ y (.int k b)] : OpM P ρ A (.binOp .leq t x y u) ty (.bool (decide (a ≤ b))) True := ⟨fun _ => P_leq h1.out h2.out⟩
instance {x y : Operand} {t u : TypeId} {k : IntKind} {a b : Int} [h1 : Ev ρ x (.int k a)] [h2 : Ev ρ y (.int k b)] : OpM P ρ A (.binOp .gtr t x y u) ty (.bool (decide (b < a))) True := ⟨fun _ => P_gtr h1.out h2.out⟩
instance {x y : Operand} {t u : TypeId} {k : IntKind} {a b : Int} [h1 : Ev ρ x (.int k a)] [h2 : Ev ρ y (.int k b)] : OpM P ρ A (.binOp .geq t x y u) ty (.bool (decide (b ≤ a))) True := ⟨fun _ => P_geq h1.out h2.out⟩
instance {x y : Operand} {t u : TypeId} {k : IntKind} {a b : Int} [h1 : Ev ρ x (.int k a)] [h2 : Ev ρ y (.int k b)] : OpM P ρ A (.binOp .eql t x y u) ty (.bool (decide (a = b))) True := ⟨fun _ => P_eqI h1.out h2.out⟩
instance {x y : Operand} {t u : TypeId} {k : IntKind} {a b : Int} [h1 : Ev ρ x (.int k a)] [h2 : Ev ρ y (.int k b)] : OpM P ρ A (.binOp .neq t x y u) ty (.bool (decide (a ≠ b))) True := ⟨fun _ => P_neI h1.out h2.out⟩
instance {x : Operand} {t : TypeId} {a : Int} [h : Ev ρ x (.int .i64 a)] : OpM P ρ A (.unOp .neg t x) ty (.int .i64 (-a)) (-9223372036854775808 ≤ -a ∧ -a ≤ 9223372036854775807) := ⟨fun h' => by
  intro d pos af g w _
  have e : IntKind.i64.wrap (-a) = -a := wrap_i64 h'
  simp [execOp, Op.unary, h.out, Op.intArith, e, go_sem]⟩
instance {x y : Operand} {ts : Array TypeId} {k : IntKind} {a b : Int} [h1 : Ev ρ x (.int k a)] [h2 : Ev ρ y (.int k b)] : OpM P ρ A (.call { callee := .builtin .max, args := #[x, y], argTypes := ts }) ty (.int k (max a b)) True := ⟨fun _ => P_max h1.out h2.out⟩
instance {x y : Operand} {ts : Array TypeId} {k : IntKind} {a b : Int} [h1 : Ev ρ x (.int k a)] [h2 : Ev ρ y (.int k b)] : OpM P ρ A (.call { callee := .builtin .min, args := #[x, y], argTypes := ts }) ty (.int k (min a b)) True := ⟨fun _ => P_min h1.out h2.out⟩
/-- The values of a kind. -/
class Kd (k : IntKind) (lo hi : outParam Int) : Prop where
  out : ∀ a, lo ≤ a ∧ a ≤ hi → k.wrap a = a
instance : Kd .i64 (-9223372036854775808) 9223372036854775807 := ⟨fun _ h => wrap_i64 h⟩
instance : Kd .i32 (-2147483648) 2147483647 := ⟨fun _ h => wrap_i32 h⟩
instance : Kd .u8 0 255 := ⟨fun _ h => wrap_u8 h⟩
instance : Kd .u64 0 18446744073709551615 := ⟨fun _ h => wrap_u64 h⟩
instance {x : Operand} {src dst : TypeId} {k k' : IntKind} {a lo hi : Int} [h : Ev ρ x (.int k' a)] [hd : Und P dst (.int k)] [hs : Und P src (.int k')] [hk : Kd k lo hi] : OpM P ρ A (.convert src dst x) ty (.int k a) (lo ≤ a ∧ a ≤ hi) := ⟨fun h' => by
  have := P_convInt (P := P) (A := A) (ty := ty) hs.out hd.out h.out; rwa [hk.out a h'] at this⟩
-- bools and strings
instance {x y : Operand} {t u : TypeId} {a b : Bool} [ht : Und P t .bool] [h1 : Ev ρ x (.bool a)] [h2 : Ev ρ y (.bool b)] : OpM P ρ A (.binOp .eql t x y u) ty (.bool (decide (a = b))) True := ⟨fun _ => by
  have := P_eqB (P := P) (A := A) (ty := ty) (t := t) (u := u) ht.out h1.out h2.out
  rwa [show (a == b) = decide (a = b) from rfl] at this⟩
instance {x y : Operand} {t u : TypeId} {a b : Bool} [ht : Und P t .bool] [h1 : Ev ρ x (.bool a)] [h2 : Ev ρ y (.bool b)] : OpM P ρ A (.binOp .neq t x y u) ty (.bool (decide (a ≠ b))) True := ⟨fun _ => by
  have := P_neB (P := P) (A := A) (ty := ty) (t := t) (u := u) ht.out h1.out h2.out
  rwa [show (a != b) = decide (a ≠ b) by cases a <;> cases b <;> rfl] at this⟩
instance {x y : Operand} {t u : TypeId} {a b : ByteArray} [h1 : Ev ρ x (.string a)] [h2 : Ev ρ y (.string b)] : OpM P ρ A (.binOp .eql t x y u) ty (.bool (decide (a = b))) True := ⟨fun _ => P_eqS h1.out h2.out⟩
instance {x y : Operand} {t u : TypeId} {a b : ByteArray} [h1 : Ev ρ x (.string a)] [h2 : Ev ρ y (.string b)] : OpM P ρ A (.binOp .neq t x y u) ty (.bool (decide (a ≠ b))) True := ⟨fun _ => P_neS h1.out h2.out⟩
instance {x y : Operand} {t u : TypeId} {a b : ByteArray} [h1 : Ev ρ x (.string a)] [h2 : Ev ρ y (.string b)] : OpM P ρ A (.binOp .add t x y u) ty (.string (a ++ b)) (a.size + b.size ≤ 9223372036854775807) := ⟨fun h => P_catS h1.out h2.out h⟩
instance {x : Operand} {t : TypeId} {s : ByteArray} [ht : Und P t .string] [h : Ev ρ x (.string s)] : OpM P ρ A (.call { callee := .builtin .len, args := #[x], argTypes := #[t] }) ty (.int .i64 s.size) True := ⟨fun _ => P_len_str ht.out h.out⟩
instance {x y : Operand} {t : TypeId} {k : IntKind} {s : ByteArray} {i : Int} [ht : Und P t .string] [h1 : Ev ρ x (.string s)] [h2 : Ev ρ y (.int k i)] : OpM P ρ A (.index t x y) ty (.int .u8 (bt s i)) (0 ≤ i ∧ i < (s.size : Int)) := ⟨fun h => P_index_str ht.out h1.out h2.out h.1 h.2⟩
-- pointers, slices and functions against nil
instance {x y : Operand} {t e u : TypeId} {p : Option Addr} [ht : Und P t (.pointer e)] [h1 : Ev ρ x (.pointer p)] [h2 : Ev ρ y (.pointer none)] : OpM P ρ A (.binOp .eql t x y u) ty (.bool p.isNone) True := ⟨fun _ => P_eqpointer_nil ht.out h1.out h2.out⟩
instance {x y : Operand} {t e u : TypeId} {p : Option Addr} [ht : Und P t (.pointer e)] [h1 : Ev ρ x (.pointer p)] [h2 : Ev ρ y (.pointer none)] : OpM P ρ A (.binOp .neq t x y u) ty (.bool (!p.isNone)) True := ⟨fun _ => P_neqpointer_nil ht.out h1.out h2.out⟩
instance (priority := 1100) {x y : Operand} {t e u : TypeId} {p : Addr} [ht : Und P t (.pointer e)] [h1 : Ev ρ x (.pointer (some p))] [h2 : Ev ρ y (.pointer none)] : OpM P ρ A (.binOp .eql t x y u) ty (.bool false) True := ⟨fun _ => P_eqpointer_nil ht.out h1.out h2.out⟩
instance (priority := 1100) {x y : Operand} {t e u : TypeId} {p : Addr} [ht : Und P t (.pointer e)] [h1 : Ev ρ x (.pointer (some p))] [h2 : Ev ρ y (.pointer none)] : OpM P ρ A (.binOp .neq t x y u) ty (.bool true) True := ⟨fun _ => P_neqpointer_nil ht.out h1.out h2.out⟩
instance (priority := 1200) {x y : Operand} {t e u : TypeId} [ht : Und P t (.pointer e)] [h1 : Ev ρ x (.pointer none)] [h2 : Ev ρ y (.pointer none)] : OpM P ρ A (.binOp .eql t x y u) ty (.bool true) True := ⟨fun _ => P_eqpointer_nil ht.out h1.out h2.out⟩
instance (priority := 1200) {x y : Operand} {t e u : TypeId} [ht : Und P t (.pointer e)] [h1 : Ev ρ x (.pointer none)] [h2 : Ev ρ y (.pointer none)] : OpM P ρ A (.binOp .neq t x y u) ty (.bool false) True := ⟨fun _ => P_neqpointer_nil ht.out h1.out h2.out⟩
instance {x y : Operand} {t u : TypeId} {f : Fn} {ts cs : Array Value} {a c : Array TypeId} {b : Bool} [ht : Und P t (.func a c b)] [h1 : Ev ρ x (.func f ts cs)] [h2 : Ev ρ y .nilFunc] : OpM P ρ A (.binOp .eql t x y u) ty (.bool false) True := ⟨fun _ => P_eqfunc_nil ht.out h1.out h2.out⟩
instance {x y : Operand} {t e u : TypeId} {s : SV} [ht : Und P t (.slice e)] [h1 : Ev ρ x (.slice s.a s.n s.cap)] [h2 : Ev ρ y (.slice SV.nil.a SV.nil.n SV.nil.cap)] : OpM P ρ A (.binOp .eql t x y u) ty (.bool s.a.isNone) True := ⟨fun _ => P_eqslice_nil ht.out h1.out h2.out⟩
instance {x y : Operand} {t e u : TypeId} {s : SV} [ht : Und P t (.slice e)] [h1 : Ev ρ x (.slice s.a s.n s.cap)] [h2 : Ev ρ y (.slice SV.nil.a SV.nil.n SV.nil.cap)] : OpM P ρ A (.binOp .neq t x y u) ty (.bool (!s.a.isNone)) True := ⟨fun _ => P_neslice_nil ht.out h1.out h2.out⟩
class BInfo (P : Program) (t : TypeId) (zc : outParam (List Value)) (offs : outParam (List (Nat × Nat))) : Prop where
  out : builtInfo P t = some (zc.toArray, offs)
class NthP (l : List (Nat × Nat)) (i : Nat) (o z : outParam Nat) : Prop where
  out : l[i]? = some (o, z)
instance {l : List (Nat × Nat)} {o z : Nat} : NthP ((o, z) :: l) 0 o z := ⟨rfl⟩
instance {l : List (Nat × Nat)} {p : Nat × Nat} {o z i : Nat} [h : NthP l i o z] : NthP (p :: l) (i + 1) o z := ⟨by simpa using h.out⟩
/-- The parts, laid into a struct's cells. -/
class FillF (ρ : Env) (offs : List (Nat × Nat)) (ps : List (Nat × Operand)) (cs : List Value) (cs' : outParam (List Value)) : Prop where
  out : ∃ vs, ps.map (fun p => (p.1, evalE ρ p.2)) = vs ∧ Instr.fill (fun i => offs.toArray[i]?) cs.toArray vs = some cs'.toArray
instance {offs : List (Nat × Nat)} {cs : List Value} : FillF ρ offs [] cs cs := ⟨[], rfl, rfl⟩
instance {offs : List (Nat × Nat)} {i o z : Nat} {x : Operand} {ps : List (Nat × Operand)} {v : Value} {l cs cs1 cs2 : List Value} [hx : Ev ρ x v] [hn : NthP offs i o z] [hv : CellsV v l] [hf : FirstL l z l []] [hp : PutL cs o l cs1] [h : FillF ρ offs ps cs1 cs2] : FillF ρ offs ((i, x) :: ps) cs cs2 := ⟨by
  obtain ⟨vs, h1, h2⟩ := h.out
  refine ⟨(i, v) :: vs, by rw [List.map_cons, hx.out, h1], ?_⟩
  have hz := hf.out.2
  have hle := hp.out.2
  have hfold := fold_zip0 l cs o hle
  simp only [Instr.fill, List.getElem?_toArray, hn.out, hv.out.1, List.size_toArray, hz]
  rw [if_neg (by simp; omega), hfold, ← hp.out.1]
  simpa using h2⟩
instance {t : TypeId} {ps : List (Nat × Operand)} {zc cs : List Value} {offs : List (Nat × Nat)} [hb : BInfo P t zc offs] [h : FillF ρ offs ps zc cs] : OpM P ρ A (.build t ps.toArray) ty (.agg cs.toArray) True := ⟨fun _ => by
  obtain ⟨vs, h1, h2⟩ := h.out
  exact P_build hb.out h1 h2⟩
/-- A field of a struct that is a value. -/
class FieldV (P : Program) (s : TypeId) (f : Nat) (off size : outParam Nat) (one : outParam Bool) : Prop where
  out : ∃ fields fd, P.underlying s = some (.struct fields) ∧ fields[f]? = some fd ∧ fd.offset = off ∧ (match one with | true => oneTy P fd.type = true | false => aggTy P fd.type = some size)
instance {x : Operand} {s : TypeId} {f off size : Nat} {cs : List Value} {v : Value} [h : Ev ρ x (.agg cs.toArray)] [hf : FieldV P s f off size true] [hg : GetL cs off v] : OpM P ρ A (.field s x f) ty v True := ⟨fun _ d pos af g w _ => by
  obtain ⟨fields, fd, h1, h2, h3, h4⟩ := hf.out
  subst h3
  simp only [execOp, Instr.field, h.out, Sem.run_bind, run_underlying h1, Result.andThen_ok, h2, asAgg, Sem.run_pure, part, run_isAgg_one h4, List.getElem?_toArray, hg.out, Bool.false_eq_true, if_false]⟩
instance {x : Operand} {s : TypeId} {f off size : Nat} {cs l1 l2 l l3 : List Value} [h : Ev ρ x (.agg cs.toArray)] [hf : FieldV P s f off size false] [h1 : FirstL cs off l1 l2] [h2 : FirstL l2 size l l3] : OpM P ρ A (.field s x f) ty (.agg l.toArray) True := ⟨fun _ d pos af g w _ => by
  obtain ⟨fields, fd, h3, h4, h5, h6⟩ := hf.out
  subst h5
  have e : cs.toArray.extract fd.offset (fd.offset + size) = l.toArray := by
    have e1 := h1.out.1; have e2 := h2.out.1; have e3 := h1.out.2; have e4 := h2.out.2
    subst e1; subst e2
    simp [← e3, ← e4]
  simp only [execOp, Instr.field, h.out, Sem.run_bind, run_underlying h3, Result.andThen_ok, h4, asAgg, Sem.run_pure, part, (run_isAgg_agg h6 w).1, (run_isAgg_agg h6 w).2, if_true, e]⟩
-- fields of addresses
instance {x : Operand} {s : TypeId} {f off : Nat} {b i : Nat} [h : Ev ρ x (.pointer (some ⟨b, i, none⟩))] [hf : FieldO P s f off] : OpM P ρ A (.fieldAddr s x f) ty (.pointer (some ⟨b, i + off, none⟩)) True := ⟨fun _ => P_fieldAddr hf.out h.out⟩
theorem eAddr_add {s : SV} {sz : Nat} {i : Int} {k : Nat} {o : Nat} : eAddr s sz i (k + o) = ⟨(eAddr s sz i k).block, (eAddr s sz i k).off + o, none⟩ := by simp [eAddr, Nat.add_assoc]
instance {x : Operand} {t : TypeId} {f off sz k : Nat} {s : SV} {i : Int} [h : Ev ρ x (.pointer (some (eAddr s sz i k)))] [hf : FieldO P t f off] : OpM P ρ A (.fieldAddr t x f) ty (.pointer (some (eAddr s sz i (k + off)))) True := ⟨fun _ => by
  rw [eAddr_add]
  exact P_fieldAddr hf.out h.out⟩
end
end Go.Fw
