/- Texts that ArpaParses_law leans on, part 3. Conditions: none. -/
import Derived.Laws.StructEq
import Derived.SliceStrings
import Derived.SizedLaws
import Derived.ChangeArms
import Derived.Laws.IdiomStrings
import Derived.RangeFuncIn
import Derived.Test.YthkhneimfjaohaaGreatDoorQq2
namespace Go.Fw
open Go Go.RowKit
set_option linter.unusedVariables false
set_option linter.unusedSimpArgs false
section
variable {P : Program} {ρ : Env} {A : World → Prop} {ty : TypeId} {w0 : World} {I : Foot} {L : List HP}
theorem RdW.cells' {α : Type} [en : Enc α] {w : World} {s : SV} {xs : List α} (h : RdW w s xs) {b o : Nat} (ha : s.a = some ⟨b, o, none⟩) (j : Nat) (u : Value) (hj : (flat xs)[j]? = some u) : w.cell? ⟨b, o + j, none⟩ = some u := by
  have hp := Enc.pos (α := α)
  have hl := (List.getElem?_eq_some_iff.1 hj).1
  rw [flat_len] at hl
  have hi : j / Enc.sz α < xs.length := Nat.div_lt_of_lt_mul (by rw [Nat.mul_comm]; exact hl)
  have hk : j % Enc.sz α < Enc.sz α := Nat.mod_lt _ hp
  have hc : (Enc.cells (xs.getD (j / Enc.sz α) Enc.dflt))[j % Enc.sz α]? = some ((Enc.cells (xs.getD (j / Enc.sz α) Enc.dflt))[j % Enc.sz α]'(by rw [Enc.len]; exact hk)) := List.getElem?_eq_getElem _
  have h1 := flat_get xs _ _ _ hi hc
  have e : j / Enc.sz α * Enc.sz α + j % Enc.sz α = j := by rw [Nat.mul_comm]; exact Nat.div_add_mod _ _
  rw [e, hj] at h1
  rw [← h1] at hc
  have := h.cells _ _ _ hi hc
  simp only [eAddr, ha, Option.getD_some, Int.toNat_natCast] at this
  rw [Nat.add_assoc, e] at this
  exact this
theorem T_appS {s x : Operand} {sv tv : SV} {t e : TypeId} {z : List Value} {size bytes : Nat} {α : Type} [en : Enc α] {xs ys : List α} {L' : List HP} (ht : P.underlying t = some (.slice e)) (hz : Inf P e z size bytes) (hsz : Enc.sz α = size) (hzl : z.length = size)
    (hs : evalE ρ s = .slice sv.a sv.n sv.cap) (hx : evalE ρ x = .slice tv.a tv.n tv.cap) (hr : ∀ w0 w, SL w0 I (OwnS e sv xs :: L') w → RdW w tv ys) (hb : (xs.length + ys.length) * bytes ≤ 140737488355328) (hb2 : xs.length + ys.length ≤ 9223372036854775807) {w : World} (hw : SL w0 I (OwnS e sv xs :: L') w) (d pos af g) :
    OpU P (fun v w => ∃ r : SV, v = .slice r.a r.n r.cap ∧ SL w0 I (OwnS e r (xs ++ ys) :: L') w) ((execOp (evalE ρ) ⟨d, .call { callee := .builtin .append, args := #[s, x], argTypes := #[t, t] }, ty, pos, af, g⟩).run P w) := by
  have hpos := Enc.pos (α := α)
  obtain ⟨z', hz1, hz2, hz3⟩ := Inf.zero hz
  have hr0 := hr w0 w hw
  obtain ⟨H, R, Rs, h1, h2, h3, h4⟩ := hw.uncons
  have hn := OwnR.len h2
  have hn2 := hr0.len
  have hzs : z'.cells.size = size := by rw [hz2]; simpa using hzl
  have hown : OwnR e size (.slice sv.a sv.n sv.cap) sv.n (flat xs) R := by have := h2; unfold OwnS at this; rw [hsz] at this; exact this
  have back : ∀ v w', (∃ q : Value × List (Nat × Obj), v = q.1 ∧ (OwnR e size q.1 (sv.n + tv.n) (flat xs ++ flat ys) q.2 ∧ St w0 H (q.2 ++ Rs.flatten) w')) → ∃ r : SV, v = .slice r.a r.n r.cap ∧ SL w0 I (OwnS e r (xs ++ ys) :: L') w' := by
    rintro v w' ⟨⟨v1, R1⟩, rfl, ho, hst⟩
    obtain ⟨a, cap, hv, hc⟩ := ho.slice
    dsimp only at ho hv hst
    subst hv
    refine ⟨⟨a, sv.n + tv.n, cap⟩, rfl, SL.cons h1 (R := R1) ?_ h3 hst⟩
    unfold OwnS
    rw [flat_append, hsz]
    exact ho
  by_cases h0 : ys.length = 0
  · have hy : ys = [] := List.eq_nil_of_length_eq_zero h0
    subst hy
    have hR : Rd H (R ++ Rs.flatten) size (.slice tv.a tv.n tv.cap) tv.n (flat ([] : List α)) := ⟨by simp [flat, hn2], .inl ⟨tv.a, tv.cap, rfl, by simpa using hn2⟩⟩
    refine (T_appendR (P := P) (ρ := ρ) (ty := ty) (w0 := w0) (H := H) (L := Rs.flatten) ht hz3 hzs (by omega) hown hs hR hx (by simp [flat]) (by rw [hn, hn2]; simp only [maxLen]; simp; omega) (by rw [hn, hn2]; exact hb) d pos af g w h4).mono back
  · rcases hr0.plain with hp | ⟨b, o, ha⟩
    · omega
    · rw [ha] at hx
      refine (T_append (P := P) (ρ := ρ) (ty := ty) (w0 := w0) (H := H) (L := Rs.flatten) ht hz3 hzs (by omega) hs hown hx (news := flat ys) (by rw [flat_len, hsz, hn2]) (fun u hu j v hv => ?_) (flat_one' ys) (by rw [hn, hn2]; simp only [maxLen]; omega) (by rw [hn, hn2]; exact hb) d pos af g w h4).mono back
      have hs' : SL w0 I (OwnS e sv xs :: L') u := SL.cons h1 h2 h3 hu
      have := (hr w0 u hs').cells' ha j v hv
      unfold Addr.add
      split
      · rename_i h; subst h; simpa using this
      · exact this
def Room (n bytes : Nat) : Prop := n * bytes ≤ 140737488355328 ∧ n ≤ 9223372036854775807
theorem sdT {p : Prop} (h : p := by first | exact trivial | exact rfl | assumption | omega | (refine ⟨?_, ?_⟩ <;> omega) | (simp only [Room, lenS]; omega) | decide) : p := h
theorem orL {a b c : Prop} (k : b) (h : a := by first | assumption | omega | with_reducible rfl | (refine fun h => h ?_; first | assumption | with_reducible rfl) | (simp only [lenS] <;> omega) | decide) : a ∧ b ∨ c := .inl ⟨h, k⟩
theorem orR {a b c : Prop} (k : b) (h : a := by first | assumption | omega | with_reducible rfl | (refine fun h => h ?_; first | assumption | with_reducible rfl) | (simp only [lenS] <;> omega) | decide) : c ∨ a ∧ b := .inr ⟨h, k⟩
instance (priority := 1100) {s x : Operand} {sv tv : SV} {t e e' : TypeId} {z : List Value} {size bytes : Nat} {α : Type} {en : Enc α} {xs ys : List α} {L1 L2 : List HP} [hs : Ev ρ s (.slice sv.a sv.n sv.cap)] [hx : Ev ρ x (.slice tv.a tv.n tv.cap)] [ht : Und P t (.slice e)] [hz : Inf P e z size bytes] [hA : InSL A w0 I L] [hl : FindLit L tv e' α en ys L1] [ho : FindOwn L1 sv e α en xs L2] [hsz : SzIs α size] [hzl : FirstL z size z []] :
    OpE P ρ A (.call { callee := .builtin .append, args := #[s, x], argTypes := #[t, t] }) ty SV (fun r => .slice r.a r.n r.cap) (fun r => SL w0 I (OwnS e r (xs ++ ys) :: L2)) (Room (xs.length + ys.length) bytes) := ⟨fun h => OpT.sl fun w hw d pos af g => by
  have e1 : Ent L (OwnS e sv xs :: LitS e' tv ys :: L2) := hl.out.trans ((Ent.cons ho.out).trans Ent.swap)
  refine (T_appS (P := P) (ρ := ρ) (ty := ty) (w0 := w0) (I := I) (L' := LitS e' tv ys :: L2) (xs := xs) (ys := ys) ht.out hz hsz.out hzl.out.2 hs.out hx.out (fun w0 w hw => ?_) h.1 h.2 (e1.sl hw) d pos af g).mono fun v w' ⟨r, hv, hr⟩ => ⟨r, hv, (Ent.cons Ent.drop1).sl hr⟩
  obtain ⟨R, hp, hm⟩ := (Ent.swap.sl hw).heap
  exact OwnR.rdW hp hm⟩
class IsNil {α : Type} (xs : List α) : Prop where
  out : xs = []
instance {α : Type} : IsNil ([] : List α) := ⟨rfl⟩
instance (priority := 1300) {s x : Operand} {sv tv : SV} {t e : TypeId} {z : List Value} {size bytes : Nat} {α : Type} {en : Enc α} {xs ys : List α} {L2 : List HP} [hs : Ev ρ s (.slice sv.a sv.n sv.cap)] [hx : Ev ρ x (.slice tv.a tv.n tv.cap)] [ht : Und P t (.slice e)] [hz : Inf P e z size bytes] [hA : InSL A w0 I L] [ho : FindOwn L sv e α en xs L2] [hn : IsNil xs] [hr : RdS I L2 tv α en ys] [hsz : SzIs α size] [hzl : FirstL z size z []] :
    OpE P ρ A (.call { callee := .builtin .append, args := #[s, x], argTypes := #[t, t] }) ty SV (fun r => .slice r.a r.n r.cap) (fun r => SL w0 I (OwnS e r ys :: L2)) (Room ys.length bytes) := ⟨fun h => OpT.sl fun w hw d pos af g => by
  have e1 := hn.out
  subst e1
  have := T_appS (P := P) (ρ := ρ) (ty := ty) (w0 := w0) (I := I) (L' := L2) (xs := []) (ys := ys) ht.out hz hsz.out hzl.out.2 hs.out hx.out (fun w0 w hw => hr.out w0 w (Ent.drop1.sl hw)) (by simpa using h.1) (by simpa using h.2) (ho.out.sl hw) d pos af g
  simpa using this⟩
theorem fill_lit (size : Nat) : ∀ (vs : List (List Value)) (k : Nat) (cs : List Value), (∀ v ∈ vs, v.length = size) → (k + vs.length) * size ≤ cs.length → ∀ us : List Value, us.map (·.cells) = vs.map List.toArray →
    Instr.fill (fun i => some (i * size, size)) cs.toArray (us.zipIdx.map fun p => (p.2 + k, p.1)) = some (cs.take (k * size) ++ vs.flatten ++ cs.drop ((k + vs.length) * size)).toArray := by
  intro vs
  induction vs with
  | nil =>
    intro k cs _ _ us hu
    have : us = [] := by simpa using hu
    subst this
    simp [Instr.fill]
  | cons v vs ih =>
    intro k cs hv hl us hu
    cases us with
    | nil => simp at hu
    | cons u us =>
      simp only [List.map_cons, List.cons.injEq] at hu
      have hvl := hv v (List.mem_cons_self ..)
      simp only [List.length_cons] at hl
      have e1 : (k + (vs.length + 1)) * size = k * size + (size + vs.length * size) := by rw [Nat.add_mul, Nat.add_mul]; omega
      have e2 : (k + 1) * size = k * size + size := by rw [Nat.add_mul]; omega
      have hmap : (us.zipIdx 1).map (fun p : Value × Nat => (p.2 + k, p.1)) = us.zipIdx.map fun p => (p.2 + (k + 1), p.1) := by
        rw [List.zipIdx_succ]; simp [Nat.add_comm, Nat.add_left_comm, Function.comp_def]
      simp only [List.zipIdx_cons, List.map_cons, Nat.zero_add, Instr.fill, hu.1, List.size_toArray, hvl]
      rw [if_neg (by simp; omega), hmap]
      have hz := fold_zip v cs (k * size) 0 (by omega)
      simp only [Nat.add_zero, hvl] at hz
      have hz' : Array.foldl (fun (cs : Array Value) (x : Value × Nat) => cs.setIfInBounds (k * size + x.2) x.1) cs.toArray v.toArray.zipIdx = (cs.take (k * size) ++ v ++ cs.drop (k * size + size)).toArray := by
        rw [← hz, ← Array.foldl_toList, Array.toList_zipIdx]
      have e3 : (k + 1 + vs.length) * size = k * size + size + vs.length * size := by rw [Nat.add_mul, Nat.add_mul]; omega
      rw [hz', ih (k + 1) _ (fun v hm => hv v (List.mem_cons_of_mem _ hm)) (by simp only [List.length_append, List.length_take, List.length_drop, hvl]; omega) us hu.2]
      congr 2
      have h1 : (k + 1 + vs.length) * size = k * size + size + vs.length * size := by rw [Nat.add_mul, Nat.add_mul]; omega
      rw [h1, List.length_cons, e1, e2, List.flatten_cons]
      have h2 : (List.take (k * size) cs ++ v).length = k * size + size := by simp; omega
      rw [List.take_append_of_le_length (by omega), List.take_of_length_le (by omega), List.drop_append, List.drop_of_length_le (by omega), List.nil_append, h2, List.drop_drop]
      simp only [List.append_assoc]
      congr 4
      omega
class EvParts (ρ : Env) (k : Nat) (ps : List (Nat × Operand)) (α : Type) [Enc α] (ys : outParam (List α)) : Prop where
  out : ∃ vs : List Value, ps.map (fun p => (p.1, evalE ρ p.2)) = vs.zipIdx.map (fun p => (p.2 + k, p.1)) ∧ vs.map Value.cells = (ys.map Enc.cells).map List.toArray
instance {k : Nat} {α : Type} [Enc α] : EvParts ρ k [] α ([] : List α) := ⟨[], rfl, rfl⟩
instance {k : Nat} {α : Type} [Enc α] {x : Operand} {ps : List (Nat × Operand)} {v : Value} {l : List Value} {y : α} {ys : List α} [hx : Ev ρ x v] [hv : CellsV v l] [hd : Dec α l y] [h : EvParts ρ (k + 1) ps α ys] : EvParts ρ k ((k, x) :: ps) α (y :: ys) := ⟨by
  obtain ⟨vs, h1, h2⟩ := h.out
  refine ⟨v :: vs, ?_, by simp [h2, hv.out.1, hd.out]⟩
  simp only [List.map_cons, hx.out, List.zipIdx_cons, Nat.zero_add, h1]
  congr 1
  rw [List.zipIdx_succ]; simp [Nat.add_comm, Nat.add_left_comm, Function.comp_def]⟩
class NatLe (a b : Nat) : Prop where
  out : a ≤ b
instance {a b : Nat} [h : IsB (Nat.ble a b) true] : NatLe a b := ⟨Nat.le_of_ble_eq_true h.out⟩
theorem flat_eq {α : Type} [Enc α] (ys : List α) : flat ys = (ys.map Enc.cells).flatten := by simp [flat, List.flatMap]
instance {t e n : Nat} {ps : List (Nat × Operand)} {z : List Value} {size bytes : Nat} {α : Type} {en : Enc α} {ys : List α} [ht : Und P t (.slice e)] [hz : Inf P e z size bytes] [hp : Phys P e α en] [hsz : SzIs α size] [hzl : FirstL z size z []] [hps : EvParts ρ 0 ps α ys] [hle : NatLe (n * size) 16777216] [hA : InSL A w0 I L] :
    OpE P ρ A (.buildSlice t n ps.toArray) ty SV (fun r => .slice r.a r.n r.cap) (fun r => SL w0 I (LitS e r ys :: L)) (n = ys.length) := ⟨fun hn => OpT.sl fun w hw d pos af g => by
  subst hn
  obtain ⟨z', hz1, hz2, hz3⟩ := Inf.zero hz
  obtain ⟨vs, h1, h2⟩ := hps.out
  obtain ⟨H, Rs, h3, h4, h5⟩ := hw
  obtain ⟨inf, hi1, hi2⟩ := Option.map_eq_some_iff.1 hz3
  simp only [Prod.mk.injEq] at hi2
  have hlen : vs.length = ys.length := by have := congrArg List.length h2; simpa using this
  have hpos := Enc.pos (α := α)
  have hs : (Go.sizeOf e).run P w = .ok size w := by simp [Go.sizeOf, typeInfo, hi1, hi2.2.1, go_sem]
  have hzr : (zeroValue e).run P w = .ok z' w := by simp [zeroValue, typeInfo, hi1, hi2.1, go_sem]
  have hlim : ¬ (ys.length * size > 2 ^ 24) := by have := hle.out; omega
  have hfill : ∀ cs : Array Value, cs.size = ys.length * size → Instr.fill (fun i => some (i * size, size)) cs (vs.zipIdx.map fun p => (p.2 + 0, p.1)) = some (flat ys).toArray := by
    intro cs hcs
    have := fill_lit size (ys.map Enc.cells) 0 cs.toList (fun v hv => by obtain ⟨y, _, rfl⟩ := List.mem_map.1 hv; rw [Enc.len, hsz.out]) (by simp [hcs]) vs h2
    simp only [Array.toArray_toList] at this
    rw [this, flat_eq]
    simp [hcs]
  have hrun : (Instr.buildSlice t ys.length (vs.zipIdx.map fun p => (p.2 + 0, p.1)).toArray).run P w = .ok (.slice (some ⟨w.heap.size, 0, none⟩) ys.length ys.length) { w with heap := w.heap.push (.cells (flat ys).toArray e (0, 0)) } := by
    unfold Instr.buildSlice
    by_cases h0 : ys.length * size = 0
    · simp only [Sem.run_bind, run_underlying ht.out, Result.andThen, hs, if_neg hlim, if_pos h0, Sem.run_pure, newRow, newObj]
      rw [hfill _ (by simp)]
      rfl
    · simp only [Sem.run_bind, run_underlying ht.out, Result.andThen, hs, if_neg hlim, if_neg h0, hzr, Sem.run_pure, newRow, newObj]
      rw [hfill _ (by simp)]
      rfl
  have e' : (Array.map (fun x => match x with | (i, x) => (i, evalE ρ x)) ps.toArray) = (vs.zipIdx.map fun p => (p.2 + 0, p.1)).toArray := by rw [← h1]; simp
  simp only [execOp, e', Sem.run_bind, hrun, Result.andThen, Sem.run_pure, OpU]
  refine ⟨⟨some ⟨w.heap.size, 0, none⟩, ys.length, ys.length⟩, rfl, SL.cons h3 (R := [(w.heap.size, .cells (flat ys).toArray e (0, 0))]) ?_ h4 (h5.push _)⟩
  exact ⟨by rw [flat_len], .inr ⟨w.heap.size, ys.length, _, rfl, Nat.le_refl _, (by have := hle.out; have := hsz.out; simp only [maxLen]; have : ys.length ≤ ys.length * size := Nat.le_mul_of_pos_right _ (by omega); omega), (by simp [flat_len]), (by simp only; rw [← flat_len]; exact List.take_length), rfl⟩⟩⟩
def SV.cut (s : SV) (sz : Nat) (lo hi : Int) : SV := if 0 ≤ lo ∧ lo ≤ hi ∧ hi ≤ s.n then ⟨if lo = s.cap then s.a else s.a.map (fun a => a.add (lo.toNat * sz)), (hi - lo).toNat, s.cap - lo.toNat⟩ else SV.nil
def cutL {α : Type} (xs : List α) (lo hi : Int) : List α := if 0 ≤ lo ∧ lo ≤ hi ∧ hi ≤ xs.length then (xs.drop lo.toNat).take (hi - lo).toNat else []
theorem RdW.cut {α : Type} [en : Enc α] {w : World} {s : SV} {xs : List α} (h : RdW w s xs) (lo hi : Int) : RdW w (s.cut (Enc.sz α) lo hi) (cutL xs lo hi) := by
  have hl := h.len
  unfold SV.cut cutL
  by_cases hc : 0 ≤ lo ∧ lo ≤ hi ∧ hi ≤ s.n
  · have hc' : 0 ≤ lo ∧ lo ≤ hi ∧ hi ≤ (xs.length : Int) := by omega
    rw [if_pos hc, if_pos hc']
    have hadd : ∀ b o k, (⟨b, o, none⟩ : Addr).add k = ⟨b, o + k, none⟩ := fun b o k => by
      unfold Addr.add; split
      · rename_i e; simp [e]
      · rfl
    have hcap := h.cap
    refine ⟨by simp only [List.length_take, List.length_drop]; omega, by simp only; omega, ?_, fun i k v hi hv => ?_⟩
    · rcases h.plain with h0 | ⟨b, o, ha⟩
      · left; simp only; omega
      · right; simp only [ha, Option.map_some, hadd]; split
        · exact ⟨b, o, rfl⟩
        · exact ⟨b, _, rfl⟩
    · simp only [List.length_take, List.length_drop] at hi
      have hne : ¬ lo = s.cap := by omega
      have e : ∀ m : Nat, i < m → ((xs.drop lo.toNat).take m).getD i Enc.dflt = xs.getD (lo.toNat + i) Enc.dflt := fun m hm => by
        rw [List.getD_eq_getElem?_getD, List.getElem?_take, if_pos hm, List.getElem?_drop, ← List.getD_eq_getElem?_getD]
      rw [e _ (by omega)] at hv
      have := h.cells (lo.toNat + i) k v (by omega) hv
      rw [← this]
      congr 1
      simp only [eAddr, if_neg hne]
      rcases h.plain with h0 | ⟨b, o, ha⟩
      · omega
      · simp only [ha, Option.map_some, Option.getD_some, hadd]
        congr 1
        have e1 : (((lo.toNat + i : Nat) : Int)).toNat = lo.toNat + i := by omega
        rw [e1, Nat.add_mul, Int.toNat_natCast]; omega
  · have hc' : ¬ (0 ≤ lo ∧ lo ≤ hi ∧ hi ≤ (xs.length : Int)) := by omega
    rw [if_neg hc, if_neg hc']
    exact ⟨rfl, Nat.le_refl _, .inl rfl, fun i k v hi => by simp at hi⟩
instance {s : SV} {sz : Nat} {lo hi : Int} {α : Type} {e : Enc α} {xs : List α} [h : RdS I L s α e xs] [hz : SzIs α sz] : RdS I L (s.cut sz lo hi) α e (cutL xs lo hi) := ⟨fun w0 w hw => by rw [← hz.out]; exact (h.out w0 w hw).cut lo hi⟩
instance {s : SV} {sz : Nat} {lo hi : Int} {α : Type} {e : Enc α} {xs : List α} [h : SlI I s α e xs] [hz : SzIs α sz] : SlI I (s.cut sz lo hi) α e (cutL xs lo hi) := ⟨fun w hw => by rw [← hz.out]; exact (h.out w hw).cut lo hi⟩
class EvO (ρ : Env) (x : Option Operand) (d : Int) (v : outParam Int) : Prop where
  out : (x.map (evalE ρ) = none ∧ v = d) ∨ ∃ k, x.map (evalE ρ) = some (.int k v)
instance {d : Int} : EvO ρ none d d := ⟨.inl ⟨rfl, rfl⟩⟩
instance {x : Operand} {k : IntKind} {d v : Int} [h : Ev ρ x (.int k v)] : EvO ρ (some x) d v := ⟨.inr ⟨k, by rw [Option.map_some, h.out]⟩⟩
theorem run_bounds {isS : Bool} {n cap : Nat} {lo hi : Option Value} {l h : Int} (hlo : (lo = none ∧ l = 0) ∨ ∃ k, lo = some (.int k l)) (hhi : (hi = none ∧ h = n) ∨ ∃ k, hi = some (.int k h)) (h0 : 0 ≤ l) (h1 : l ≤ h) (h2 : h ≤ n) (h3 : n ≤ cap) (w : World) :
    (Instr.sliceBounds isS n cap lo hi none).run P w = .ok (l.toNat, h.toNat, cap) w := by
  have e1 : ¬ l < 0 := by omega
  have e2 : ¬ h < 0 := by omega
  have e3 : h.toNat ≤ cap := by omega
  have e4 : l.toNat ≤ h.toNat := by omega
  have e5 : ¬ l > h.toNat := by omega
  have e6 : ¬ h > cap := by omega
  have e7 : 0 ≤ h := by omega
  have e8 : h ≤ (cap : Int) := by omega
  have e9 : l ≤ (h.toNat : Int) := by omega
  rcases hlo with ⟨rfl, rfl⟩ | ⟨k, rfl⟩ <;> rcases hhi with ⟨rfl, rfl⟩ | ⟨k', rfl⟩ <;> simp [Instr.sliceBounds, Instr.sliceBound, asIntOf, e1, e2, e3, e4, e5, e6, e7, e8, e9, h0, h1, h2, go_sem] <;> omega
instance {x : Operand} {t el : TypeId} {s : SV} {lo hi : Option Operand} {l h : Int} {sz bytes : Nat} {z : List Value} {α : Type} {en : Enc α} {xs : List α} [hx : Ev ρ x (.slice s.a s.n s.cap)] [ht : Und P t (.slice el)] [hz : Inf P el z sz bytes] [hA : InSL A w0 I L] [hr : RdS I L s α en xs] [hl : EvO ρ lo 0 l] [hh : EvO ρ hi xs.length h] :
    OpM P ρ A (.slice t x lo hi none) ty (.slice (s.cut sz l h).a (s.cut sz l h).n (s.cut sz l h).cap) ((0 ≤ l ∧ l ≤ h) ∧ h ≤ xs.length) := ⟨fun hb d pos af g w hw => by
  have hw' := hr.out w0 w (hA.out w hw)
  obtain ⟨inf, hinf, hz'⟩ := Option.map_eq_some_iff.1 hz.size
  have hn := hw'.len
  have hc := hw'.cap
  have hb' := run_bounds (P := P) (isS := true) (n := s.n) (cap := s.cap) (lo := lo.map (evalE ρ)) (hi := hi.map (evalE ρ)) (l := l) (h := h) hl.out (by rw [hn]; exact hh.out) hb.1.1 hb.1.2 (by omega) hc w
  have e : SV.cut s sz l h = ⟨if l = s.cap then s.a else s.a.map (fun a => a.add (l.toNat * sz)), (h - l).toNat, s.cap - l.toNat⟩ := by unfold SV.cut; rw [if_pos (by omega)]
  have ea : (if s.cap = l.toNat then s.a else s.a.map (fun a => a.add (l.toNat * sz))) = (if l = s.cap then s.a else s.a.map (fun a => a.add (l.toNat * sz))) := by
    by_cases hlc : l = s.cap
    · rw [if_pos (by omega), if_pos hlc]
    · rw [if_neg (by omega), if_neg hlc]
  have en2 : h.toNat - l.toNat = (h - l).toNat := by omega
  have hs : (Go.sizeOf el).run P w = .ok sz w := by simp [Go.sizeOf, typeInfo, hinf, hz', go_sem]
  simp only [execOp, Instr.sliceAt, Instr.slice, hx.out, Sem.run_bind, run_underlying ht.out, Result.andThen_ok, Option.map_none, hb', hs, Sem.run_pure, e, en2, ← ea]⟩
instance {x : Operand} {t : TypeId} {s : ByteArray} {lo hi : Option Operand} {l h : Int} [hx : Ev ρ x (.string s)] [ht : Und P t .string] [hl : EvO ρ lo 0 l] [hh : EvO ρ hi s.size h] :
    OpM P ρ A (.slice t x lo hi none) ty (.string (s.extract l.toNat h.toNat)) ((0 ≤ l ∧ l ≤ h) ∧ h ≤ s.size) := ⟨fun hb d pos af g w hw => by
  have hb' := run_bounds (P := P) (isS := false) (n := s.size) (cap := s.size) (lo := lo.map (evalE ρ)) (hi := hi.map (evalE ρ)) (l := l) (h := h) hl.out hh.out hb.1.1 hb.1.2 (by omega) (Nat.le_refl _) w
  simp only [execOp, Instr.sliceAt, Instr.slice, hx.out, Sem.run_bind, run_underlying ht.out, Result.andThen_ok, hb', Sem.run_pure, Option.map_none, Option.isSome_none, Bool.false_eq_true, if_false]⟩
end
end Go.Fw
namespace Go.Fw
open Go Go.RowKit
set_option linter.unusedVariables false
set_option linter.unusedSimpArgs false
class FindK (L : List HP) {κ β : Type} (H : κ → β → HP) (k : κ) (v : outParam β) (L' : outParam (List HP)) : Prop where
  out : Ent L (H k v :: L')
instance {L : List HP} {κ β : Type} {H : κ → β → HP} {k : κ} {v : β} : FindK (H k v :: L) H k v L := ⟨Ent.refl⟩
instance (priority := 900) {L L' : List HP} {p : HP} {κ β : Type} {H : κ → β → HP} {k : κ} {v : β} [h : FindK L H k v L'] : FindK (p :: L) H k v (p :: L') := ⟨(Ent.cons h.out).trans Ent.swap⟩
section
variable {ro : Option Nat} {P : Program} {n : Nat} {Q : Hnd} {ρ : Env} {A : World → Prop} {ops : Array Oper} {rest : List Oper} {op : Op} {ty : TypeId} {pos : String} {af : Array Edge} {g : Option (Nat × Bool)} {d : Tmp}
theorem WLA.m {v : Value} {S : Prop} [h : OpM P ρ A op ty v S] (hw : Region.wanted ⟨some d, op, ty, pos, af, g⟩ (yieldedE n ops ρ) = true) (hd : Nat.blt d n = true) (hs : S) (k : WLA ro P n ops Q rest (put1 ρ d v) A) :
    WLA ro P n ops Q (⟨some d, op, ty, pos, af, g⟩ :: rest) ρ A := WLA.q hw (h.out hs) (by rw [upd_put1 hd]; exact k)
theorem WLA.x {τ : Type} {val : τ → Value} {B : τ → World → Prop} {S : Prop} [h : OpE P ρ A op ty τ val B S] (hw : Region.wanted ⟨some d, op, ty, pos, af, g⟩ (yieldedE n ops ρ) = true) (hd : Nat.blt d n = true) (hs : S) (k : ∀ x, WLA ro P n ops Q rest (put1 ρ d (val x)) (B x)) :
    WLA ro P n ops Q (⟨some d, op, ty, pos, af, g⟩ :: rest) ρ A := WLA.e hw (h.out hs) (fun x => by rw [upd_put1 hd]; exact k x)
theorem WLA.x0 {τ : Type} {val : τ → Value} {B : τ → World → Prop} {S : Prop} [h : OpE P ρ A op ty τ val B S] (hw : Region.wanted ⟨none, op, ty, pos, af, g⟩ (yieldedE n ops ρ) = true) (hs : S) (k : ∀ x, WLA ro P n ops Q rest ρ (B x)) :
    WLA ro P n ops Q (⟨none, op, ty, pos, af, g⟩ :: rest) ρ A := WLA.e0 hw (h.out hs) k
theorem WLA.st {B : World → Prop} {S : Prop} [h : OpS P ρ A op ty B S] (hw : Region.wanted ⟨none, op, ty, pos, af, g⟩ (yieldedE n ops ρ) = true) (hs : S) (k : WLA ro P n ops Q rest ρ B) :
    WLA ro P n ops Q (⟨none, op, ty, pos, af, g⟩ :: rest) ρ A := WLA.s hw (h.out hs) k
theorem WLA.no (hw : Region.wanted ⟨some d, op, ty, pos, af, g⟩ (yieldedE n ops ρ) = false) (hd : Nat.blt d n = true) (k : WLA ro P n ops Q rest (put1 ρ d undef) A) :
    WLA ro P n ops Q (⟨some d, op, ty, pos, af, g⟩ :: rest) ρ A := WLA.off hw (by rw [upd_put1 hd]; exact k)
theorem put1_same {t : Tmp} {v : Value} (h : ρ.f t = v) : put1 ρ t v = ρ := by
  cases ρ with
  | mk f ms =>
    simp only [put1]
    congr 1
    funext i
    cases e : Nat.beq i t with
    | false => rfl
    | true => have := Nat.eq_of_beq_eq_true e; subst this; exact h.symm
theorem yield_val {j : Nat} {b : Bool} {t : Tmp} (hy : yieldedE n ops ρ j = some b) (ht : (ops[j]?).bind (·.dst) = some t) : ρ.f t = .bool b := by
  unfold yieldedE at hy
  rw [ht] at hy
  simp only at hy
  cases hb : Nat.blt t n with
  | false => rw [hb] at hy; simp at hy
  | true =>
    rw [hb] at hy
    simp only [cond_true] at hy
    split at hy
    · rename_i b' e; cases hy; exact e
    · cases hy
theorem WLA.yes {dst : Option Tmp} {j : Nat} {c : Bool} {p : Prop} [hp' : Decidable p] {t : Tmp} (hy : yieldedE n ops ρ j = some (decide p)) (ht : (ops[j]?).bind (·.dst) = some t) (hp : p) (k : WLA ro P n ops Q (⟨dst, op, ty, pos, af, some (j, c)⟩ :: rest) (put1 ρ t (.bool true)) A) :
    WLA ro P n ops Q (⟨dst, op, ty, pos, af, some (j, c)⟩ :: rest) ρ A := by
  rw [put1_same (by rw [yield_val hy ht, decide_eq_true hp])] at k; exact k
theorem WLA.nay {dst : Option Tmp} {j : Nat} {c : Bool} {p : Prop} [hp' : Decidable p] {t : Tmp} (hy : yieldedE n ops ρ j = some (decide p)) (ht : (ops[j]?).bind (·.dst) = some t) (hp : ¬ p) (k : WLA ro P n ops Q (⟨dst, op, ty, pos, af, some (j, c)⟩ :: rest) (put1 ρ t (.bool false)) A) :
    WLA ro P n ops Q (⟨dst, op, ty, pos, af, some (j, c)⟩ :: rest) ρ A := by
  rw [put1_same (by rw [yield_val hy ht, decide_eq_false hp])] at k; exact k
theorem WLA.both {dst : Option Tmp} {j : Nat} {c : Bool} {p : Prop} [hp' : Decidable p] {t : Tmp} (hy : yieldedE n ops ρ j = some (decide p)) (ht : (ops[j]?).bind (·.dst) = some t) (k1 : p → WLA ro P n ops Q (⟨dst, op, ty, pos, af, some (j, c)⟩ :: rest) (put1 ρ t (.bool true)) A)
    (k2 : ¬ p → WLA ro P n ops Q (⟨dst, op, ty, pos, af, some (j, c)⟩ :: rest) (put1 ρ t (.bool false)) A) : WLA ro P n ops Q (⟨dst, op, ty, pos, af, some (j, c)⟩ :: rest) ρ A := by
  by_cases hp : p
  · exact WLA.yes hy ht hp (k1 hp)
  · exact WLA.nay hy ht hp (k2 hp)
theorem WLA.bothB {dst : Option Tmp} {j : Nat} {c b : Bool} {t : Tmp} (hy : yieldedE n ops ρ j = some b) (ht : (ops[j]?).bind (·.dst) = some t) (k1 : b = true → WLA ro P n ops Q (⟨dst, op, ty, pos, af, some (j, c)⟩ :: rest) (put1 ρ t (.bool true)) A)
    (k2 : b = false → WLA ro P n ops Q (⟨dst, op, ty, pos, af, some (j, c)⟩ :: rest) (put1 ρ t (.bool false)) A) : WLA ro P n ops Q (⟨dst, op, ty, pos, af, some (j, c)⟩ :: rest) ρ A := by
  cases b with
  | true => have := k1 rfl; rwa [put1_same (yield_val hy ht)] at this
  | false => have := k2 rfl; rwa [put1_same (yield_val hy ht)] at this
theorem WLA.pickT {a b : Operand} {p : Prop} [hp' : Decidable p] {t : Tmp} [hc : Ev ρ (.tmp t) (.bool (decide p))] (hp : p) (k : WLA ro P n ops Q (⟨some d, .pick (.tmp t) a b, ty, pos, af, g⟩ :: rest) (put1 ρ t (.bool true)) A) : WLA ro P n ops Q (⟨some d, .pick (.tmp t) a b, ty, pos, af, g⟩ :: rest) ρ A := by
  rw [put1_same (by have := hc.out; rw [decide_eq_true hp] at this; exact this)] at k; exact k
theorem WLA.pickF {a b : Operand} {p : Prop} [hp' : Decidable p] {t : Tmp} [hc : Ev ρ (.tmp t) (.bool (decide p))] (hp : ¬ p) (k : WLA ro P n ops Q (⟨some d, .pick (.tmp t) a b, ty, pos, af, g⟩ :: rest) (put1 ρ t (.bool false)) A) : WLA ro P n ops Q (⟨some d, .pick (.tmp t) a b, ty, pos, af, g⟩ :: rest) ρ A := by
  rw [put1_same (by have := hc.out; rw [decide_eq_false hp] at this; exact this)] at k; exact k
theorem OpT.call {f : FuncId} {args : List Operand} {argTypes : Array TypeId} {vs : List Value} [hv : EvAll ρ args vs] [hf : Callb P f] {w0 : World} {I : Foot} {L : List HP} [hA : InSL A w0 I L] {τ : Type} {val : τ → Value} {B : τ → World → Prop} (hc : Tr P f vs.toArray (SL w0 I L) val B) :
    OpT P ρ (.call { callee := .value (.func f), args := args.toArray, argTypes := argTypes }) ty A fun v w => ∃ x, v = val x ∧ B x w := T_callS hf.out (by
  have e : args.toArray.map (evalE ρ) = vs.toArray := by simp [← hv.out]
  rw [e]; exact fun w hw => hc w (hA.out w hw))
theorem OpT.callV {c : Operand} {f : FuncId} {caps : List Value} {args : List Operand} {argTypes : Array TypeId} {vs : List Value} [hv : EvAll ρ args vs] [hcv : Ev ρ c (.func (.func f) #[] caps.toArray)] [hf : Callb P f] {w0 : World} {I : Foot} {L : List HP} [hA : InSL A w0 I L] {τ : Type} {val : τ → Value} {B : τ → World → Prop} (hc : Tr P f (vs ++ caps).toArray (SL w0 I L) val B) :
    OpT P ρ (.call { callee := .value c, args := args.toArray, argTypes := argTypes }) ty A fun v w => ∃ x, v = val x ∧ B x w := T_callV hf.out (by
  have e : args.toArray.map (evalE ρ) ++ caps.toArray = (vs ++ caps).toArray := by simp [← hv.out]
  rw [e]; exact fun w hw => hc w (hA.out w hw)) hcv.out
theorem OpT.yield {c : Operand} {l : Nat} {args : List Operand} {argTypes : Array TypeId} {vs : List Value} [hv : EvAll ρ args vs] [hcv : Ev ρ c (.func (.yield l) #[] #[])] {w0 : World} {I : Foot} {L : List HP} [hA : InSL A w0 I L] {τ : Type} {val : τ → Value} {B : τ → World → Prop} (hc : YTr P l vs.toArray (SL w0 I L) val B) :
    OpT P ρ (.call { callee := .value c, args := args.toArray, argTypes := argTypes }) ty A fun v w => ∃ x, v = val x ∧ B x w := T_yield (by
  have e : args.toArray.map (evalE ρ) = vs.toArray := by simp [← hv.out]
  rw [e]; exact fun w hw => hc w (hA.out w hw)) hcv.out
section
variable {w0 : World} {I : Foot} {L : List HP} {τ : Type} {val : τ → Value} {B : τ → World → Prop} {f : FuncId} {args : List Operand} {argTypes : Array TypeId} {vs : List Value}
theorem WLA.call [hv : EvAll ρ args vs] [hf : Callb P f] [hA : InSL A w0 I L] (hw : Region.wanted ⟨some d, .call { callee := .value (.func f), args := args.toArray, argTypes := argTypes }, ty, pos, af, g⟩ (yieldedE n ops ρ) = true) (hd : Nat.blt d n = true)
    (hc : Tr P f vs.toArray (SL w0 I L) val B) (k : ∀ x, WLA ro P n ops Q rest (put1 ρ d (val x)) (B x)) : WLA ro P n ops Q (⟨some d, .call { callee := .value (.func f), args := args.toArray, argTypes := argTypes }, ty, pos, af, g⟩ :: rest) ρ A :=
  WLA.e hw (OpT.call hc) (fun x => by rw [upd_put1 hd]; exact k x)
theorem WLA.call0 [hv : EvAll ρ args vs] [hf : Callb P f] [hA : InSL A w0 I L] (hw : Region.wanted ⟨none, .call { callee := .value (.func f), args := args.toArray, argTypes := argTypes }, ty, pos, af, g⟩ (yieldedE n ops ρ) = true)
    (hc : Tr P f vs.toArray (SL w0 I L) val B) (k : ∀ x, WLA ro P n ops Q rest ρ (B x)) : WLA ro P n ops Q (⟨none, .call { callee := .value (.func f), args := args.toArray, argTypes := argTypes }, ty, pos, af, g⟩ :: rest) ρ A :=
  WLA.e0 hw (OpT.call hc) k
theorem WLA.callV {c : Operand} {caps : List Value} [hv : EvAll ρ args vs] [hcv : Ev ρ c (.func (.func f) #[] caps.toArray)] [hf : Callb P f] [hA : InSL A w0 I L] (hw : Region.wanted ⟨some d, .call { callee := .value c, args := args.toArray, argTypes := argTypes }, ty, pos, af, g⟩ (yieldedE n ops ρ) = true) (hd : Nat.blt d n = true)
    (hc : Tr P f (vs ++ caps).toArray (SL w0 I L) val B) (k : ∀ x, WLA ro P n ops Q rest (put1 ρ d (val x)) (B x)) : WLA ro P n ops Q (⟨some d, .call { callee := .value c, args := args.toArray, argTypes := argTypes }, ty, pos, af, g⟩ :: rest) ρ A :=
  WLA.e hw (OpT.callV hc) (fun x => by rw [upd_put1 hd]; exact k x)
theorem WLA.yield {c : Operand} {l : Nat} [hv : EvAll ρ args vs] [hcv : Ev ρ c (.func (.yield l) #[] #[])] [hA : InSL A w0 I L] (hw : Region.wanted ⟨some d, .call { callee := .value c, args := args.toArray, argTypes := argTypes }, ty, pos, af, g⟩ (yieldedE n ops ρ) = true) (hd : Nat.blt d n = true)
    (hc : YTr P l vs.toArray (SL w0 I L) val B) (k : ∀ x, WLA ro P n ops Q rest (put1 ρ d (val x)) (B x)) : WLA ro P n ops Q (⟨some d, .call { callee := .value c, args := args.toArray, argTypes := argTypes }, ty, pos, af, g⟩ :: rest) ρ A :=
  WLA.e hw (OpT.yield hc) (fun x => by rw [upd_put1 hd]; exact k x)
theorem TrP.toTr' {w0 : World} {I : Foot} {L : List HP} {A : World → Prop} [hA : InSL A w0 I L] [hd : DrC A] {args : Array Value} {v : Value} (h : TrP P f args (SL w0 I L) v) : Tr P f args A (fun _ : Unit => v) (fun _ => A) :=
  fun w hw => (h w (hA.out w hw)).mono fun e w' ⟨he, k, hl, hk⟩ => ⟨(), he, hk ▸ hd.out w k hl hw⟩
theorem WLA.cq {v : Value} [hv : EvAll ρ args vs] [hf : Callb P f] [hA : InSL A w0 I L] [hdr : DrC A] (hw : Region.wanted ⟨some d, .call { callee := .value (.func f), args := args.toArray, argTypes := argTypes }, ty, pos, af, g⟩ (yieldedE n ops ρ) = true) (hd : Nat.blt d n = true)
    (hc : TrP P f vs.toArray (SL w0 I L) v) (k : WLA ro P n ops Q rest (put1 ρ d v) A) : WLA ro P n ops Q (⟨some d, .call { callee := .value (.func f), args := args.toArray, argTypes := argTypes }, ty, pos, af, g⟩ :: rest) ρ A :=
  WLA.e hw (T_callS hf.out (by
    have e : args.toArray.map (evalE ρ) = vs.toArray := by simp [← hv.out]
    rw [e]; exact TrP.toTr' hc)) (fun _ => by rw [upd_put1 hd]; exact k)
theorem WLA.cqV {v : Value} {c : Operand} {caps : List Value} [hv : EvAll ρ args vs] [hcv : Ev ρ c (.func (.func f) #[] caps.toArray)] [hf : Callb P f] [hA : InSL A w0 I L] [hdr : DrC A] (hw : Region.wanted ⟨some d, .call { callee := .value c, args := args.toArray, argTypes := argTypes }, ty, pos, af, g⟩ (yieldedE n ops ρ) = true) (hd : Nat.blt d n = true)
    (hc : TrP P f (vs ++ caps).toArray (SL w0 I L) v) (k : WLA ro P n ops Q rest (put1 ρ d v) A) : WLA ro P n ops Q (⟨some d, .call { callee := .value c, args := args.toArray, argTypes := argTypes }, ty, pos, af, g⟩ :: rest) ρ A :=
  WLA.e hw (T_callV hf.out (by
    have e : args.toArray.map (evalE ρ) ++ caps.toArray = (vs ++ caps).toArray := by simp [← hv.out]
    rw [e]; exact TrP.toTr' hc) hcv.out) (fun _ => by rw [upd_put1 hd]; exact k)
end
theorem WPA.ifT {c : Operand} {x y : Code} [hc : Ev ρ c (.bool true)] (h : WPA ro P n x Q ρ A) : WPA ro P n (.cond c x y) Q ρ A := WPA.condTrue hc.out h
theorem WPA.ifF {c : Operand} {x y : Code} [hc : Ev ρ c (.bool false)] (h : WPA ro P n y Q ρ A) : WPA ro P n (.cond c x y) Q ρ A := WPA.condFalse hc.out h
theorem WPA.ifYes {c : Operand} {x y : Code} {p : Prop} [Decidable p] [hc : Ev ρ c (.bool (decide p))] (hp : p) (h : WPA ro P n x Q ρ A) : WPA ro P n (.cond c x y) Q ρ A := WPA.condT hc.out hp h
theorem WPA.ifNo {c : Operand} {x y : Code} {p : Prop} [Decidable p] [hc : Ev ρ c (.bool (decide p))] (hp : ¬ p) (h : WPA ro P n y Q ρ A) : WPA ro P n (.cond c x y) Q ρ A := WPA.condF hc.out hp h
theorem WPA.ifs {c : Operand} {x y : Code} {p : Prop} [Decidable p] [hc : Ev ρ c (.bool (decide p))] (ht : p → WPA ro P n x Q ρ A) (hf : ¬ p → WPA ro P n y Q ρ A) : WPA ro P n (.cond c x y) Q ρ A := WPA.cond hc.out ht hf
theorem WPA.ifB {c : Operand} {x y : Code} {b : Bool} [hc : Ev ρ c (.bool b)] (ht : b = true → WPA ro P n x Q ρ A) (hf : b = false → WPA ro P n y Q ρ A) : WPA ro P n (.cond c x y) Q ρ A := WPA.condB hc.out ht hf
end
class SubT (B T : World → Prop) : Prop where
  out : ∀ w, B w → T w
class SubI (I I' : Foot) : Prop where
  out : I' ⊆ I
instance {I : Foot} : SubI I I := ⟨fun _ h => h⟩
instance {R I I' : Foot} [h : SubI I I'] : SubI (R ++ I) I' := ⟨fun _ hx => List.mem_append_right _ (h.out hx)⟩
instance {w0 : World} {I I' : Foot} {L : List HP} [h : SubI I I'] : SubT (SL w0 I L) (SL w0 I' []) := ⟨fun w hw => (Ent.nil.sl hw).sub h.out⟩
section
variable {ro : Option Nat} {P : Program} {N n i : Nat} {ops : Array Oper} {Q : Hnd} {T : World → Prop} {ρ : Env} {A : World → Prop} {r : Plan} {op : Op} {ty : TypeId} {pos : String} {af : Array Edge} {g : Option (Nat × Bool)} {d : Tmp}
theorem WDQ.m {v : Value} {S : Prop} [h : OpM P ρ A op ty v S] (hw : Region.wanted ⟨some d, op, ty, pos, af, g⟩ (yieldedE N ops ρ) = true) (hd : Nat.blt d N = true) (hs : S) (k : WDA ro P N ops Q T n r (put1 ρ d v) A) : WDQ ro P N ops Q T n ⟨some d, op, ty, pos, af, g⟩ r ρ A :=
  WDQ.v hw (h.out hs) (by rw [upd_put1 hd]; exact k)
theorem WDQ.no (hw : Region.wanted ⟨some d, op, ty, pos, af, g⟩ (yieldedE N ops ρ) = false) (hd : Nat.blt d N = true) (k : WDA ro P N ops Q T n r (put1 ρ d undef) A) : WDQ ro P N ops Q T n ⟨some d, op, ty, pos, af, g⟩ r ρ A :=
  WDQ.off hw (by rw [upd_put1 hd]; exact k)
theorem WDQ.yes {dst : Option Tmp} {j : Nat} {c : Bool} {p : Prop} [hp' : Decidable p] {t : Tmp} (hy : yieldedE N ops ρ j = some (decide p)) (ht : (ops[j]?).bind (·.dst) = some t) (hp : p) (k : WDQ ro P N ops Q T n ⟨dst, op, ty, pos, af, some (j, c)⟩ r (put1 ρ t (.bool true)) A) :
    WDQ ro P N ops Q T n ⟨dst, op, ty, pos, af, some (j, c)⟩ r ρ A := by
  rw [put1_same (by rw [yield_val hy ht, decide_eq_true hp])] at k; exact k
theorem WDQ.nay {dst : Option Tmp} {j : Nat} {c : Bool} {p : Prop} [hp' : Decidable p] {t : Tmp} (hy : yieldedE N ops ρ j = some (decide p)) (ht : (ops[j]?).bind (·.dst) = some t) (hp : ¬ p) (k : WDQ ro P N ops Q T n ⟨dst, op, ty, pos, af, some (j, c)⟩ r (put1 ρ t (.bool false)) A) :
    WDQ ro P N ops Q T n ⟨dst, op, ty, pos, af, some (j, c)⟩ r ρ A := by
  rw [put1_same (by rw [yield_val hy ht, decide_eq_false hp])] at k; exact k
theorem WDQ.both {dst : Option Tmp} {j : Nat} {c : Bool} {p : Prop} [hp' : Decidable p] {t : Tmp} (hy : yieldedE N ops ρ j = some (decide p)) (ht : (ops[j]?).bind (·.dst) = some t) (k1 : p → WDQ ro P N ops Q T n ⟨dst, op, ty, pos, af, some (j, c)⟩ r (put1 ρ t (.bool true)) A)
    (k2 : ¬ p → WDQ ro P N ops Q T n ⟨dst, op, ty, pos, af, some (j, c)⟩ r (put1 ρ t (.bool false)) A) : WDQ ro P N ops Q T n ⟨dst, op, ty, pos, af, some (j, c)⟩ r ρ A := by
  by_cases hp : p
  · exact WDQ.yes hy ht hp (k1 hp)
  · exact WDQ.nay hy ht hp (k2 hp)
section
variable {w0 : World} {I : Foot} {L : List HP} {f : FuncId} {args : List Operand} {argTypes : Array TypeId} {vs : List Value}
theorem WDQ.cq {v : Value} [hv : EvAll ρ args vs] [hf : Callb P f] [hA : InSL A w0 I L] (hw : Region.wanted ⟨some d, .call { callee := .value (.func f), args := args.toArray, argTypes := argTypes }, ty, pos, af, g⟩ (yieldedE N ops ρ) = true) (hd : Nat.blt d N = true)
    (hc : TrP P f vs.toArray (SL w0 I L) v) (k : WDA ro P N ops Q T n r (put1 ρ d v) A) : WDQ ro P N ops Q T n ⟨some d, .call { callee := .value (.func f), args := args.toArray, argTypes := argTypes }, ty, pos, af, g⟩ r ρ A :=
  WDQ.c hw hf.out (vs := vs.toArray) (fun w hw => hc w (hA.out w hw)) (by simp [← hv.out]) (by rw [upd_put1 hd]; exact k)
theorem WDQ.cqV {v : Value} {c : Operand} {caps : List Value} [hv : EvAll ρ args vs] [hcv : Ev ρ c (.func (.func f) #[] caps.toArray)] [hf : Callb P f] [hA : InSL A w0 I L] (hw : Region.wanted ⟨some d, .call { callee := .value c, args := args.toArray, argTypes := argTypes }, ty, pos, af, g⟩ (yieldedE N ops ρ) = true) (hd : Nat.blt d N = true)
    (hc : TrP P f (vs ++ caps).toArray (SL w0 I L) v) (k : WDA ro P N ops Q T n r (put1 ρ d v) A) : WDQ ro P N ops Q T n ⟨some d, .call { callee := .value c, args := args.toArray, argTypes := argTypes }, ty, pos, af, g⟩ r ρ A := fun i hi => by
  refine ⟨_, v, hi, .inl ⟨hw, fun w hw => .inr ⟨f, (vs ++ caps).toArray, ?_, hc w (hA.out w hw)⟩⟩, (by show WDA ro P N ops Q T n r (upd N ρ d v) A; rw [upd_put1 hd]; exact k)⟩
  have e : args.toArray.map (evalE ρ) ++ caps.toArray = (vs ++ caps).toArray := by simp [← hv.out]
  simp [execOp, resolve, hcv.out, Deferred.ofValue, invoke, run_callFunc hf.out, go_sem, e] <;> simp [← hv.out]
theorem WDE.x {τ : Type} {val : τ → Value} {B : τ → World → Prop} {S : Prop} [h : OpE P ρ A op ty τ val B S] (hw : Region.wanted ⟨some d, op, ty, pos, af, g⟩ (yieldedE N ops ρ) = true) (hd : Nat.blt d N = true) (hs : S) [hdr : ∀ x, DrC (B x)] [hT : ∀ x, SubT (B x) T] (hm : ∀ x w, B x w → A w) (k : ∀ x, WDA ro P N ops Q T n r (put1 ρ d (val x)) (B x)) :
    WDE ro P N ops Q T n ⟨some d, op, ty, pos, af, g⟩ r ρ A := WDE.ev hw (h.out hs) hdr (fun x => (hT x).out) hm (fun x => by rw [upd_put1 hd]; exact k x)
theorem WDE.call {τ : Type} {val : τ → Value} {B : τ → World → Prop} [hv : EvAll ρ args vs] [hf : Callb P f] [hA : InSL A w0 I L] (hw : Region.wanted ⟨some d, .call { callee := .value (.func f), args := args.toArray, argTypes := argTypes }, ty, pos, af, g⟩ (yieldedE N ops ρ) = true) (hd : Nat.blt d N = true)
    (hc : Tr P f vs.toArray (SL w0 I L) val B) [hdr : ∀ x, DrC (B x)] [hT : ∀ x, SubT (B x) T] (hm : ∀ x w, B x w → A w) (k : ∀ x, WDA ro P N ops Q T n r (put1 ρ d (val x)) (B x)) : WDE ro P N ops Q T n ⟨some d, .call { callee := .value (.func f), args := args.toArray, argTypes := argTypes }, ty, pos, af, g⟩ r ρ A :=
  WDE.ev hw (OpT.call hc) hdr (fun x => (hT x).out) hm (fun x => by rw [upd_put1 hd]; exact k x)
end
end
def WDP (ro : Option Nat) (P : Program) (N : Nat) (ops : Array Oper) (Q : Hnd) (T : World → Prop) (n : Nat) (o : Oper) (r : Plan) (ρ : Env) (A : World → Prop) : Prop := ∀ i, ops[i]? = some o → WDA ro P N ops Q T n (.p i r) ρ A
def WDW (ro : Option Nat) (P : Program) (N : Nat) (ops : Array Oper) (Q : Hnd) (T : World → Prop) (n : Nat) (o : Oper) (r : Plan) (ρ : Env) (A : World → Prop) : Prop := ∀ i, ops[i]? = some o → WDA ro P N ops Q T n (.w i r) ρ A
section
variable {ro : Option Nat} {P : Program} {N n i j : Nat} {ops : Array Oper} {Q : Hnd} {T : World → Prop} {o o' : Oper} {ρ : Env} {A : World → Prop} {r r' : Plan} {op : Op} {ty : TypeId} {pos : String} {af : Array Edge} {g : Option (Nat × Bool)} {d : Tmp}
theorem WPA.drawT {id : Nat} {l : List Oper} {w0 : World} {I : Foot} {L : List HP} [hA : InSL A w0 I L] (n : Nat) (pl : Plan) (hm : P.follows .mixedOrders = true) (hok : drawOk l.toArray n pl = true)
    [hdr : DrC A] (h : WDA ro P N l.toArray Q (SL w0 I []) n pl ρ A) : WPA ro P N (.region id l.toArray true) Q ρ A := WPA.draw n pl hm hok (fun w hw => Ent.nil.sl (hA.out w hw)) h
theorem WDP.see (hi : ops[i]? = some o) (h : WDP ro P N ops Q T n o r ρ A) : WDA ro P N ops Q T n (.p i r) ρ A := h i hi
theorem WDW.see (hi : ops[i]? = some o) (h : WDW ro P N ops Q T n o r ρ A) : WDA ro P N ops Q T n (.w i r) ρ A := h i hi
theorem WDA.two (hi : ops[i]? = some o) (hj : ops[j]? = some o') (h : WDE ro P N ops Q T n o r ρ A) (h' : WDE ro P N ops Q T n o' r' ρ A) : WDA ro P N ops Q T n (.b false i r false j r') ρ A := by
  obtain ⟨a1, a2, a3, a4, a5, a6, a7, a8, at_, a9, a10⟩ := h i hi
  obtain ⟨b1, b2, b3, b4, b5, b6, b7, b8, bt_, b9, b10⟩ := h' j hj
  exact ⟨⟨a1, a2, a3, a4, a5, a6, a7, a8, at_, fun _ => a9, a10⟩, b1, b2, b3, b4, b5, b6, b7, b8, bt_, fun _ => b9, b10⟩
theorem WDA.twoL (hi : ops[i]? = some o) (hj : ops[j]? = some o') (h : WDW ro P N ops Q T n o r ρ A) (h' : WDE ro P N ops Q T n o' r' ρ A) : WDA ro P N ops Q T n (.b true i r false j r') ρ A := by
  obtain ⟨a1, a2, a3, a4, a5, a6, a7, a8, at_, a10⟩ := h i hi
  obtain ⟨b1, b2, b3, b4, b5, b6, b7, b8, bt_, b9, b10⟩ := h' j hj
  exact ⟨⟨a1, a2, a3, a4, a5, a6, a7, a8, at_, fun h => (by cases h), a10⟩, b1, b2, b3, b4, b5, b6, b7, b8, bt_, fun _ => b9, b10⟩
theorem WDA.twoR (hi : ops[i]? = some o) (hj : ops[j]? = some o') (h : WDE ro P N ops Q T n o r ρ A) (h' : WDW ro P N ops Q T n o' r' ρ A) : WDA ro P N ops Q T n (.b false i r true j r') ρ A := by
  obtain ⟨a1, a2, a3, a4, a5, a6, a7, a8, at_, a9, a10⟩ := h i hi
  obtain ⟨b1, b2, b3, b4, b5, b6, b7, b8, bt_, b10⟩ := h' j hj
  exact ⟨⟨a1, a2, a3, a4, a5, a6, a7, a8, at_, fun _ => a9, a10⟩, b1, b2, b3, b4, b5, b6, b7, b8, bt_, fun h => (by cases h), b10⟩
theorem WDA.twoW (hi : ops[i]? = some o) (hj : ops[j]? = some o') (h : WDW ro P N ops Q T n o r ρ A) (h' : WDW ro P N ops Q T n o' r' ρ A) : WDA ro P N ops Q T n (.b true i r true j r') ρ A := by
  obtain ⟨a1, a2, a3, a4, a5, a6, a7, a8, at_, a10⟩ := h i hi
  obtain ⟨b1, b2, b3, b4, b5, b6, b7, b8, bt_, b10⟩ := h' j hj
  exact ⟨⟨a1, a2, a3, a4, a5, a6, a7, a8, at_, fun h => (by cases h), a10⟩, b1, b2, b3, b4, b5, b6, b7, b8, bt_, fun h => (by cases h), b10⟩
theorem WDP.m {v : Value} {S : Prop} [h : OpM P ρ T op ty v S] (hw : Region.wanted ⟨some d, op, ty, pos, af, g⟩ (yieldedE N ops ρ) = true) (hd : Nat.blt d N = true) (hs : S) (k : WDA ro P N ops Q T n r (put1 ρ d v) A) : WDP ro P N ops Q T n ⟨some d, op, ty, pos, af, g⟩ r ρ A :=
  fun i hi => ⟨_, v, hi, .inl ⟨hw, fun w hw => h.out hs _ _ _ _ w hw⟩, by show WDA ro P N ops Q T n r (upd N ρ d v) A; rw [upd_put1 hd]; exact k⟩
theorem WDP.no (hw : Region.wanted ⟨some d, op, ty, pos, af, g⟩ (yieldedE N ops ρ) = false) (hd : Nat.blt d N = true) (k : WDA ro P N ops Q T n r (put1 ρ d undef) A) : WDP ro P N ops Q T n ⟨some d, op, ty, pos, af, g⟩ r ρ A :=
  fun i hi => ⟨_, undef, hi, .inr ⟨hw, rfl⟩, by show WDA ro P N ops Q T n r (upd N ρ d undef) A; rw [upd_put1 hd]; exact k⟩
theorem WDW.x {τ : Type} {val : τ → Value} {B : τ → World → Prop} {S : Prop} [h : OpE P ρ A op ty τ val B S] (hw : Region.wanted ⟨some d, op, ty, pos, af, g⟩ (yieldedE N ops ρ) = true) (hd : Nat.blt d N = true) (hs : S) [hdr : ∀ x, DrC (B x)] [hT : ∀ x, SubT (B x) T] (k : ∀ x, WDA ro P N ops Q T n r (put1 ρ d (val x)) (B x)) :
    WDW ro P N ops Q T n ⟨some d, op, ty, pos, af, g⟩ r ρ A := fun i hi => ⟨_, τ, val, B, hi, hw, fun w hA => (h.out hs _ _ _ _ w hA).toX, fun x => (hdr x).out, fun x => (hT x).out, fun x => by show WDA ro P N ops Q T n r (upd N ρ d (val x)) (B x); rw [upd_put1 hd]; exact k x⟩
theorem WDW.st {B : World → Prop} {S : Prop} [h : OpS P ρ A op ty B S] (hw : Region.wanted ⟨none, op, ty, pos, af, g⟩ (yieldedE N ops ρ) = true) (hs : S) [hdr : DrC B] [hT : SubT B T] (k : WDA ro P N ops Q T n r ρ B) :
    WDW ro P N ops Q T n ⟨none, op, ty, pos, af, g⟩ r ρ A := fun i hi => ⟨_, Value, id, fun _ => B, hi, hw, fun w hA => ((h.out hs _ _ _ _ w hA).mono fun v w' hb => ⟨v, rfl, hb⟩).toX, fun _ => hdr.out, fun _ => hT.out, fun _ => k⟩
section
variable {w0 : World} {I : Foot} {L : List HP} {f : FuncId} {args : List Operand} {argTypes : Array TypeId} {vs : List Value}
theorem WDW.call {τ : Type} {val : τ → Value} {B : τ → World → Prop} [hv : EvAll ρ args vs] [hf : Callb P f] [hA : InSL A w0 I L] (hw : Region.wanted ⟨some d, .call { callee := .value (.func f), args := args.toArray, argTypes := argTypes }, ty, pos, af, g⟩ (yieldedE N ops ρ) = true) (hd : Nat.blt d N = true)
    (hc : Tr P f vs.toArray (SL w0 I L) val B) [hdr : ∀ x, DrC (B x)] [hT : ∀ x, SubT (B x) T] (k : ∀ x, WDA ro P N ops Q T n r (put1 ρ d (val x)) (B x)) : WDW ro P N ops Q T n ⟨some d, .call { callee := .value (.func f), args := args.toArray, argTypes := argTypes }, ty, pos, af, g⟩ r ρ A :=
  fun i hi => ⟨_, τ, val, B, hi, hw, fun w hA => (OpT.call hc _ _ _ _ w hA).toX, fun x => (hdr x).out, fun x => (hT x).out, fun x => by show WDA ro P N ops Q T n r (upd N ρ d (val x)) (B x); rw [upd_put1 hd]; exact k x⟩
end
end
class LenL (l : List Value) (n : Nat) : Prop where
  out : l.length = n
instance {n : Nat} [h : IsN n 0] : LenL [] n := ⟨h.out.symm⟩
instance {u : Value} {l : List Value} {n : Nat} [h : LenL l n] : LenL (u :: l) (n + 1) := ⟨by simp [h.out]⟩
section
variable {ro : Option Nat} {P : Program} {N n i : Nat} {ops : Array Oper} {Q : Hnd} {T : World → Prop} {ρ : Env} {A : World → Prop} {r : Plan} {ty : TypeId} {pos : String} {af : Array Edge} {g : Option (Nat × Bool)} {w0 : World} {I : Foot} {L : List HP}
def BkE (b : Nat) (t : TypeId) (n : Nat) : HP := fun R => ∃ cs : List Value, cs.length = n ∧ R = [(b, .cells cs.toArray t (0, 0))]
class FindBkE (L : List HP) (b : Nat) (t : outParam TypeId) (n : outParam Nat) (L' : outParam (List HP)) : Prop where
  out : Ent L (BkE b t n :: L')
  back : Ent (BkE b t n :: L') L
instance {L : List HP} {b : Nat} {t : TypeId} {n : Nat} : FindBkE (BkE b t n :: L) b t n L := ⟨Ent.refl, Ent.refl⟩
theorem Ent.bkE {b : Nat} {t : TypeId} {n : Nat} {cs : List Value} {L : List HP} (h : cs.length = n) : Ent (Bk b t cs :: L) (BkE b t n :: L) := Ent.of fun R hR => ⟨cs, h, hR⟩
theorem T_storeE {x y : Operand} {t t' : TypeId} {b n : Nat} {v : Value} {vs : List Value} {L' : List HP} {z : List Value} {bytes : Nat} (hx : evalE ρ x = .pointer (some ⟨b, 0, none⟩)) (hy : evalE ρ y = v) (hv : CellsV v vs) (hz : Inf P t z n bytes) (hl : vs.length = n) {w : World} (hw : SL w0 I (BkE b t' n :: L') w) (d pos af g) :
    OpU P (fun _ w => SL w0 I (Bk b t' vs :: L') w) ((execOp (evalE ρ) ⟨d, .store t x y, ty, pos, af, g⟩).run P w) := by
  obtain ⟨H, R, Rs, h1, ⟨cs, hcs, hR⟩, h3, h4⟩ := hw.uncons
  subst hR
  obtain ⟨inf, hinf, hz'⟩ := Option.map_eq_some_iff.1 hz.size
  obtain ⟨w', h5, h6⟩ := run_storeMany (P := P) (w := w) (j := 0) vs cs.toArray 0 0 w _ h4 rfl (by simp; omega) hv.out.2
  have e : (storeVar t ⟨b, 0, none⟩ v).run P w = .ok () w' := by
    have hs : (Go.sizeOf t).run P w = .ok n w := by simp [Go.sizeOf, typeInfo, hinf, hz', go_sem]
    have h2' : (storeCells ⟨b, 0, none⟩ vs).run P w = .ok () w' := h5
    unfold storeVar
    simp only [Sem.run_bind, hs, Result.andThen, hv.out.1, List.size_toArray, hl, ne_eq, not_true_eq_false, if_false]
    exact h2'
  simp only [execOp, Instr.storeAt, Instr.sureAddr, hx, hy, Sem.run_bind, Sem.run_pure, pure_bind, Result.andThen, e, OpU]
  refine SL.cons h1 (R := [(b, .cells vs.toArray t' (0, 0))]) rfl h3 ?_
  rw [Nat.add_zero, fold_put _ _ _ (by omega)] at h6
  simpa [hl, hcs, List.drop_of_length_le] using h6
instance (priority := 900) {x y : Operand} {t t' : TypeId} {b i n' : Nat} {v : Value} {vs : List Value} {L' : List HP} {z : List Value} {bytes : Nat} [hx : Ev ρ x (.pointer (some ⟨b, i, none⟩))] [hi : IsN i 0] [hy : Ev ρ y v] [hv : CellsV v vs] [hz : Inf P t z n' bytes] [hl : LenL vs n'] [hA : InSL A w0 I L] [hb : FindBkE L b t' n' L'] :
    OpS P ρ A (.store t x y) ty (SL w0 I (Bk b t' vs :: L')) True := ⟨fun _ => OpT.slS fun w hw d pos af g => by
  have hx' := hx.out
  rw [hi.out] at hx'
  exact T_storeE hx' hy.out hv hz hl.out (hb.out.sl hw) d pos af g⟩
theorem WDE.alloc {t : TypeId} {z : List Value} {d : Tmp} {m bytes : Nat} [hz : Inf P t z m bytes] [hl : LenL z m] [hA : InSL A w0 I L] [hT : ∀ b, SubT (SL w0 I (BkE b t m :: L)) T] (hw : Region.wanted ⟨some d, .alloc t, ty, pos, af, g⟩ (yieldedE N ops ρ) = true) (hd : Nat.blt d N = true) (hm : ∀ w, SL w0 I L w → A w)
    (k : ∀ b, WDA ro P N ops Q T n r (put1 ρ d (.pointer (some ⟨b, 0, none⟩))) (SL w0 I (BkE b t m :: L))) : WDE ro P N ops Q T n ⟨some d, .alloc t, ty, pos, af, g⟩ r ρ A :=
  WDE.ev hw (val := fun b : Nat => .pointer (some ⟨b, 0, none⟩)) (B := fun b => SL w0 I (BkE b t m :: L)) (fun d pos af g w hw => ((inferInstance : OpE P ρ A (.alloc t) ty Nat (fun b => .pointer (some ⟨b, 0, none⟩)) (fun b => SL w0 I (Bk b t z :: L)) True).out trivial d pos af g w hw).mono fun v w' ⟨b, h1, h2⟩ => ⟨b, h1, (Ent.bkE hl.out).sl h2⟩)
    (fun _ => inferInstance) (fun b => (hT b).out) (fun b w h => hm w (Ent.drop1.sl h)) (fun b => by rw [upd_put1 hd]; exact k b)
end
class EvR (ρ : Env) (rs : List ResultVar) (v : outParam Value) : Prop where
  out : resL ρ rs = some v
instance {ρ : Env} : EvR ρ [] (.tuple #[]) := ⟨rfl⟩
instance {ρ : Env} {t : Tmp} {v : Value} [h : EvT ρ t v] : EvR ρ [.tmp t] v := ⟨by simp [resL, h.out]⟩
instance {ρ : Env} {t u : Tmp} {v x : Value} [h : EvT ρ t v] [k : EvT ρ u x] : EvR ρ [.tmp t, .tmp u] (.tuple #[v, x]) := ⟨by simp [resL, h.out, k.out]⟩
instance {ρ : Env} {t u q : Tmp} {v x y : Value} [h : EvT ρ t v] [k : EvT ρ u x] [l : EvT ρ q y] : EvR ρ [.tmp t, .tmp u, .tmp q] (.tuple #[v, x, y]) := ⟨by simp [resL, h.out, k.out, l.out]⟩
theorem QQ.end_ {P : Program} {fn : Func} {ρ : Env} {A : World → Prop} {rs : List ResultVar} {v : Value} {τ : Type} {val : τ → Value} {B : τ → World → Prop} (hrs : fn.results = rs.toArray) [hv : EvR ρ rs v] (x : τ) (hx : v = val x) (hB : ∀ w, A w → B x w) (hmk : ρ.ms = [] := by rfl) :
    QQ (fnQ P fn fun v w => ∃ x, v = val x ∧ B x w) .ret ρ A := QQ.fn_ret hrs (by unfold resE; exact hv.out) x hx hB hmk
theorem QQ.endn {P : Program} {fn : Func} {ρ : Env} {A : World → Prop} {rs : List ResultVar} {v : Value} {τ : Type} {val : τ → Value} {B : τ → World → Prop} (hrs : fn.results = rs.toArray) [hv : EvR ρ rs v] (x : τ) (hx : v = val x) (hB : ∀ w, A w → B x w) (hmk : ρ.ms = [] := by rfl) :
    QQ (fnQ P fn fun v w => ∃ x, v = val x ∧ B x w) .normal ρ A := QQ.fn_normal hrs (by unfold resE; exact hv.out) x hx hB hmk
class EntC (L L' : List HP) : Prop where
  out : Ent L L'
instance (priority := 2000) {L : List HP} : EntC L L := ⟨Ent.refl⟩
instance (priority := 1500) {L : List HP} : EntC L [] := ⟨Ent.nil⟩
instance (priority := 1400) {L L1 L' : List HP} {b : Nat} {t : TypeId} {cs : List Value} [h : FindBk L b t cs L1] [k : EntC L1 L'] : EntC L (Bk b t cs :: L') := ⟨Ent.take h.out k.out⟩
instance (priority := 1400) {L L1 L' : List HP} {s : SV} {t : TypeId} {α : Type} {e : Enc α} {xs : List α} [h : FindOwn L s t α e xs L1] [k : EntC L1 L'] : EntC L (OwnS t s xs :: L') := ⟨Ent.take h.out k.out⟩
instance (priority := 1350) {L L' : List HP} {t : TypeId} {α : Type} {e : Enc α} [k : EntC L L'] : EntC L (OwnS t SV.nil ([] : List α) :: L') := ⟨Ent.ownNil k.out⟩
instance (priority := 1300) {L L1 L' : List HP} {κ β : Type} {H : κ → β → HP} {k : κ} {v : β} [h : FindK L H k v L1] [j : EntC L1 L'] : EntC L (H k v :: L') := ⟨Ent.take h.out j.out⟩
instance (priority := 500) {L L' : List HP} {p : HP} [k : EntC L L'] : EntC (p :: L) L' := ⟨Ent.drop k.out⟩
theorem SL.to {w0 : World} {I : Foot} {L L' : List HP} {w : World} [e : EntC L L'] (h : SL w0 I L w) : SL w0 I L' w := e.out.sl h
end Go.Fw
namespace Go.Fw
open Go Go.RowKit
set_option linter.unusedVariables false
set_option linter.unusedSimpArgs false
section
variable {P : Program} {ρ : Env} {A : World → Prop} {ty : TypeId} {w0 : World} {I : Foot} {L : List HP}
class MkI (P : Program) (t : TypeId) : Prop where
  out : ∀ v w, (Instr.makeInterface t v).run P w = .ok (.iface t v) w
instance {x : Operand} {t : TypeId} {v : Value} [h : Ev ρ x v] [hm : MkI P t] : OpM P ρ A (.makeInterface t x) ty (.iface t v) True := ⟨fun _ d pos af g w _ => by
  simp only [execOp, h.out, Sem.run_bind, hm.out, Result.andThen_ok, Sem.run_pure]⟩
def resOne (a : Array Value) : ResultVar → Sem Value
  | .tmp t => pure (a.getD t undef)
  | .cell p t => do loadVar t (← asAddr (a.getD p undef))
class EvC (P : Program) (ρ : Env) (L : List HP) (rs : List ResultVar) (vs : outParam (List Value)) : Prop where
  out : ∀ w0 I w, SL w0 I L w → ∀ a : Array Value, (∀ i, a.getD i undef = ρ.f i) → ∀ acc : Array Value, (rs.foldlM (fun (bs : Array Value) r => bs.push <$> resOne a r) acc).run P w = Result.ok (acc ++ vs.toArray) w
theorem EvC.cons {r : ResultVar} {v : Value} {rs : List ResultVar} {vs : List Value} (h : ∀ w0 I w, SL w0 I L w → ∀ a : Array Value, (∀ i, a.getD i undef = ρ.f i) → (resOne a r).run P w = Result.ok v w) (k : EvC P ρ L rs vs) : EvC P ρ L (r :: rs) (v :: vs) := ⟨fun w0 I w hw a ha acc => by
  have e : (acc.push v) ++ vs.toArray = acc ++ (v :: vs).toArray := by simp
  have h1 : (acc.push <$> resOne a r).run P w = Result.ok (acc.push v) w := by
    rw [map_eq_pure_bind, Sem.run_bind, h w0 I w hw a ha]; rfl
  rw [List.foldlM_cons, Sem.run_bind, h1, Result.andThen_ok, k.out w0 I w hw a ha, e]⟩
instance : EvC P ρ L [] [] := ⟨fun w0 I w h a ha acc => by simp [go_sem]⟩
instance {t : Tmp} {v : Value} {rs : List ResultVar} {vs : List Value} [h : EvT ρ t v] [k : EvC P ρ L rs vs] : EvC P ρ L (.tmp t :: rs) (v :: vs) := EvC.cons (fun w0 I w hw a ha => by
  simp only [resOne, Sem.run_pure, ha, h.out]) k
instance {p : Tmp} {ty t' : TypeId} {b i : Nat} {cs : List Value} {v : Value} {L' : List HP} {rs : List ResultVar} {vs : List Value} [h : EvT ρ p (.pointer (some ⟨b, i, none⟩))] [ht : One P ty] [hb : FindBk L b t' cs L'] [hg : GetL cs i v] [k : EvC P ρ L rs vs] : EvC P ρ L (.cell p ty :: rs) (v :: vs) := EvC.cons (fun w0 I w hw a ha => by
  have hc : w.cell? ⟨b, i, none⟩ = some v := cell_of_heap (hb.out.sl hw).bk (by simpa using hg.out)
  have h1 : (loadVar ty ⟨b, i, none⟩).run P w = .ok v w := by simp [loadVar, run_isAgg_one ht.out, load, Sem.run, hc, go_sem]
  simp only [resOne, Sem.run_bind, ha, h.out, asAddr, Sem.run_pure, Result.andThen_ok, h1]) k
instance {p : Tmp} {ty t' : TypeId} {b i n : Nat} {cs l1 l2 l l3 : List Value} {L' : List HP} {rs : List ResultVar} {vs : List Value} [h : EvT ρ p (.pointer (some ⟨b, i, none⟩))] [ht : Agg P ty n] [hb : FindBk L b t' cs L'] [hf : FirstL cs i l1 l2] [hl : FirstL l2 n l l3] [k : EvC P ρ L rs vs] : EvC P ρ L (.cell p ty :: rs) (.agg l.toArray :: vs) := EvC.cons (fun w0 I w hw a ha => by
  have hbk := (hb.out.sl hw).bk
  have h1 : (loadVar ty ⟨b, i, none⟩).run P w = .ok (.agg l.toArray) w := by
    have hadd : ∀ j, (⟨b, i, none⟩ : Addr).add j = ⟨b, i + j, none⟩ := fun j => by
      unfold Addr.add; split
      · rename_i e; simp [e]
      · rfl
    have hl' := run_loadCells_list (P := P) (w := w) ⟨b, i, none⟩ l (fun j v e => by
      rw [hadd]
      refine cell_of_heap hbk ?_
      have h1 := hf.out.2
      have hjl := (List.getElem?_eq_some_iff.1 e).1
      rw [hf.out.1, hl.out.1]
      simp only [List.getElem?_toArray]
      rw [List.getElem?_append_right (by omega), show i + j - l1.length = j by omega, List.getElem?_append_left hjl]
      exact e)
    rw [hl.out.2] at hl'
    have hl2 : (loadCellsFrom ⟨b, i, none⟩ 0 n #[]).run P w = .ok l.toArray w := hl'
    simp [loadVar, (run_isAgg_agg ht.out w).1, (run_isAgg_agg ht.out w).2, hl2, go_sem]
  simp only [resOne, Sem.run_bind, ha, h.out, asAddr, Sem.run_pure, Result.andThen_ok, h1]) k
class ResV (vs : List Value) (v : outParam Value) : Prop where
  out : (if h : vs.toArray.size = 1 then vs.toArray[0] else .tuple vs.toArray) = v
instance {v : Value} : ResV [v] v := ⟨by simp⟩
instance {u v : Value} {vs : List Value} : ResV (u :: v :: vs) (.tuple (u :: v :: vs).toArray) := ⟨by simp⟩
theorem EvC.results {fn : Func} {rs : List ResultVar} {vs : List Value} {v : Value} (h : EvC P ρ L rs vs) (hv : ResV vs v) (hrs : fn.results = rs.toArray) {w : World} (hw : SL w0 I L w) (a : Array Value) (ha : ∀ i, a.getD i undef = ρ.f i) : (results fn a).run P w = .ok v w := by
  have h1 := h.out w0 I w hw a ha #[]
  have h2 : (fn.results.mapM (resOne a)).run P w = .ok vs.toArray w := by
    rw [hrs, Array.mapM_eq_foldlM]
    simp only [List.foldlM_toArray']
    simpa using h1
  have e : Go.results fn a = (fn.results.mapM (resOne a) >>= fun vs => pure (if h : vs.size = 1 then vs[0] else .tuple vs)) := by
    unfold Go.results
    congr 1
  rw [e, Sem.run_bind, h2, Result.andThen_ok, ← hv.out]
  rfl
theorem SL.mark {D : Nat} {o o' : Obj} {w : World} (h : SL w0 I (Ob D o :: L) w) : w.heap[D]? = some o ∧ SL w0 I (Ob D o' :: L) (w.putObj D o') := by
  obtain ⟨H, R, Rs, h1, h2, h3, h4⟩ := h.uncons
  unfold Ob at h2
  subst h2
  have h4' : St w0 H ((D, o) :: Rs.flatten) w := h4
  exact ⟨h4'.at_ (j := 0) rfl, SL.cons h1 (R := [(D, o')]) rfl h3 (h4'.putObj o')⟩
theorem closes_sl {K : World → Prop} : ∀ (l : List Nat) {L' : List HP} {w : World}, SL w0 I (l.map (fun D => Ob D (.deferred (some []))) ++ L') w → (∀ w, SL w0 I L' w → K w) → closes l w K
  | [], L', w, h, k => k w h
  | D :: l, L', w, h, k => by
    have h' : SL w0 I (Ob D (.deferred (some [])) :: (l.map (fun D => Ob D (.deferred (some []))) ++ L')) w := h
    obtain ⟨h1, h2⟩ := h'.mark (o' := .deferred none)
    exact ⟨h1, closes_sl l (Ent.drop1.sl h2) k⟩
theorem QQ.fin {fn : Func} {rs : List ResultVar} {vs : List Value} {v : Value} {τ : Type} {val : τ → Value} {B : τ → World → Prop} {L' : List HP} [hA : InSL A w0 I L] (l : List Nat) (hmk : ρ.ms = l) (he : Ent L (l.map (fun D => Ob D (.deferred (some []))) ++ L')) (hrs : fn.results = rs.toArray) [hr : EvC P ρ L' rs vs] [hv : ResV vs v] (x : τ) (hx : v = val x) (hB : ∀ w, SL w0 I L' w → B x w) :
    QQ (fnQ P fn fun v w => ∃ x, v = val x ∧ B x w) .ret ρ A := fun w hw => by
  show closes ρ.ms w _
  rw [hmk]
  exact closes_sl l (he.sl (hA.out w hw)) fun w hw => ⟨v, hr.results hv hrs hw, x, hx, hB w hw⟩
theorem QQ.endc {fn : Func} {rs : List ResultVar} {vs : List Value} {v : Value} {τ : Type} {val : τ → Value} {B : τ → World → Prop} [hA : InSL A w0 I L] (hrs : fn.results = rs.toArray) [hr : EvC P ρ L rs vs] [hv : ResV vs v] (x : τ) (hx : v = val x) (hB : ∀ w, A w → B x w) (hmk : ρ.ms = [] := by rfl) :
    QQ (fnQ P fn fun v w => ∃ x, v = val x ∧ B x w) .ret ρ A := fun w hw => by
  show closes ρ.ms w _
  rw [hmk]
  exact ⟨v, hr.results hv hrs (hA.out w hw), x, hx, hB w hw⟩
end
def intsB (P : Program) (t : TypeId) (n : Nat) : Bool :=
  (match P.underlying t with | some (.struct fs) => Nat.beq fs.size n && fs.toList.zipIdx.all fun p => p.1.name != "_" && Nat.beq p.1.offset p.2 && (match P.underlying p.1.type with | some (.int _) => true | _ => false) | _ => false) && !P.stoodInHeld t && !P.eqGuardType P.depth t
class IntsT (P : Program) (t : TypeId) (n : outParam Nat) : Prop where
  out : intsB P t n = true
inductive EqNum : List Value → List Value → Bool → Prop
  | nil : EqNum [] [] true
  | cons {k : IntKind} {a b : Int} {l l' : List Value} {r : Bool} (h : EqNum l l' r) : EqNum (.int k a :: l) (.int k b :: l') (decide (a = b) && r)
class EqL (l l' : List Value) (p : outParam Prop) (dec : outParam (Decidable p)) : Prop where
  out : EqNum l l' (decide p)
instance {k : IntKind} {a b : Int} {u v : Value} {l l' : List Value} {p : Prop} {dec : Decidable p} [h : EqL (u :: l) (v :: l') p dec] : EqL (.int k a :: u :: l) (.int k b :: v :: l') (a = b ∧ p) inferInstance := ⟨by
  have := EqNum.cons (k := k) (a := a) (b := b) h.out
  simpa [Bool.decide_and] using this⟩
theorem run_eqFields {P : Program} {w : World} {d : Nat} : ∀ {l l' : List Value} {r : Bool} (h : EqNum l l' r) (pre pre' : List Value) (fs : List Field), pre.length = pre'.length → fs.length = l.length →
    ((fs.zipIdx pre.length).all fun p => p.1.name != "_" && Nat.beq p.1.offset p.2 && (match P.underlying p.1.type with | some (.int _) => true | _ => false)) = true →
    (Op.eqFields (d + 1) (pre ++ l).toArray (pre' ++ l').toArray fs).run P w = .ok r w := by
  intro l l' r h
  induction h with
  | nil => intro pre pre' fs _ hl _; have : fs = [] := List.eq_nil_of_length_eq_zero hl; subst this; simp [Op.eqFields]
  | @cons k a b l l' r h ih =>
    intro pre pre' fs hp hl hall
    cases fs with
    | nil => simp at hl
    | cons f fs =>
      simp only [List.zipIdx_cons, List.all_cons, Bool.and_eq_true] at hall
      obtain ⟨⟨⟨hn, ho⟩, ht⟩, hrest⟩ := hall
      have ho' := Nat.eq_of_beq_eq_true ho
      have hn' : f.name ≠ "_" := by simpa using hn
      have hone : oneTy P f.type = true := by
        unfold oneTy
        split at ht
        · rename_i e; rw [e]
        · cases ht
      have hint : ∃ k', P.underlying f.type = some (.int k') := by
        split at ht
        · rename_i k' e; exact ⟨k', e⟩
        · cases ht
      obtain ⟨k', hk'⟩ := hint
      have e1 : (part f.type (pre ++ .int k a :: l).toArray f.offset).run P w = .ok (.int k a) w := by
        simp [part, run_isAgg_one hone, ho', go_sem]
      have e2 : (part f.type (pre' ++ .int k b :: l').toArray f.offset).run P w = .ok (.int k b) w := by
        simp [part, run_isAgg_one hone, ho', hp, go_sem]
      have ih' := ih (pre ++ [.int k a]) (pre' ++ [.int k b]) fs (by simp [hp]) (by simpa using hl) (by simpa using hrest)
      simp only [List.append_assoc, List.singleton_append] at ih'
      simp only [Op.eqFields, if_pos hn', Sem.run_bind, e1, e2, Result.andThen_ok, run_equalIn_int w d f.type k k' a b hk']
      by_cases hab : a = b
      · subst hab; simpa using ih'
      · simp [hab, go_sem]
theorem run_eqStruct {P : Program} {t : TypeId} {n : Nat} {l l' : List Value} {r : Bool} (ht : intsB P t n = true) (h : EqNum l l' r) (hl : l.length = n) (w : World) :
    (Op.equalIn 10000 t (.agg l.toArray) (.agg l'.toArray)).run P w = .ok r w ∧ P.eqGuardType P.depth t = false := by
  unfold intsB at ht
  simp only [Bool.and_eq_true, Bool.not_eq_true'] at ht
  obtain ⟨⟨h1, h2⟩, h3⟩ := ht
  split at h1
  · rename_i fs e
    simp only [Bool.and_eq_true] at h1
    have ef : P.fieldsOf t = fs := by simp [Program.fieldsOf, e]
    refine ⟨?_, h3⟩
    rw [show (10000 : Nat) = 9998 + 1 + 1 from rfl, run_equalIn_agg w _ t _ _ (by rw [ef]; exact e) h2, ef]
    have hs := Nat.eq_of_beq_eq_true h1.1
    have := run_eqFields (P := P) (w := w) (d := 9998) h [] [] fs.toList rfl (by simp; omega) (by simpa using h1.2)
    simpa using this
  · cases h1
instance {P : Program} {ρ : Env} {A : World → Prop} {ty t u : TypeId} {x y : Operand} {n : Nat} {l l' : List Value} {p : Prop} {dec : Decidable p} [h1 : Ev ρ x (.agg l.toArray)] [h2 : Ev ρ y (.agg l'.toArray)] [ht : IntsT P t n] [hl : LenL l n] [h : EqL l l' p dec] : OpM P ρ A (.binOp .eql t x y u) ty (.bool (decide p)) True := ⟨fun _ d pos af g w _ => by
  obtain ⟨e1, e2⟩ := run_eqStruct ht.out h.out hl.out w
  simp only [execOp, h1.out, h2.out, Sem.run_bind, run_eqGuard_agg _ _ _ _ _ _ _ e2, Result.andThen_ok, run_eql_struct, e1, Sem.run_pure]⟩
instance {P : Program} {ρ : Env} {A : World → Prop} {ty t u : TypeId} {x y : Operand} {n : Nat} {l l' : List Value} {p : Prop} {dec : Decidable p} [h1 : Ev ρ x (.agg l.toArray)] [h2 : Ev ρ y (.agg l'.toArray)] [ht : IntsT P t n] [hl : LenL l n] [h : EqL l l' p dec] : OpM P ρ A (.binOp .neq t x y u) ty (.bool (decide (¬ p))) True := ⟨fun _ d pos af g w _ => by
  obtain ⟨e1, e2⟩ := run_eqStruct ht.out h.out hl.out w
  simp only [execOp, h1.out, h2.out, Sem.run_bind, run_eqGuard_agg _ _ _ _ _ _ _ e2, Result.andThen_ok, run_neq_struct, e1, Sem.run_pure, decide_not]⟩
end Go.Fw
namespace Go.Fw
open Go Go.RowKit Go.ChangeShapes Go.WideShapes
set_option linter.unusedVariables false
set_option linter.unusedSimpArgs false
def gStr (_ : World) (s : ByteArray) : Prop := s.size ≤ 140737488351232
def allB (w : World) : Foot := (List.range w.heap.size).filterMap fun b => (w.heap[b]?).map fun o => (b, o)
theorem mem_allB {w : World} {b : Nat} {o : Obj} : (b, o) ∈ allB w ↔ w.heap[b]? = some o := by
  simp only [allB, List.mem_filterMap, List.mem_range, Option.map_eq_some_iff, Prod.mk.injEq]
  constructor
  · rintro ⟨a, _, o', h, rfl, rfl⟩; exact h
  · intro h; exact ⟨b, (Array.getElem?_eq_some_iff.1 h).1, o, h, rfl, rfl⟩
end Go.Fw
namespace Go.Fw
open Go Go.RowKit
set_option linter.unusedVariables false
set_option linter.unusedSimpArgs false
def kb (b : UInt8) : KInt .u8 := (b.toNat : Int)
theorem kb_cells (b : UInt8) : Enc.cells (kb b) = [.int .u8 b.toNat] := rfl
def bytesK (t : ByteArray) : List (KInt .u8) := t.data.toList.map kb
theorem bytesK_len (t : ByteArray) : (bytesK t).length = t.size := (List.length_map _).trans Array.length_toList
class IsBytes (xs : List (KInt .u8)) (t : outParam ByteArray) : Prop where
  out : xs = bytesK t
instance {t : ByteArray} : IsBytes (bytesK t) t := ⟨rfl⟩
theorem flat_bytes : ∀ l : List UInt8, flat (l.map kb) = l.map fun b => Value.int .u8 (b.toNat : Int)
  | [] => rfl
  | b :: l => by
    have := flat_bytes l
    unfold flat at this ⊢
    rw [List.map_cons, List.flatMap_cons, this, List.map_cons, kb_cells]; rfl
theorem flat_bytesK (t : ByteArray) : flat (bytesK t) = t.data.toList.map fun b => Value.int .u8 (b.toNat : Int) := flat_bytes _
section
variable {P : Program} {ρ : Env} {A : World → Prop} {ty : TypeId} {w0 : World} {I : Foot} {L L' : List HP}
instance {x : Operand} {t t' e : TypeId} {s : SV} {xs : List (KInt .u8)} {b : ByteArray} [hx : Ev ρ x (.slice s.a s.n s.cap)] [ht : Und P t (.slice e)] [he : Und P e (.int .u8)] [hd : Und P t' .string] [hA : InSL A w0 I L] [hr : RdS I L s (KInt .u8) inferInstance xs] [hb : IsBytes xs b] :
    OpM P ρ A (.convert t t' x) ty (.string b) True := ⟨fun _ => OpP.at fun w hw => by
  have h := hr.out w0 w (hA.out w hw)
  have hn := h.len
  have hbn : xs.length = b.data.toList.length := by rw [hb.out, bytesK_len]; exact Array.length_toList.symm
  intro d pos af g w' hw'
  subst hw'
  have key : (convert t t' (.slice s.a s.n s.cap)).run P w' = .ok (.string b) w' := by
    cases hsa : s.a with
    | none =>
      have hz : s.n = 0 := by
        rcases h.plain with h0 | ⟨b', o, ha⟩
        · omega
        · rw [hsa] at ha; cases ha
      have hb0 : b = ⟨#[]⟩ := by
        have h0 : b.data.toList.length = 0 := by omega
        cases b with
        | mk d => cases d with
          | mk l => cases l with
            | nil => rfl
            | cons x l => simp at h0
      subst hb0
      rw [run_convert_bytes_string w' t t' e none s.n s.cap ht.out he.out hd.out]
      simp [Conv.bytesToString, go_sem]
      rfl
    | some a =>
      have e1 : s.n = b.data.toList.length := by omega
      rw [e1, run_convert_bytes_back w' t t' e a s.cap b.data.toList ht.out he.out hd.out]
      · intro j hj
        have hjx : j < xs.length := by omega
        have hc := h.cells j 0 (.int .u8 (b.data.toList[j].toNat : Int)) hjx (by
          have : xs.getD j Enc.dflt = kb b.data.toList[j] := by
            rw [hb.out]; unfold bytesK
            rw [List.getD_eq_getElem?_getD, List.getElem?_map, List.getElem?_eq_getElem hj]; rfl
          rw [this, kb_cells]; rfl)
        rcases h.plain with h0 | ⟨b', o, ha⟩
        · omega
        · rw [hsa] at ha; cases ha
          simp only [eAddr, hsa, Option.getD_some] at hc
          have ea : (⟨b', o, none⟩ : Addr).add j = ⟨b', o + (j : Int).toNat * Enc.sz (KInt .u8) + 0, none⟩ := by
            have hs : Enc.sz (KInt .u8) = 1 := rfl
            rw [hs]; unfold Addr.add; split <;> simp_all
          rw [ea]; exact hc
  simp only [execOp, hx.out, Sem.run_bind, key, Result.andThen_ok, Sem.run_pure]⟩
section
variable {ro : Option Nat} {n : Nat} {Q : Hnd} {c : Operand} {x y : Code} {b : Bool} {ops : Array Oper} {rest : List Oper} {op : Op} {pos : String} {af : Array Edge} {dst : Option Tmp} {j : Nat} {t : Tmp} {bc : Bool}
theorem WPA.ifBt [hc : Ev ρ c (.bool b)] (hb : b = true) (h : WPA ro P n x Q ρ A) : WPA ro P n (.cond c x y) Q ρ A := WPA.ifB (fun _ => h) (fun h' => by rw [hb] at h'; cases h')
theorem WPA.ifBf [hc : Ev ρ c (.bool b)] (hb : b = false) (h : WPA ro P n y Q ρ A) : WPA ro P n (.cond c x y) Q ρ A := WPA.ifB (fun h' => by rw [hb] at h'; cases h') (fun _ => h)
theorem WPA.ifBnt [hc : Ev ρ c (.bool (!b))] (hb : b = true) (h : WPA ro P n y Q ρ A) : WPA ro P n (.cond c x y) Q ρ A := WPA.ifBf (by rw [hb]; rfl) h
theorem WPA.ifBnf [hc : Ev ρ c (.bool (!b))] (hb : b = false) (h : WPA ro P n x Q ρ A) : WPA ro P n (.cond c x y) Q ρ A := WPA.ifBt (by rw [hb]; rfl) h
end
section
variable {ro : Option Nat} {N n : Nat} {ops : Array Oper} {Q : Hnd} {T : World → Prop} {r : Plan} {op : Op} {pos : String} {af : Array Edge}
theorem WDP.yes {dst : Option Tmp} {j : Nat} {c : Bool} {p : Prop} [hp' : Decidable p] {t : Tmp} (hy : yieldedE N ops ρ j = some (decide p)) (ht : (ops[j]?).bind (·.dst) = some t) (hp : p) (k : WDP ro P N ops Q T n ⟨dst, op, ty, pos, af, some (j, c)⟩ r (put1 ρ t (.bool true)) A) :
    WDP ro P N ops Q T n ⟨dst, op, ty, pos, af, some (j, c)⟩ r ρ A := by
  rw [put1_same (by rw [yield_val hy ht, decide_eq_true hp])] at k; exact k
theorem WDP.nay {dst : Option Tmp} {j : Nat} {c : Bool} {p : Prop} [hp' : Decidable p] {t : Tmp} (hy : yieldedE N ops ρ j = some (decide p)) (ht : (ops[j]?).bind (·.dst) = some t) (hp : ¬ p) (k : WDP ro P N ops Q T n ⟨dst, op, ty, pos, af, some (j, c)⟩ r (put1 ρ t (.bool false)) A) :
    WDP ro P N ops Q T n ⟨dst, op, ty, pos, af, some (j, c)⟩ r ρ A := by
  rw [put1_same (by rw [yield_val hy ht, decide_eq_false hp])] at k; exact k
theorem WDP.both {dst : Option Tmp} {j : Nat} {c : Bool} {p : Prop} [hp' : Decidable p] {t : Tmp} (hy : yieldedE N ops ρ j = some (decide p)) (ht : (ops[j]?).bind (·.dst) = some t) (k1 : p → WDP ro P N ops Q T n ⟨dst, op, ty, pos, af, some (j, c)⟩ r (put1 ρ t (.bool true)) A)
    (k2 : ¬ p → WDP ro P N ops Q T n ⟨dst, op, ty, pos, af, some (j, c)⟩ r (put1 ρ t (.bool false)) A) : WDP ro P N ops Q T n ⟨dst, op, ty, pos, af, some (j, c)⟩ r ρ A := by
  by_cases hp : p
  · exact WDP.yes hy ht hp (k1 hp)
  · exact WDP.nay hy ht hp (k2 hp)
end
def BkI (b : Nat) (t : TypeId) (cs : List Value) : Foot := [(b, .cells cs.toArray t (0, 0))]
theorem Bk.froz {b : Nat} {t : TypeId} {cs : List Value} {R : Foot} (h : Bk b t cs R) : R = BkI b t cs := h
class InI (I : Foot) (b : Nat) (t : outParam TypeId) (cs : outParam (List Value)) : Prop where
  out : (b, .cells cs.toArray t (0, 0)) ∈ I
instance {I : Foot} {b : Nat} {t : TypeId} {cs : List Value} : InI (BkI b t cs ++ I) b t cs := ⟨List.mem_append_left _ (List.mem_singleton.2 rfl)⟩
instance (priority := 900) {x : Operand} {t t' : TypeId} {b i : Nat} {cs : List Value} {v : Value} [hx : Ev ρ x (.pointer (some ⟨b, i, none⟩))] [ht : One P t] [hA : InSL A w0 I L] [hb : InI I b t' cs] [hg : GetL cs i v] :
    OpM P ρ A (.load t x) ty v True := ⟨fun _ => P_load ht.out hx.out fun w hw => cell_of_heap ((hA.out w hw).mem _ _ hb.out) (by simpa using hg.out)⟩
theorem WPA.freezeBk {ro : Option Nat} {n : Nat} {Q : Hnd} {c : Code} {b : Nat} {t : TypeId} {cs : List Value} [hA : InSL A w0 I L] [hb : FindBk L b t cs L'] (k : WPA ro P n c Q ρ (SL w0 (BkI b t cs ++ I) L')) : WPA ro P n c Q ρ A :=
  WPA.mono (fun w hw => hb.out.sl (hA.out w hw)) (WPA.freeze fun R hR => by rw [hR.froz]; exact k)
theorem SL.unI {R I : Foot} {L : List HP} {w : World} (h : SL w0 (R ++ I) L w) : SL w0 I L w := h.sub fun _ hx => List.mem_append_right _ hx
end
class Stp (A : Prop) (B : outParam Prop) : Prop where
  out : B → A
theorem Stp.go {A B : Prop} [h : Stp A B] (k : B) : A := h.out k
section
variable {ro : Option Nat} {P : Program} {n N : Nat} {ops : Array Oper} {Q : Hnd} {ρ : Env} {A : World → Prop}
instance {x y : Code} : Stp (WPA ro P n (.seq x y) Q ρ A) (WPA ro P n x (seqQ ro P n y Q) ρ A) := ⟨WPA.seq⟩
instance {y : Code} : Stp (QQ (seqQ ro P n y Q) .normal ρ A) (WPA ro P n y Q ρ A) := ⟨QQ.seq_normal⟩
instance {y : Code} : Stp (QQ (seqQ ro P n y Q) .ret ρ A) (QQ Q .ret ρ A) := ⟨QQ.seq_ret⟩
instance {y : Code} {id : Nat} : Stp (QQ (seqQ ro P n y Q) (.exit id) ρ A) (QQ Q (.exit id) ρ A) := ⟨QQ.seq_exit⟩
instance {id : Nat} : Stp (QQ (blockQ id Q) .normal ρ A) (QQ Q .normal ρ A) := ⟨QQ.block_normal⟩
instance {id : Nat} : Stp (QQ (blockQ id Q) .ret ρ A) (QQ Q .ret ρ A) := ⟨QQ.block_ret⟩
instance (priority := 1100) {id : Nat} : Stp (QQ (blockQ id Q) (.exit id) ρ A) (QQ Q .normal ρ A) := ⟨QQ.block_hit⟩
instance {σ : Type} {C : σ → Env → Prop} {B : σ → World → Prop} {m : σ → Nat} {x : σ} : Stp (QQ (loopQ C B m x Q) .ret ρ A) (QQ Q .ret ρ A) := ⟨QQ.loop_ret⟩
instance {σ : Type} {C : σ → Env → Prop} {B : σ → World → Prop} {m : σ → Nat} {x : σ} {id : Nat} : Stp (QQ (loopQ C B m x Q) (.exit id) ρ A) (QQ Q (.exit id) ρ A) := ⟨QQ.loop_exit⟩
instance : Stp (WPA ro P n .skip Q ρ A) (QQ Q .normal ρ A) := ⟨WPA.skip⟩
instance : Stp (WPA ro P n .ret Q ρ A) (QQ Q .ret ρ A) := ⟨WPA.ret⟩
instance {id : Nat} : Stp (WPA ro P n (.exit id) Q ρ A) (QQ Q (.exit id) ρ A) := ⟨WPA.exit⟩
instance {id : Nat} {c : Code} : Stp (WPA ro P n (.block id c) Q ρ A) (WPA ro P n c (blockQ id Q) ρ A) := ⟨WPA.block⟩
instance {id : Nat} {l : List Oper} : Stp (WPA ro P n (.region id l.toArray false) Q ρ A) (WLA ro P n l.toArray Q l ρ A) := ⟨WPA.region⟩
instance : Stp (WLA ro P n ops Q [] ρ A) (QQ Q .normal ρ A) := ⟨WLA.nil⟩
theorem WPA.dec {c : Operand} {x y : Code} {p : Prop} [hp' : Decidable p] [hc : Ev ρ c (.bool (decide p))] (h : p ∧ WPA ro P n x Q ρ A ∨ ¬ p ∧ WPA ro P n y Q ρ A) : WPA ro P n (.cond c x y) Q ρ A :=
  h.elim (fun h => WPA.ifYes h.1 h.2) fun h => WPA.ifNo h.1 h.2
variable {rest : List Oper} {op : Op} {ty : TypeId} {pos : String} {af : Array Edge} {dst : Option Tmp} {j : Nat} {t : Tmp} {bc : Bool} {d : Tmp} {g : Option (Nat × Bool)} {T : World → Prop} {r : Plan} {v : Value} {p : Prop} [hp' : Decidable p]
theorem WLA.dec (hy : yieldedE n ops ρ j = some (decide p)) (ht : (ops[j]?).bind (·.dst) = some t) (h : p ∧ WLA ro P n ops Q (⟨dst, op, ty, pos, af, some (j, bc)⟩ :: rest) (put1 ρ t (.bool true)) A ∨ ¬ p ∧ WLA ro P n ops Q (⟨dst, op, ty, pos, af, some (j, bc)⟩ :: rest) (put1 ρ t (.bool false)) A) : WLA ro P n ops Q (⟨dst, op, ty, pos, af, some (j, bc)⟩ :: rest) ρ A :=
  h.elim (fun h => WLA.yes hy ht h.1 h.2) fun h => WLA.nay hy ht h.1 h.2
theorem WLA.pk {a b : Operand} [hc : Ev ρ (.tmp t) (.bool (decide p))] (h : p ∧ WLA ro P n ops Q (⟨some d, .pick (.tmp t) a b, ty, pos, af, g⟩ :: rest) (put1 ρ t (.bool true)) A ∨ ¬ p ∧ WLA ro P n ops Q (⟨some d, .pick (.tmp t) a b, ty, pos, af, g⟩ :: rest) (put1 ρ t (.bool false)) A) : WLA ro P n ops Q (⟨some d, .pick (.tmp t) a b, ty, pos, af, g⟩ :: rest) ρ A :=
  h.elim (fun h => WLA.pickT h.1 h.2) fun h => WLA.pickF h.1 h.2
theorem WDQ.dec {m : Nat} (hy : yieldedE N ops ρ j = some (decide p)) (ht : (ops[j]?).bind (·.dst) = some t) (h : p ∧ WDQ ro P N ops Q T m ⟨dst, op, ty, pos, af, some (j, bc)⟩ r (put1 ρ t (.bool true)) A ∨ ¬ p ∧ WDQ ro P N ops Q T m ⟨dst, op, ty, pos, af, some (j, bc)⟩ r (put1 ρ t (.bool false)) A) : WDQ ro P N ops Q T m ⟨dst, op, ty, pos, af, some (j, bc)⟩ r ρ A :=
  h.elim (fun h => WDQ.yes hy ht h.1 h.2) fun h => WDQ.nay hy ht h.1 h.2
theorem WDP.dec {m : Nat} (hy : yieldedE N ops ρ j = some (decide p)) (ht : (ops[j]?).bind (·.dst) = some t) (h : p ∧ WDP ro P N ops Q T m ⟨dst, op, ty, pos, af, some (j, bc)⟩ r (put1 ρ t (.bool true)) A ∨ ¬ p ∧ WDP ro P N ops Q T m ⟨dst, op, ty, pos, af, some (j, bc)⟩ r (put1 ρ t (.bool false)) A) : WDP ro P N ops Q T m ⟨dst, op, ty, pos, af, some (j, bc)⟩ r ρ A :=
  h.elim (fun h => WDP.yes hy ht h.1 h.2) fun h => WDP.nay hy ht h.1 h.2
end
end Go.Fw
namespace Go.Fw
open Go Go.RowKit
set_option linter.unusedVariables false
set_option linter.unusedSimpArgs false
section
variable {P : Program} {w0 : World} {I : Foot} {L L' : List HP} {A : World → Prop} {rc : LoopState → Option Code → Obj}
theorem WLA.pure {ro : Option Nat} {n : Nat} {Q : Hnd} {ops : Array Oper} {l : List Oper} {ρ : Env} {p : Prop} (k : p → WLA ro P n ops Q l ρ A) : WLA ro P n ops Q l ρ (fun w => p ∧ A w) := fun m a w ha hA => k hA.1 m a w ha hA.2
theorem QQ.midS {l N : Nat} {bd : Code} {Q : Hnd} {ρ : Env} [hA : InSL A w0 I L] [he : FindK L Ob l (rc .ready none) L'] (h : WPA (some l) P N bd Q ρ (SL w0 I (Ob l (rc .busy none) :: L'))) :
    QQ (midQ P l N rc bd Q) .normal ρ A := fun w hw => by
  obtain ⟨h1, h2⟩ := (he.out.sl (hA.out w hw)).mark (o' := rc .busy none)
  exact ⟨h1, fun m a u ha hu => h m a u ha (hu ▸ h2)⟩
theorem QQ.rndN {l : Nat} {R : Bool → World → Prop} {ρ : Env} [hA : InSL A w0 I L] [he : FindK L Ob l (rc .busy none) L'] (h : ∀ w, SL w0 I (Ob l (rc .ready none) :: L') w → R true w) :
    QQ (rndQ l rc R) .normal ρ A := fun w hw => by
  obtain ⟨h1, h2⟩ := (he.out.sl (hA.out w hw)).mark (o' := rc .ready none)
  exact ⟨h1, h _ h2⟩
instance {ρ : Env} {ms : List Nat} {t : Tmp} {v : Value} [h : EvT ρ t v] : EvT ⟨ρ.f, ms⟩ t v := ⟨h.out⟩
theorem agreeP2 {N : Nat} {ρ : Env} {p q : Nat} {v u : Value} (hp : Nat.blt p N = true) (hq : Nat.blt q N = true) (tmps : Array Value) (hs : tmps.size = N) (hag : ∀ i, tmps.getD i undef = ρ.f i) :
    Agree N (put1 (put1 ⟨ρ.f, []⟩ p v) q u) { tmps := (#[p, q].zip #[v, u]).foldl (fun t (p, v) => t.setIfInBounds p v) tmps, defers := [] } [] := by
  rw [← upd_put1 hp, ← upd_put1 hq]; exact agree2 tmps hs hag
theorem YTr.ofS {l N : Nat} {ps : Array Tmp} {as_ bd : Code} {D : Nat} {args : Array Value} {ρ ρ1 : Env} {τ : Type} {B : τ → World → Prop} {val : τ → Bool} (hrc : IsRec rc N ρ ps as_ bd D)
    (hag : ∀ tmps : Array Value, tmps.size = N → (∀ i, tmps.getD i undef = ρ.f i) → Agree N ρ1 { tmps := (ps.zip args).foldl (fun t (p, v) => t.setIfInBounds p v) tmps, defers := [] } []) (hps : args.size = ps.size)
    [he : FindK L Ob l (rc .ready none) L']
    (h : WPA (some l) P N as_ (midQ P l N rc bd (rndQ l rc fun b w => ∃ x, val x = b ∧ B x w)) ρ1 (SL w0 I L)) :
    YTr P l args (SL w0 I L) (fun x => .bool (val x)) B := by
  obtain ⟨fn, tmps, hs, hg, rfl⟩ := hrc
  intro w hw
  have hl := ((he.out.sl hw).mark (o' := .deferred none)).1
  refine ⟨fn, _, as_, bd, run_yield hl hps, roundIn_of_wpIn (F := Fence.wide) trivial ?_⟩
  refine wpIn_mono (h (0, []) _ w (hag tmps hs hg) hw) ?_
  intro e a w1 hq
  cases e with
  | normal =>
    obtain ⟨ρ1, ha1, hl1, hb⟩ := hq
    refine ⟨_, run_beginRound hl1 rfl, wpIn_mono (hb (0, []) a _ ha1 rfl) ?_⟩
    intro e a2 w2 hq2
    cases e with
    | normal =>
      obtain ⟨_, _, hr, x, hx, hB⟩ := hq2
      exact ⟨_, _, run_endRound none hr, x, (by show _ = Ending.returned (.bool (val x)); rw [hx]; rfl), hB⟩
    | ret =>
      obtain ⟨_, _, hr, x, hx, hB⟩ := hq2
      exact ⟨_, _, run_endRound (some .ret) hr, x, (by show _ = Ending.returned (.bool (val x)); rw [hx]; rfl), hB⟩
    | exit id =>
      obtain ⟨_, _, hr, x, hx, hB⟩ := hq2
      exact ⟨_, _, run_endRound (some (.exit id)) hr, x, (by show _ = Ending.returned (.bool (val x)); rw [hx]; rfl), hB⟩
    | goto t => obtain ⟨_, _, hf⟩ := hq2; exact hf.elim
    | panic c => obtain ⟨_, _, hf⟩ := hq2; exact hf.elim
    | outgrown => exact hq2.elim
  | ret => obtain ⟨_, _, hf⟩ := hq; exact hf.elim
  | exit id => obtain ⟨_, _, hf⟩ := hq; exact hf.elim
  | goto t => obtain ⟨_, _, hf⟩ := hq; exact hf.elim
  | panic c => obtain ⟨_, _, hf⟩ := hq; exact hf.elim
  | outgrown => exact hq.elim
theorem YTr.ent {l : Nat} {args : Array Value} {τ : Type} {val : τ → Value} {B : τ → World → Prop} (h : YTr P l args (SL w0 I L') val B) [e : EntC L L'] : YTr P l args (SL w0 I L) val B :=
  h.conv (fun _ hw => hw.to) fun x w hb => ⟨x, rfl, hb⟩
theorem WPA.rangeS {N : Nat} {g : Operand} {ps : Array Tmp} {as_ bd : Code} {Q : Hnd} {ρ : Env} {gf : FuncId} {caps : List Value} [hA : InSL A w0 I L] [hg : Ev ρ g (.func (.func gf) #[] caps.toArray)] [hf : Callb P gf]
    (h : ∀ (D : Nat) (rc : LoopState → Option Code → Obj), IsRec rc N ρ ps as_ bd D →
      ∃ (τ : Type) (val : τ → Value) (st : τ → LoopState) (jump : τ → Option Code) (L' : τ → List HP),
        Tr P gf (List.toArray (.func (.yield (D + 1)) #[] #[] :: caps)) (SL w0 I (Ob (D + 1) (rc .ready none) :: Ob D (.deferred (some [])) :: L)) val
          (fun x => SL w0 I (Ob (D + 1) (rc (st x) (jump x)) :: L' x)) ∧
        ∀ x, st x ≠ .busy ∧ jumpQ Q ⟨ρ.f, D :: ρ.ms⟩ (SL w0 I (L' x)) (jump x)) :
    WPA none P N (.rangeFunc g ps as_ bd) Q ρ A := by
  intro m a w ha hw
  replace hw := hA.out w hw
  refine wpIn_rangeFunc fun fn _ => ?_
  obtain ⟨τ, val, st, jump, L', hT, hk⟩ := h w.heap.size _ ⟨fn, a.tmps, ha.sz, ha.get, rfl⟩
  have hw1 := (hw.push (.deferred (some [])) (Ob w.heap.size (.deferred (some []))) rfl).push (.loop ⟨.ready, none, fn, a.tmps, ps, as_, bd, w.heap.size⟩) (Ob (w.heap.size + 1) (.loop ⟨.ready, none, fn, a.tmps, ps, as_, bd, w.heap.size⟩)) (by simp [Ob])
  have hen := run_enterLoop_outer (P := P) (w := w) fn a.tmps ps as_ bd
  have hw1' : SL w0 I (Ob (w.heap.size + 1) (.loop ⟨.ready, none, fn, a.tmps, ps, as_, bd, w.heap.size⟩) :: Ob w.heap.size (.deferred (some [])) :: L) ((w.alloc (.deferred (some []))).alloc (.loop ⟨.ready, none, fn, a.tmps, ps, as_, bd, w.heap.size⟩)) := hw1
  generalize (w.alloc (.deferred (some []))).alloc (.loop ⟨.ready, none, fn, a.tmps, ps, as_, bd, w.heap.size⟩) = W1 at hen hw1'
  have hg' : a.eval g = .func (.func gf) #[] caps.toArray := by rw [ha.eval]; exact hg.out
  refine ⟨w.heap.size + 1, [{ target := .collected w.heap.size, args := #[] }], W1, { target := .fn (.func gf) caps.toArray, args := #[.func (.yield (w.heap.size + 1)) #[] #[]] }, W1, gf,
    #[.func (.yield (w.heap.size + 1)) #[] #[]] ++ caps.toArray, W1, hen, ?_, fun _ _ => trivial, ?_, fun h => (by cases h), ?_⟩
  · simp only [resolve, hg']
    simp [go_sem, Deferred.ofValue]
  · simp [invoke, go_sem, run_callFunc hf.out]
  · have e : (#[.func (.yield (w.heap.size + 1)) #[] #[]] ++ caps.toArray : Array Value) = List.toArray (.func (.yield (w.heap.size + 1)) #[] #[] :: caps) := by simp
    rw [e]
    have hc : CallsIn (FR none) (m.1 - 1) P gf _ _ _ := callsIn_wide.2 (hT _ hw1')
    refine hc.mono ?_
    rintro e w3 ⟨x, rfl, hB⟩
    obtain ⟨hst, hj⟩ := hk x
    obtain ⟨hl, hB1⟩ := hB.mark (o' := .loop { (⟨st x, jump x, fn, a.tmps, ps, as_, bd, w.heap.size⟩ : Loop) with state := .exhausted })
    refine ⟨_, _, run_endLoop hl hst, ?_⟩
    have hB2 := Ent.drop1.sl hB1
    have ha2 : Agree N ⟨ρ.f, w.heap.size :: ρ.ms⟩ { a with defers := [{ target := .collected w.heap.size, args := #[] }] ++ a.defers } m.2 := ⟨ha.sz, ha.get, by show _ :: a.defers = _; rw [ha.df]; rfl⟩
    generalize jump x = j at hj hB2 hB hl ⊢
    unfold jumpQ at hj
    split at hj
    · exact ⟨_, ha2, hj _ hB2⟩
    · exact wpIn_ret ⟨_, ha2, hj _ hB2⟩
    · exact wpIn_exit ⟨_, ha2, hj _ hB2⟩
    · exact hj.elim
end
end Go.Fw
namespace Go.Fw
open Go Go.RowKit
set_option linter.unusedVariables false
set_option linter.unusedSimpArgs false
class EncI (α : Type) [Enc α] : Prop where
  inj : ∀ x y : α, Enc.cells x = Enc.cells y → x = y
instance : EncI Int := ⟨fun x y h => by injection h with h _; injection h⟩
instance : EncI SV := ⟨fun x y h => by
  injection h with h _; injection h with h1 h2 h3
  cases x; cases y; simp only at h1 h2 h3; rw [h1, h2, h3]⟩
instance {α β : Type} [Enc α] [Enc β] [EncI α] [EncI β] : EncI (α × β) := ⟨fun x y h => by
  have h : Enc.cells x.1 ++ Enc.cells x.2 = Enc.cells y.1 ++ Enc.cells y.2 := h
  have h' := List.append_inj h (by rw [Enc.len, Enc.len])
  exact Prod.ext (EncI.inj _ _ h'.1) (EncI.inj _ _ h'.2)⟩
theorem RdW.det {α : Type} [Enc α] [EncI α] {w : World} {s : SV} {xs ys : List α} (h : RdW w s xs) (k : RdW w s ys) : xs = ys := by
  have hx := h.len
  have hy := k.len
  refine List.ext_getElem (by omega) fun i h1 h2 => EncI.inj _ _ ?_
  have e1 : xs.getD i Enc.dflt = xs[i] := by simp [List.getD_eq_getElem?_getD, h1]
  have e2 : ys.getD i Enc.dflt = ys[i] := by simp [List.getD_eq_getElem?_getD, h2]
  refine List.ext_getElem (by rw [Enc.len, Enc.len]) fun q h3 h4 => ?_
  have a := h.cells i q _ h1 (by rw [e1]; exact List.getElem?_eq_getElem h3)
  have b := k.cells i q _ h2 (by rw [e2]; exact List.getElem?_eq_getElem h4)
  rw [a] at b
  injection b
open Classical in
noncomputable def rd (α : Type) [e : Enc α] (I : Foot) (s : SV) : List α := if h : ∃ xs : List α, SlI I s α e xs then h.choose else []
theorem SlI.rd {α : Type} [e : Enc α] {I : Foot} {s : SV} {xs : List α} (h : SlI I s α e xs) : SlI I s α e (Go.Fw.rd α I s) := by
  unfold Go.Fw.rd
  have hx : ∃ xs : List α, SlI I s α e xs := ⟨xs, h⟩
  rw [dif_pos hx]
  exact hx.choose_spec
theorem SlI.det {α : Type} [e : Enc α] [EncI α] {I : Foot} {s : SV} {xs ys : List α} (h : SlI I s α e xs) (k : SlI I s α e ys) {w0 : World} {L : List HP} {w : World} (hw : SL w0 I L w) : xs = ys :=
  (h.out w fun b o hb => hw.mem b o hb).det (k.out w fun b o hb => hw.mem b o hb)
theorem SlI.sub {α : Type} [e : Enc α] {I I' : Foot} {s : SV} {xs : List α} (h : SlI I s α e xs) [hs : SubI I' I] : SlI I' s α e xs := ⟨fun w hw => h.out w fun b o hb => hw b o (hs.out hb)⟩
def RowH {α : Type} [Enc α] (e : TypeId) : List SV → List (List α) → HP
  | s :: ss, t :: ts => star (OwnS e s t) (RowH e ss ts)
  | _, _ => fun R => R = []
theorem RowH.frozen {α : Type} [en : Enc α] {e : TypeId} : ∀ {ss : List SV} {ts : List (List α)} {R : Foot}, RowH e ss ts R → ∀ i, i < ss.length → i < ts.length → SlI R (ss.getD i SV.nil) α en (ts.getD i [])
  | s :: ss, t :: ts, R, h, 0, _, _ => by
    obtain ⟨R1, R2, h1, h2, rfl⟩ := h
    have := SlI.ofOwn h1
    simp only [List.getD_cons_zero]
    exact SlI.left
  | s :: ss, t :: ts, R, h, i + 1, hi, hj => by
    obtain ⟨R1, R2, h1, h2, rfl⟩ := h
    have := RowH.frozen h2 i (by simpa using hi) (by simpa using hj)
    simp only [List.getD_cons_succ]
    exact SlI.right
theorem RowH.rdW {α : Type} [en : Enc α] {e : TypeId} {ss : List SV} {ts : List (List α)} {i : Nat} (hi : i < ss.length) (hj : i < ts.length) {I w0 w} {L : List HP} (h : SL w0 I (RowH e ss ts :: L) w) : RdW w (ss.getD i SV.nil) (ts.getD i []) := by
  obtain ⟨R, hR, h1⟩ := h.freeze
  have := RowH.frozen hR i hi hj
  exact (SlI.left (I := I) : SlI (R ++ I) _ _ _ _).out w fun b o hb => h1.mem b o hb
class IsRow {α : Type} (ss : List SV) (ts : List (List α)) (s : SV) (xs : outParam (List α)) : Prop where
  out : ∃ i, i < ss.length ∧ i < ts.length ∧ ss.getD i SV.nil = s ∧ ts.getD i [] = xs
instance OwnIn.row {α : Type} [e : Enc α] {L : List HP} {t : TypeId} {ss : List SV} {ts : List (List α)} {s : SV} {xs : List α} [h : IsRow ss ts s xs] : OwnIn (RowH t ss ts :: L) s α e xs := ⟨fun I w0 w hw => by
  obtain ⟨i, h1, h2, h3, h4⟩ := h.out
  have := RowH.rdW h1 h2 hw
  rw [h3, h4] at this; exact this⟩
section
variable {P : Program} {ρ : Env} {A : World → Prop} {ty : TypeId} {x y : Operand} {t u : TypeId} {k : IntKind} {a b : Int}
theorem convW {src dst : TypeId} {k' : IntKind} [h : Ev ρ x (.int k' a)] [hd : Und P dst (.int k)] [hs : Und P src (.int k')] : OpM P ρ A (.convert src dst x) ty (.int k (k.wrap a)) True := ⟨fun _ => P_convInt hs.out hd.out h.out⟩
end
end Go.Fw
