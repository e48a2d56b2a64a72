/- append; literals of slices; slices cut. Conditions: none. -/
import Derived.Test.YtfhelnalegochaaSlMem
namespace Go.Fw
open Go Go.RowKit
set_option linter.unusedVariables false
set_option linter.unusedSimpArgs false

section
variable {P : Program} {ρ : Env} {A : World → Prop} {ty : TypeId} {w0 : World} {I : Foot} {L : List HP}
theorem RdW.cells' {α : Type} [en : Enc α] {w : World} {s : SV} {xs : List α} (h : RdW w s xs) {b o : Nat} (ha : s.a = some ⟨b, o, none⟩) (j : Nat) (u : Value) (hj : (flat xs)[j]? = some u) : w.cell? ⟨b, o + j, none⟩ = some u := by
  have hp := Enc.pos (α := α)
  have hl := (List.getElem?_eq_some_iff.1 hj).1
  rw [flat_len] at hl
  have hi : j / Enc.sz α < xs.length := Nat.div_lt_of_lt_mul (by rw [Nat.mul_comm]; exact hl)
  have hk : j % Enc.sz α < Enc.sz α := Nat.mod_lt _ hp
  have hc : (Enc.cells (xs.getD (j / Enc.sz α) Enc.dflt))[j % Enc.sz α]? = some ((Enc.cells (xs.getD (j / Enc.sz α) Enc.dflt))[j % Enc.sz α]'(by rw [Enc.len]; exact hk)) := List.getElem?_eq_getElem _
  have h1 := flat_get xs _ _ _ hi hc
  have e : j / Enc.sz α * Enc.sz α + j % Enc.sz α = j := by rw [Nat.mul_comm]; exact Nat.div_add_mod _ _
  rw [e, hj] at h1
  rw [← h1] at hc
  have := h.cells _ _ _ hi hc
  simp only [eAddr, ha, Option.getD_some, Int.toNat_natCast] at this
  rw [Nat.add_assoc, e] at this
  exact this
/-- append, what is appended read where it lies. -/
theorem T_appS {s x : Operand} {sv tv : SV} {t e : TypeId} {z : List Value} {size bytes : Nat} {α : Type} [en : Enc α] {xs ys : List α} {L' : List HP} (ht : P.underlying t = some (.slice e)) (hz : Inf P e z size bytes) (hsz : Enc.sz α = size) (hzl : z.length = size)
    (hs : evalE ρ s = .slice sv.a sv.n sv.cap) (hx : evalE ρ x = .slice tv.a tv.n tv.cap) (hr : ∀ w0 w, SL w0 I (OwnS e sv xs :: L') w → RdW w tv ys) (hb : (xs.length + ys.length) * bytes ≤ 140737488355328) (hb2 : xs.length + ys.length ≤ 9223372036854775807) {w : World} (hw : SL w0 I (OwnS e sv xs :: L') w) (d pos af g) :
    OpU P (fun v w => ∃ r : SV, v = .slice r.a r.n r.cap ∧ SL w0 I (OwnS e r (xs ++ ys) :: L') w) ((execOp (evalE ρ) ⟨d, .call { callee := .builtin .append, args := #[s, x], argTypes := #[t, t] }, ty, pos, af, g⟩).run P w) := by
  have hpos := Enc.pos (α := α)
  obtain ⟨z', hz1, hz2, hz3⟩ := Inf.zero hz
  have hr0 := hr w0 w hw
  obtain ⟨H, R, Rs, h1, h2, h3, h4⟩ := hw.uncons
  have hn := OwnR.len h2
  have hn2 := hr0.len
  have hzs : z'.cells.size = size := by rw [hz2]; simpa using hzl
  have hown : OwnR e size (.slice sv.a sv.n sv.cap) sv.n (flat xs) R := by have := h2; unfold OwnS at this; rw [hsz] at this; exact this
  have back : ∀ v w', (∃ q : Value × List (Nat × Obj), v = q.1 ∧ (OwnR e size q.1 (sv.n + tv.n) (flat xs ++ flat ys) q.2 ∧ St w0 H (q.2 ++ Rs.flatten) w')) → ∃ r : SV, v = .slice r.a r.n r.cap ∧ SL w0 I (OwnS e r (xs ++ ys) :: L') w' := by
    rintro v w' ⟨⟨v1, R1⟩, rfl, ho, hst⟩
    obtain ⟨a, cap, hv, hc⟩ := ho.slice
    dsimp only at ho hv hst
    subst hv
    refine ⟨⟨a, sv.n + tv.n, cap⟩, rfl, SL.cons h1 (R := R1) ?_ h3 hst⟩
    unfold OwnS
    rw [flat_append, hsz]
    exact ho
  by_cases h0 : ys.length = 0
  · have hy : ys = [] := List.eq_nil_of_length_eq_zero h0
    subst hy
    have hR : Rd H (R ++ Rs.flatten) size (.slice tv.a tv.n tv.cap) tv.n (flat ([] : List α)) := ⟨by simp [flat, hn2], .inl ⟨tv.a, tv.cap, rfl, by simpa using hn2⟩⟩
    refine (T_appendR (P := P) (ρ := ρ) (ty := ty) (w0 := w0) (H := H) (L := Rs.flatten) ht hz3 hzs (by omega) hown hs hR hx (by simp [flat]) (by rw [hn, hn2]; simp only [maxLen]; simp; omega) (by rw [hn, hn2]; exact hb) d pos af g w h4).mono back
  · rcases hr0.plain with hp | ⟨b, o, ha⟩
    · omega
    · rw [ha] at hx
      refine (T_append (P := P) (ρ := ρ) (ty := ty) (w0 := w0) (H := H) (L := Rs.flatten) ht hz3 hzs (by omega) hs hown hx (news := flat ys) (by rw [flat_len, hsz, hn2]) (fun u hu j v hv => ?_) (flat_one' ys) (by rw [hn, hn2]; simp only [maxLen]; omega) (by rw [hn, hn2]; exact hb) d pos af g w h4).mono back
      have hs' : SL w0 I (OwnS e sv xs :: L') u := SL.cons h1 h2 h3 hu
      have := (hr w0 u hs').cells' ha j v hv
      unfold Addr.add
      split
      · rename_i h; subst h; simpa using this
      · exact this
/-- There is room for so many. -/
def Room (n bytes : Nat) : Prop := n * bytes ≤ 140737488355328 ∧ n ≤ 9223372036854775807
/-- A literal is appended: it is gone behind it. -/
instance (priority := 1100) {s x : Operand} {sv tv : SV} {t e e' : TypeId} {z : List Value} {size bytes : Nat} {α : Type} {en : Enc α} {xs ys : List α} {L1 L2 : List HP} [hs : Ev ρ s (.slice sv.a sv.n sv.cap)] [hx : Ev ρ x (.slice tv.a tv.n tv.cap)] [ht : Und P t (.slice e)] [hz : Inf P e z size bytes] [hA : InSL A w0 I L] [hl : FindLit L tv e' α en ys L1] [ho : FindOwn L1 sv e α en xs L2] [hsz : SzIs α size] [hzl : FirstL z size z []] :
    OpE P ρ A (.call { callee := .builtin .append, args := #[s, x], argTypes := #[t, t] }) ty SV (fun r => .slice r.a r.n r.cap) (fun r => SL w0 I (OwnS e r (xs ++ ys) :: L2)) (Room (xs.length + ys.length) bytes) := ⟨fun h => OpT.sl fun w hw d pos af g => by
  have e1 : Ent L (OwnS e sv xs :: LitS e' tv ys :: L2) := hl.out.trans ((Ent.cons ho.out).trans Ent.swap)
  refine (T_appS (P := P) (ρ := ρ) (ty := ty) (w0 := w0) (I := I) (L' := LitS e' tv ys :: L2) (xs := xs) (ys := ys) ht.out hz hsz.out hzl.out.2 hs.out hx.out (fun w0 w hw => ?_) h.1 h.2 (e1.sl hw) d pos af g).mono fun v w' ⟨r, hv, hr⟩ => ⟨r, hv, (Ent.cons Ent.drop1).sl hr⟩
  obtain ⟨R, hp, hm⟩ := (Ent.swap.sl hw).heap
  exact OwnR.rdW hp hm⟩
instance (priority := 1200) {s x : Operand} {tv : SV} {t e e' : TypeId} {z : List Value} {size bytes : Nat} {α : Type} {en : Enc α} {ys : List α} {L1 : List HP} [hs : Ev ρ s (.slice SV.nil.a SV.nil.n SV.nil.cap)] [hx : Ev ρ x (.slice tv.a tv.n tv.cap)] [ht : Und P t (.slice e)] [hz : Inf P e z size bytes] [hA : InSL A w0 I L] [hl : FindLit L tv e' α en ys L1] [hsz : SzIs α size] [hzl : FirstL z size z []] :
    OpE P ρ A (.call { callee := .builtin .append, args := #[s, x], argTypes := #[t, t] }) ty SV (fun r => .slice r.a r.n r.cap) (fun r => SL w0 I (OwnS e r ys :: L1)) (Room ys.length bytes) := ⟨fun h => OpT.sl fun w hw d pos af g => by
  have e1 : Ent L (OwnS e SV.nil ([] : List α) :: LitS e' tv ys :: L1) := Ent.ownNil hl.out
  refine (T_appS (P := P) (ρ := ρ) (ty := ty) (w0 := w0) (I := I) (L' := LitS e' tv ys :: L1) (xs := []) (ys := ys) ht.out hz hsz.out hzl.out.2 hs.out hx.out (fun w0 w hw => ?_) (by simpa using h.1) (by simpa using h.2) (e1.sl hw) d pos af g).mono fun v w' ⟨r, hv, hr⟩ => ⟨r, hv, (Ent.cons Ent.drop1).sl (by simpa using hr)⟩
  obtain ⟨R, hp, hm⟩ := (Ent.swap.sl hw).heap
  exact OwnR.rdW hp hm⟩
instance {s x : Operand} {sv tv : SV} {t e : TypeId} {z : List Value} {size bytes : Nat} {α : Type} {en : Enc α} {xs ys : List α} {L2 : List HP} [hs : Ev ρ s (.slice sv.a sv.n sv.cap)] [hx : Ev ρ x (.slice tv.a tv.n tv.cap)] [ht : Und P t (.slice e)] [hz : Inf P e z size bytes] [hA : InSL A w0 I L] [ho : FindOwn L sv e α en xs L2] [hr : RdS I L2 tv α en ys] [hsz : SzIs α size] [hzl : FirstL z size z []] :
    OpE P ρ A (.call { callee := .builtin .append, args := #[s, x], argTypes := #[t, t] }) ty SV (fun r => .slice r.a r.n r.cap) (fun r => SL w0 I (OwnS e r (xs ++ ys) :: L2)) (Room (xs.length + ys.length) bytes) := ⟨fun h => OpT.sl fun w hw d pos af g => by
  exact T_appS (P := P) (ρ := ρ) (ty := ty) (w0 := w0) (I := I) (L' := L2) (xs := xs) (ys := ys) ht.out hz hsz.out hzl.out.2 hs.out hx.out (fun w0 w hw => hr.out w0 w (Ent.drop1.sl hw)) h.1 h.2 (ho.out.sl hw) d pos af g⟩
instance (priority := 900) {s x : Operand} {tv : SV} {t e : TypeId} {z : List Value} {size bytes : Nat} {α : Type} {en : Enc α} {ys : List α} [hs : Ev ρ s (.slice SV.nil.a SV.nil.n SV.nil.cap)] [hx : Ev ρ x (.slice tv.a tv.n tv.cap)] [ht : Und P t (.slice e)] [hz : Inf P e z size bytes] [hA : InSL A w0 I L] [hr : RdS I L tv α en ys] [hsz : SzIs α size] [hzl : FirstL z size z []] :
    OpE P ρ A (.call { callee := .builtin .append, args := #[s, x], argTypes := #[t, t] }) ty SV (fun r => .slice r.a r.n r.cap) (fun r => SL w0 I (OwnS e r ys :: L)) (Room ys.length bytes) := ⟨fun h => OpT.sl fun w hw d pos af g => by
  have := T_appS (P := P) (ρ := ρ) (ty := ty) (w0 := w0) (I := I) (L' := L) (sv := SV.nil) (xs := []) (ys := ys) ht.out hz hsz.out hzl.out.2 hs.out hx.out (fun w0 w hw => hr.out w0 w (Ent.drop1.sl hw)) (by simpa using h.1) (by simpa using h.2) ((Ent.ownNil Ent.refl).sl hw) d pos af g
  simpa using this⟩

class IsNil {α : Type} (xs : List α) : Prop where
  out : xs = []
instance {α : Type} : IsNil ([] : List α) := ⟨rfl⟩
/-- append([]T{}, l...). -/
instance (priority := 1300) {s x : Operand} {sv tv : SV} {t e : TypeId} {z : List Value} {size bytes : Nat} {α : Type} {en : Enc α} {xs ys : List α} {L2 : List HP} [hs : Ev ρ s (.slice sv.a sv.n sv.cap)] [hx : Ev ρ x (.slice tv.a tv.n tv.cap)] [ht : Und P t (.slice e)] [hz : Inf P e z size bytes] [hA : InSL A w0 I L] [ho : FindOwn L sv e α en xs L2] [hn : IsNil xs] [hr : RdS I L2 tv α en ys] [hsz : SzIs α size] [hzl : FirstL z size z []] :
    OpE P ρ A (.call { callee := .builtin .append, args := #[s, x], argTypes := #[t, t] }) ty SV (fun r => .slice r.a r.n r.cap) (fun r => SL w0 I (OwnS e r ys :: L2)) (Room ys.length bytes) := ⟨fun h => OpT.sl fun w hw d pos af g => by
  have e1 := hn.out
  subst e1
  have := T_appS (P := P) (ρ := ρ) (ty := ty) (w0 := w0) (I := I) (L' := L2) (xs := []) (ys := ys) ht.out hz hsz.out hzl.out.2 hs.out hx.out (fun w0 w hw => hr.out w0 w (Ent.drop1.sl hw)) (by simpa using h.1) (by simpa using h.2) (ho.out.sl hw) d pos af g
  simpa using this⟩
/-! ### Literals of slices -/
theorem fill_lit (size : Nat) : ∀ (vs : List (List Value)) (k : Nat) (cs : List Value), (∀ v ∈ vs, v.length = size) → (k + vs.length) * size ≤ cs.length → ∀ us : List Value, us.map (·.cells) = vs.map List.toArray →
    Instr.fill (fun i => some (i * size, size)) cs.toArray (us.zipIdx.map fun p => (p.2 + k, p.1)) = some (cs.take (k * size) ++ vs.flatten ++ cs.drop ((k + vs.length) * size)).toArray := by
  intro vs
  induction vs with
  | nil =>
    intro k cs _ _ us hu
    have : us = [] := by simpa using hu
    subst this
    simp [Instr.fill]
  | cons v vs ih =>
    intro k cs hv hl us hu
    cases us with
    | nil => simp at hu
    | cons u us =>
      simp only [List.map_cons, List.cons.injEq] at hu
      have hvl := hv v (List.mem_cons_self ..)
      simp only [List.length_cons] at hl
      have e1 : (k + (vs.length + 1)) * size = k * size + (size + vs.length * size) := by rw [Nat.add_mul, Nat.add_mul]; omega
      have e2 : (k + 1) * size = k * size + size := by rw [Nat.add_mul]; omega
      have hmap : (us.zipIdx 1).map (fun p : Value × Nat => (p.2 + k, p.1)) = us.zipIdx.map fun p => (p.2 + (k + 1), p.1) := by
        rw [List.zipIdx_succ]; simp [Nat.add_comm, Nat.add_left_comm, Function.comp_def]
      simp only [List.zipIdx_cons, List.map_cons, Nat.zero_add, Instr.fill, hu.1, List.size_toArray, hvl]
      rw [if_neg (by simp; omega), hmap]
      have hz := fold_zip v cs (k * size) 0 (by omega)
      simp only [Nat.add_zero, hvl] at hz
      have hz' : Array.foldl (fun (cs : Array Value) (x : Value × Nat) => cs.setIfInBounds (k * size + x.2) x.1) cs.toArray v.toArray.zipIdx = (cs.take (k * size) ++ v ++ cs.drop (k * size + size)).toArray := by
        rw [← hz, ← Array.foldl_toList, Array.toList_zipIdx]
      have e3 : (k + 1 + vs.length) * size = k * size + size + vs.length * size := by rw [Nat.add_mul, Nat.add_mul]; omega
      rw [hz', ih (k + 1) _ (fun v hm => hv v (List.mem_cons_of_mem _ hm)) (by simp only [List.length_append, List.length_take, List.length_drop, hvl]; omega) us hu.2]
      congr 2
      have h1 : (k + 1 + vs.length) * size = k * size + size + vs.length * size := by rw [Nat.add_mul, Nat.add_mul]; omega
      rw [h1, List.length_cons, e1, e2, List.flatten_cons]
      have h2 : (List.take (k * size) cs ++ v).length = k * size + size := by simp; omega
      rw [List.take_append_of_le_length (by omega), List.take_of_length_le (by omega), List.drop_append, List.drop_of_length_le (by omega), List.nil_append, h2, List.drop_drop]
      simp only [List.append_assoc]
      congr 4
      omega
class EvParts (ρ : Env) (k : Nat) (ps : List (Nat × Operand)) (α : Type) [Enc α] (ys : outParam (List α)) : Prop where
  out : ∃ vs : List Value, ps.map (fun p => (p.1, evalE ρ p.2)) = vs.zipIdx.map (fun p => (p.2 + k, p.1)) ∧ vs.map Value.cells = (ys.map Enc.cells).map List.toArray
instance {k : Nat} {α : Type} [Enc α] : EvParts ρ k [] α ([] : List α) := ⟨[], rfl, rfl⟩
instance {k : Nat} {α : Type} [Enc α] {x : Operand} {ps : List (Nat × Operand)} {v : Value} {l : List Value} {y : α} {ys : List α} [hx : Ev ρ x v] [hv : CellsV v l] [hd : Dec α l y] [h : EvParts ρ (k + 1) ps α ys] : EvParts ρ k ((k, x) :: ps) α (y :: ys) := ⟨by
  obtain ⟨vs, h1, h2⟩ := h.out
  refine ⟨v :: vs, ?_, by simp [h2, hv.out.1, hd.out]⟩
  simp only [List.map_cons, hx.out, List.zipIdx_cons, Nat.zero_add, h1]
  congr 1
  rw [List.zipIdx_succ]; simp [Nat.add_comm, Nat.add_left_comm, Function.comp_def]⟩
class NatLe (a b : Nat) : Prop where
  out : a ≤ b
instance {a b : Nat} [h : IsB (Nat.ble a b) true] : NatLe a b := ⟨Nat.le_of_ble_eq_true h.out⟩
theorem flat_eq {α : Type} [Enc α] (ys : List α) : flat ys = (ys.map Enc.cells).flatten := by simp [flat, List.flatMap]
instance {t e n : Nat} {ps : List (Nat × Operand)} {z : List Value} {size bytes : Nat} {α : Type} {en : Enc α} {ys : List α} [ht : Und P t (.slice e)] [hz : Inf P e z size bytes] [hp : Phys P e α en] [hsz : SzIs α size] [hzl : FirstL z size z []] [hps : EvParts ρ 0 ps α ys] [hle : NatLe (n * size) 16777216] [hA : InSL A w0 I L] :
    OpE P ρ A (.buildSlice t n ps.toArray) ty SV (fun r => .slice r.a r.n r.cap) (fun r => SL w0 I (LitS e r ys :: L)) (n = ys.length) := ⟨fun hn => OpT.sl fun w hw d pos af g => by
  subst hn
  obtain ⟨z', hz1, hz2, hz3⟩ := Inf.zero hz
  obtain ⟨vs, h1, h2⟩ := hps.out
  obtain ⟨H, Rs, h3, h4, h5⟩ := hw
  obtain ⟨inf, hi1, hi2⟩ := Option.map_eq_some_iff.1 hz3
  simp only [Prod.mk.injEq] at hi2
  have hlen : vs.length = ys.length := by have := congrArg List.length h2; simpa using this
  have hpos := Enc.pos (α := α)
  have hs : (Go.sizeOf e).run P w = .ok size w := by simp [Go.sizeOf, typeInfo, hi1, hi2.2.1, go_sem]
  have hzr : (zeroValue e).run P w = .ok z' w := by simp [zeroValue, typeInfo, hi1, hi2.1, go_sem]
  have hlim : ¬ (ys.length * size > 2 ^ 24) := by have := hle.out; omega
  have hfill : ∀ cs : Array Value, cs.size = ys.length * size → Instr.fill (fun i => some (i * size, size)) cs (vs.zipIdx.map fun p => (p.2 + 0, p.1)) = some (flat ys).toArray := by
    intro cs hcs
    have := fill_lit size (ys.map Enc.cells) 0 cs.toList (fun v hv => by obtain ⟨y, _, rfl⟩ := List.mem_map.1 hv; rw [Enc.len, hsz.out]) (by simp [hcs]) vs h2
    simp only [Array.toArray_toList] at this
    rw [this, flat_eq]
    simp [hcs]
  have hrun : (Instr.buildSlice t ys.length (vs.zipIdx.map fun p => (p.2 + 0, p.1)).toArray).run P w = .ok (.slice (some ⟨w.heap.size, 0, none⟩) ys.length ys.length) { w with heap := w.heap.push (.cells (flat ys).toArray e (0, 0)) } := by
    unfold Instr.buildSlice
    by_cases h0 : ys.length * size = 0
    · simp only [Sem.run_bind, run_underlying ht.out, Result.andThen, hs, if_neg hlim, if_pos h0, Sem.run_pure, newRow, newObj]
      rw [hfill _ (by simp)]
      rfl
    · simp only [Sem.run_bind, run_underlying ht.out, Result.andThen, hs, if_neg hlim, if_neg h0, hzr, Sem.run_pure, newRow, newObj]
      rw [hfill _ (by simp)]
      rfl
  have e' : (Array.map (fun x => match x with | (i, x) => (i, evalE ρ x)) ps.toArray) = (vs.zipIdx.map fun p => (p.2 + 0, p.1)).toArray := by rw [← h1]; simp
  simp only [execOp, e', Sem.run_bind, hrun, Result.andThen, Sem.run_pure, OpU]
  refine ⟨⟨some ⟨w.heap.size, 0, none⟩, ys.length, ys.length⟩, rfl, SL.cons h3 (R := [(w.heap.size, .cells (flat ys).toArray e (0, 0))]) ?_ h4 (h5.push _)⟩
  exact ⟨by rw [flat_len], .inr ⟨w.heap.size, ys.length, _, rfl, Nat.le_refl _, (by have := hle.out; have := hsz.out; simp only [maxLen]; have : ys.length ≤ ys.length * size := Nat.le_mul_of_pos_right _ (by omega); omega), (by simp [flat_len]), (by simp only; rw [← flat_len]; exact List.take_length), rfl⟩⟩⟩
/-! ### Slices cut -/
/-- s[lo:hi], lo and hi within s. -/
def SV.cut (s : SV) (sz : Nat) (lo hi : Int) : SV := if 0 ≤ lo ∧ lo ≤ hi ∧ hi ≤ s.n then ⟨if lo = s.cap then s.a else s.a.map (fun a => a.add (lo.toNat * sz)), (hi - lo).toNat, s.cap - lo.toNat⟩ else SV.nil
def cutL {α : Type} (xs : List α) (lo hi : Int) : List α := if 0 ≤ lo ∧ lo ≤ hi ∧ hi ≤ xs.length then (xs.drop lo.toNat).take (hi - lo).toNat else []
theorem RdW.cut {α : Type} [en : Enc α] {w : World} {s : SV} {xs : List α} (h : RdW w s xs) (lo hi : Int) : RdW w (s.cut (Enc.sz α) lo hi) (cutL xs lo hi) := by
  have hl := h.len
  unfold SV.cut cutL
  by_cases hc : 0 ≤ lo ∧ lo ≤ hi ∧ hi ≤ s.n
  · have hc' : 0 ≤ lo ∧ lo ≤ hi ∧ hi ≤ (xs.length : Int) := by omega
    rw [if_pos hc, if_pos hc']
    have hadd : ∀ b o k, (⟨b, o, none⟩ : Addr).add k = ⟨b, o + k, none⟩ := fun b o k => by
      unfold Addr.add; split
      · rename_i e; simp [e]
      · rfl
    have hcap := h.cap
    refine ⟨by simp only [List.length_take, List.length_drop]; omega, by simp only; omega, ?_, fun i k v hi hv => ?_⟩
    · rcases h.plain with h0 | ⟨b, o, ha⟩
      · left; simp only; omega
      · right; simp only [ha, Option.map_some, hadd]; split
        · exact ⟨b, o, rfl⟩
        · exact ⟨b, _, rfl⟩
    · simp only [List.length_take, List.length_drop] at hi
      have hne : ¬ lo = s.cap := by omega
      have e : ∀ m : Nat, i < m → ((xs.drop lo.toNat).take m).getD i Enc.dflt = xs.getD (lo.toNat + i) Enc.dflt := fun m hm => by
        rw [List.getD_eq_getElem?_getD, List.getElem?_take, if_pos hm, List.getElem?_drop, ← List.getD_eq_getElem?_getD]
      rw [e _ (by omega)] at hv
      have := h.cells (lo.toNat + i) k v (by omega) hv
      rw [← this]
      congr 1
      simp only [eAddr, if_neg hne]
      rcases h.plain with h0 | ⟨b, o, ha⟩
      · omega
      · simp only [ha, Option.map_some, Option.getD_some, hadd]
        congr 1
        have e1 : (((lo.toNat + i : Nat) : Int)).toNat = lo.toNat + i := by omega
        rw [e1, Nat.add_mul, Int.toNat_natCast]; omega
  · have hc' : ¬ (0 ≤ lo ∧ lo ≤ hi ∧ hi ≤ (xs.length : Int)) := by omega
    rw [if_neg hc, if_neg hc']
    exact ⟨rfl, Nat.le_refl _, .inl rfl, fun i k v hi => by simp at hi⟩
instance {s : SV} {sz : Nat} {lo hi : Int} {α : Type} {e : Enc α} {xs : List α} [h : RdS I L s α e xs] [hz : SzIs α sz] : RdS I L (s.cut sz lo hi) α e (cutL xs lo hi) := ⟨fun w0 w hw => by rw [← hz.out]; exact (h.out w0 w hw).cut lo hi⟩
instance {s : SV} {sz : Nat} {lo hi : Int} {α : Type} {e : Enc α} {xs : List α} [h : SlI I s α e xs] [hz : SzIs α sz] : SlI I (s.cut sz lo hi) α e (cutL xs lo hi) := ⟨fun w hw => by rw [← hz.out]; exact (h.out w hw).cut lo hi⟩
class EvO (ρ : Env) (x : Option Operand) (d : Int) (v : outParam Int) : Prop where
  out : (x.map (evalE ρ) = none ∧ v = d) ∨ ∃ k, x.map (evalE ρ) = some (.int k v)
instance {d : Int} : EvO ρ none d d := ⟨.inl ⟨rfl, rfl⟩⟩
instance {x : Operand} {k : IntKind} {d v : Int} [h : Ev ρ x (.int k v)] : EvO ρ (some x) d v := ⟨.inr ⟨k, by rw [Option.map_some, h.out]⟩⟩
theorem run_bounds {isS : Bool} {n cap : Nat} {lo hi : Option Value} {l h : Int} (hlo : (lo = none ∧ l = 0) ∨ ∃ k, lo = some (.int k l)) (hhi : (hi = none ∧ h = n) ∨ ∃ k, hi = some (.int k h)) (h0 : 0 ≤ l) (h1 : l ≤ h) (h2 : h ≤ n) (h3 : n ≤ cap) (w : World) :
    (Instr.sliceBounds isS n cap lo hi none).run P w = .ok (l.toNat, h.toNat, cap) w := by
  have e1 : ¬ l < 0 := by omega
  have e2 : ¬ h < 0 := by omega
  have e3 : h.toNat ≤ cap := by omega
  have e4 : l.toNat ≤ h.toNat := by omega
  have e5 : ¬ l > h.toNat := by omega
  have e6 : ¬ h > cap := by omega
  have e7 : 0 ≤ h := by omega
  have e8 : h ≤ (cap : Int) := by omega
  have e9 : l ≤ (h.toNat : Int) := by omega
  rcases hlo with ⟨rfl, rfl⟩ | ⟨k, rfl⟩ <;> rcases hhi with ⟨rfl, rfl⟩ | ⟨k', rfl⟩ <;> simp [Instr.sliceBounds, Instr.sliceBound, asIntOf, e1, e2, e3, e4, e5, e6, e7, e8, e9, h0, h1, h2, go_sem] <;> omega
instance {x : Operand} {t el : TypeId} {s : SV} {lo hi : Option Operand} {l h : Int} {sz bytes : Nat} {z : List Value} {α : Type} {en : Enc α} {xs : List α} [hx : Ev ρ x (.slice s.a s.n s.cap)] [ht : Und P t (.slice el)] [hz : Inf P el z sz bytes] [hA : InSL A w0 I L] [hr : RdS I L s α en xs] [hl : EvO ρ lo 0 l] [hh : EvO ρ hi xs.length h] :
    OpM P ρ A (.slice t x lo hi none) ty (.slice (s.cut sz l h).a (s.cut sz l h).n (s.cut sz l h).cap) ((0 ≤ l ∧ l ≤ h) ∧ h ≤ xs.length) := ⟨fun hb d pos af g w hw => by
  have hw' := hr.out w0 w (hA.out w hw)
  obtain ⟨inf, hinf, hz'⟩ := Option.map_eq_some_iff.1 hz.size
  have hn := hw'.len
  have hc := hw'.cap
  have hb' := run_bounds (P := P) (isS := true) (n := s.n) (cap := s.cap) (lo := lo.map (evalE ρ)) (hi := hi.map (evalE ρ)) (l := l) (h := h) hl.out (by rw [hn]; exact hh.out) hb.1.1 hb.1.2 (by omega) hc w
  have e : SV.cut s sz l h = ⟨if l = s.cap then s.a else s.a.map (fun a => a.add (l.toNat * sz)), (h - l).toNat, s.cap - l.toNat⟩ := by unfold SV.cut; rw [if_pos (by omega)]
  have ea : (if s.cap = l.toNat then s.a else s.a.map (fun a => a.add (l.toNat * sz))) = (if l = s.cap then s.a else s.a.map (fun a => a.add (l.toNat * sz))) := by
    by_cases hlc : l = s.cap
    · rw [if_pos (by omega), if_pos hlc]
    · rw [if_neg (by omega), if_neg hlc]
  have en2 : h.toNat - l.toNat = (h - l).toNat := by omega
  have hs : (Go.sizeOf el).run P w = .ok sz w := by simp [Go.sizeOf, typeInfo, hinf, hz', go_sem]
  simp only [execOp, Instr.sliceAt, Instr.slice, hx.out, Sem.run_bind, run_underlying ht.out, Result.andThen_ok, Option.map_none, hb', hs, Sem.run_pure, e, en2, ← ea]⟩
instance {x : Operand} {t : TypeId} {s : ByteArray} {lo hi : Option Operand} {l h : Int} [hx : Ev ρ x (.string s)] [ht : Und P t .string] [hl : EvO ρ lo 0 l] [hh : EvO ρ hi s.size h] :
    OpM P ρ A (.slice t x lo hi none) ty (.string (s.extract l.toNat h.toNat)) ((0 ≤ l ∧ l ≤ h) ∧ h ≤ s.size) := ⟨fun hb d pos af g w hw => by
  have hb' := run_bounds (P := P) (isS := false) (n := s.size) (cap := s.size) (lo := lo.map (evalE ρ)) (hi := hi.map (evalE ρ)) (l := l) (h := h) hl.out hh.out hb.1.1 hb.1.2 (by omega) (Nat.le_refl _) w
  simp only [execOp, Instr.sliceAt, Instr.slice, hx.out, Sem.run_bind, run_underlying ht.out, Result.andThen_ok, hb', Sem.run_pure, Option.map_none, Option.isSome_none, Bool.false_eq_true, if_false]⟩
theorem flat_take {α : Type} [Enc α] : ∀ (xs : List α) (n : Nat), flat (xs.take n) = (flat xs).take (n * Enc.sz α)
  | [], n => by simp [flat]
  | x :: xs, 0 => by simp [flat]
  | x :: xs, n + 1 => by
    have := flat_take xs n
    simp only [flat, List.take_succ_cons, List.flatMap_cons] at this ⊢
    have e : (n + 1) * Enc.sz α = (Enc.cells x).length + n * Enc.sz α := by rw [Enc.len, Nat.add_mul]; omega
    rw [this, e, List.take_length_add_append]
theorem SV.cut0 (s : SV) (sz : Nat) (hi : Int) (h : 0 ≤ hi ∧ hi ≤ s.n) : s.cut sz 0 hi = ⟨s.a, hi.toNat, s.cap⟩ := by
  unfold SV.cut
  rw [if_pos ⟨Int.le_refl _, h⟩]
  have : s.a.map (fun a => a.add ((0 : Int).toNat * sz)) = s.a := by cases s.a <;> simp [Addr.add]
  rw [this]
  simp
/-- A slice held alone, cut short. -/
theorem Ent.ownCut {α : Type} [Enc α] {e : TypeId} {s : SV} {xs : List α} {L : List HP} {sz : Nat} (hi : Int) (h : 0 ≤ hi ∧ hi ≤ xs.length) : Ent (OwnS e s xs :: L) (OwnS e (s.cut sz 0 hi) (xs.take hi.toNat) :: L) := by
  refine Ent.of fun R hR => ?_
  have hn := OwnR.len hR
  rw [SV.cut0 s sz hi (by omega)]
  unfold OwnS at hR ⊢
  have hle : hi.toNat ≤ s.n := by omega
  refine ⟨by rw [flat_len, List.length_take]; congr 1; simp only; omega, ?_⟩
  rcases hR.2 with ⟨h1, h2, h3⟩ | ⟨g, cap, cur, h1, h2, h3, h4, h5, h6⟩
  · left
    cases s with
    | mk a n c => cases h1; exact ⟨by simp only; congr 1; simp only at hle; omega, by simp only at hle ⊢; omega, h3⟩
  · right
    cases s with
    | mk a n c =>
      cases h1
      refine ⟨g, c, cur, rfl, by simp only at *; omega, h3, h4, ?_, h6⟩
      simp only at h5 hle ⊢
      rw [flat_take, ← h5, List.take_take]
      congr 1
      exact (Nat.min_eq_left (Nat.mul_le_mul_right _ hle)).symm
end
end Go.Fw
