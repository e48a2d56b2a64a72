/- Memory: what is known for good (H), what is held alone (L); loads, stores, new blocks. Conditions: none. -/
import Derived.Test.YtfhelnalegochaaFwOps
namespace Go.Fw
open Go Go.RowKit
set_option linter.unusedVariables false
set_option linter.unusedSimpArgs false

abbrev HeapP := Nat → Option Obj
/-- The world w: below w0's blocks it is as w0 was; the blocks in H are there for good; the blocks in L are held alone, all different, none in H. -/
structure St (w0 : World) (H : HeapP) (L : List (Nat × Obj)) (w : World) : Prop where
  below : Below w0.heap.size w0 w
  imm : ∀ b o, H b = some o → w.heap[b]? = some o
  own : ∀ p ∈ L, w.heap[p.1]? = some p.2 ∧ H p.1 = none ∧ w0.heap.size ≤ p.1
  nodup : (L.map (·.1)).Nodup
  drw : w0.drawn ≤ w.drawn

def HLe (H H' : HeapP) : Prop := ∀ b o, H b = some o → H' b = some o
theorem HLe.refl (H : HeapP) : HLe H H := fun _ _ h => h
theorem HLe.trans {H H' H'' : HeapP} (h : HLe H H') (k : HLe H' H'') : HLe H H'' := fun b o e => k b o (h b o e)

section
variable {w0 : World} {H : HeapP} {L : List (Nat × Obj)} {w : World}

theorem St.at_ (h : St w0 H L w) {j b : Nat} {o : Obj} (hj : L[j]? = some (b, o)) : w.heap[b]? = some o := (h.own (b, o) (List.mem_of_getElem? hj)).1
theorem St.start (w : World) : St w (fun b => w.heap[b]?) [] w := ⟨Below.refl _ _, fun _ _ h => h, fun _ h => (by cases h), List.nodup_nil, Nat.le_refl _⟩
theorem St.weaken {H' : HeapP} (h : St w0 H L w) (hle : HLe H' H) : St w0 H' L w := by
  refine ⟨h.below, fun b o e => h.imm b o (hle b o e), fun p hp => ?_, h.nodup, h.drw⟩
  obtain ⟨h1, h2, h3⟩ := h.own p hp
  refine ⟨h1, ?_, h3⟩
  cases e : H' p.1 with
  | none => rfl
  | some o => rw [hle _ _ e] at h2; cases h2
theorem St.drop {L' : List (Nat × Obj)} (h : St w0 H L w) (hs : L'.Sublist L) : St w0 H L' w :=
  ⟨h.below, h.imm, fun p hp => h.own p (hs.subset hp), (hs.map (fun p : Nat × Obj => p.1)).nodup h.nodup, h.drw⟩
theorem St.perm {L' : List (Nat × Obj)} (h : St w0 H L w) (hs : L.Perm L') : St w0 H L' w :=
  ⟨h.below, h.imm, fun p hp => h.own p (hs.symm.subset hp), (hs.map (fun p : Nat × Obj => p.1)).nodup h.nodup, h.drw⟩
theorem St.base (h : St w0 H L w) : w0.heap.size ≤ w.heap.size := h.below.size
theorem St.drawn (h : St w0 H L w) (k : Nat) (hk : w.drawn ≤ k) : St w0 H L { w with drawn := k } := ⟨⟨h.below.os, h.below.tape, h.below.output, h.below.size, h.below.block⟩, h.imm, h.own, h.nodup, Nat.le_trans h.drw hk⟩

theorem St.push (h : St w0 H L w) (o : Obj) : St w0 H ((w.heap.size, o) :: L) { w with heap := w.heap.push o } := by
  have hlt : ∀ b u, w.heap[b]? = some u → b < w.heap.size := fun b u e => (Array.getElem?_eq_some_iff.1 e).1
  have hk : ∀ b u, w.heap[b]? = some u → (w.heap.push o)[b]? = some u := fun b u e => by
    rw [Array.getElem?_push, if_neg (by have := hlt b u e; omega)]; exact e
  refine ⟨⟨h.below.os, h.below.tape, h.below.output, by have := h.below.size; simp; omega, fun k hk' => ?_⟩, fun b u e => hk b u (h.imm b u e), fun p hp => ?_, ?_, h.drw⟩
  · have hb := h.below.size
    show (w.heap.push o)[k]? = _
    rw [Array.getElem?_push, if_neg (by omega)]
    exact h.below.block k hk'
  · rcases List.mem_cons.1 hp with rfl | hp
    · refine ⟨by simp, ?_, h.below.size⟩
      cases e : H w.heap.size with
      | none => rfl
      | some u => have := hlt _ _ (h.imm _ _ e); omega
    · obtain ⟨h1, h2, h3⟩ := h.own p hp
      exact ⟨hk _ _ h1, h2, h3⟩
  · rw [List.map_cons, List.nodup_cons]
    refine ⟨fun hm => ?_, h.nodup⟩
    obtain ⟨p, hp, e⟩ := List.mem_map.1 hm
    have := hlt _ _ (h.own p hp).1
    simp only at e
    omega

/-- The block number j in L becomes another object. -/
theorem St.put (h : St w0 H L w) {j b : Nat} {o o' : Obj} (hj : L[j]? = some (b, o)) {w' : World} (hh : ∀ k, w'.heap[k]? = if k = b then some o' else w.heap[k]?)
    (hs : w'.heap.size = w.heap.size) (h1 : w'.os = w.os) (h2 : w'.tape = w.tape) (h3 : w'.output = w.output) (h4 : w.drawn ≤ w'.drawn) : St w0 H (L.set j (b, o')) w' := by
  have hb := h.own _ (List.mem_of_getElem? hj)
  have hjl : j < L.length := (List.getElem?_eq_some_iff.1 hj).1
  have hjb : (L[j]).1 = b := by
    have := (List.getElem?_eq_some_iff.1 hj).2
    rw [this]
  have hnd : ∀ i (hi : i < L.length), i ≠ j → (L[i]).1 ≠ b := by
    intro i hi hne e
    have hn := List.pairwise_iff_getElem.1 h.nodup
    rcases Nat.lt_or_gt_of_ne hne with hlt | hlt
    · have := hn i j (by simpa using hi) (by simpa using hjl) hlt
      simp only [List.getElem_map] at this
      exact this (e.trans hjb.symm)
    · have := hn j i (by simpa using hjl) (by simpa using hi) hlt
      simp only [List.getElem_map] at this
      exact this (hjb.trans e.symm)
  have keys : (L.set j (b, o')).map (·.1) = L.map (·.1) := by
    apply List.ext_getElem
    · simp
    · intro i h1 h2
      simp only [List.getElem_map, List.getElem_set]
      split
      · rename_i e; subst e
        have := (List.getElem?_eq_some_iff.1 hj).2
        rw [this]
      · rfl
  refine ⟨⟨h1.trans h.below.os, h2.trans h.below.tape, h3.trans h.below.output, by rw [hs]; exact h.below.size, fun k hk => ?_⟩, fun k u e => ?_, fun p hp => ?_, by rw [keys]; exact h.nodup, Nat.le_trans h.drw h4⟩
  · rw [hh k, if_neg (by have := hb.2.2; simp only at this; omega)]; exact h.below.block k hk
  · rw [hh k, if_neg (by rintro rfl; have := hb.2.1; simp only at this; rw [this] at e; cases e)]; exact h.imm k u e
  · obtain ⟨i, hi, e⟩ := List.getElem_of_mem hp
    rw [List.getElem_set] at e
    split at e
    · subst e; exact ⟨by rw [hh]; simp, hb.2.1, hb.2.2⟩
    · rename_i hij
      have hi' : i < L.length := by simpa using hi
      have hm : p ∈ L := e ▸ List.getElem_mem hi'
      obtain ⟨g1, g2, g3⟩ := h.own p hm
      exact ⟨by rw [hh, if_neg (by rw [← e]; exact hnd i hi' (Ne.symm hij))]; exact g1, g2, g3⟩

theorem heap_setCell_eq (w : World) (b i : Nat) (v : Value) {cs : Array Value} {t : TypeId} {fr : Nat × Nat} (hb : w.heap[b]? = some (.cells cs t fr)) (k : Nat) :
    (w.setCell ⟨b, i, none⟩ v).heap[k]? = if k = b then some (.cells (cs.setIfInBounds i v) t fr) else w.heap[k]? := by
  by_cases e : k = b
  · subst e; simp [World.setCell, Array.getElem?_modify, hb]
  · rw [if_neg e]; exact Below.heap_setCell w _ v k e

theorem St.setCell (h : St w0 H L w) {j b : Nat} {cs : Array Value} {t : TypeId} {fr : Nat × Nat} (hj : L[j]? = some (b, .cells cs t fr)) (i : Nat) (v : Value) :
    St w0 H (L.set j (b, .cells (cs.setIfInBounds i v) t fr)) (w.setCell ⟨b, i, none⟩ v) :=
  h.put hj (heap_setCell_eq w b i v (h.at_ hj)) (by simp [World.setCell]) rfl rfl rfl (Nat.le_refl _)

/-- What was held alone is from now on there for good. -/
theorem St.freeze {b : Nat} {o : Obj} (h : St w0 H ((b, o) :: L) w) : ∃ H', HLe H H' ∧ H' b = some o ∧ St w0 H' L w := by
  have hb := h.own (b, o) (List.mem_cons_self ..)
  simp only at hb
  have hn := h.nodup
  rw [List.map_cons, List.nodup_cons] at hn
  refine ⟨fun k => if k = b then some o else H k, fun k u e => ?_, by simp, ?_⟩
  · by_cases e' : k = b
    · subst e'; rw [hb.2.1] at e; cases e
    · simp [e', e]
  · refine ⟨h.below, fun k u e => ?_, fun p hp => ?_, hn.2, h.drw⟩
    · by_cases e' : k = b
      · subst e'; simp at e; subst e; exact hb.1
      · simp only [e', if_false] at e; exact h.imm k u e
    · obtain ⟨g1, g2, g3⟩ := h.own p (List.mem_cons_of_mem _ hp)
      have hne : p.1 ≠ b := fun e => hn.1 (List.mem_map.2 ⟨p, hp, e⟩)
      exact ⟨g1, by simp only [hne, if_false]; exact g2, g3⟩
end

/-- A is a class of worlds that meet St. -/
class InSt (A : World → Prop) (w0 : outParam World) (H : outParam HeapP) (L : outParam (List (Nat × Obj))) : Prop where
  out : ∀ u, A u → St w0 H L u
instance (w0 : World) (H : HeapP) (L : List (Nat × Obj)) : InSt (St w0 H L) w0 H L := ⟨fun _ h => h⟩
/-- A draw turns no world out of the class. -/
class DrC (A : World → Prop) : Prop where
  out : ∀ w k, w.drawn ≤ k → A w → A { w with drawn := k }
instance (w0 : World) (H : HeapP) (L : List (Nat × Obj)) : DrC (St w0 H L) := ⟨fun _ k hk h => h.drawn k hk⟩
/-- The world w, but for draws. -/
def StD (w0 : World) (H : HeapP) (L : List (Nat × Obj)) (w u : World) : Prop := St w0 H L u ∧ ∃ k, w.drawn ≤ k ∧ u = { w with drawn := k }
instance (w0 : World) (H : HeapP) (L : List (Nat × Obj)) (w : World) : InSt (StD w0 H L w) w0 H L := ⟨fun _ h => h.1⟩
instance (w0 : World) (H : HeapP) (L : List (Nat × Obj)) (w : World) : DrC (StD w0 H L w) := ⟨fun u k hk h => ⟨h.1.drawn k hk, by obtain ⟨_, m, hm, rfl⟩ := h; exact ⟨k, Nat.le_trans hm hk, rfl⟩⟩⟩

/-! ### Loads -/
def oneTy (P : Program) (t : TypeId) : Bool :=
  match P.underlying t with
  | some (.struct _) | some (.array ..) | none => false
  | _ => true
def aggTy (P : Program) (t : TypeId) : Option Nat :=
  match P.underlying t with
  | some (.struct _) | some (.array ..) => (P.info? t).map (·.size)
  | _ => none

section
variable {P : Program} {ρ : Env} {A : World → Prop} {ty : TypeId}

theorem run_isAgg_one {t : TypeId} (h : oneTy P t = true) (w : World) : (isAgg t).run P w = .ok false w := by
  unfold oneTy at h
  cases e : P.underlying t with
  | none => rw [e] at h; cases h
  | some d =>
    rw [e] at h
    cases d <;> first | (simp [isAgg, run_underlying e, go_sem]; done) | (exact absurd h (by simp))
theorem run_isAgg_agg {t : TypeId} {k : Nat} (h : aggTy P t = some k) (w : World) : (isAgg t).run P w = .ok true w ∧ (Go.sizeOf t).run P w = .ok k w := by
  unfold aggTy at h
  cases e : P.underlying t with
  | none => rw [e] at h; cases h
  | some d =>
    rw [e] at h
    cases d <;> first
      | (simp at h; done)
      | (obtain ⟨inf, hi, hz⟩ := Option.map_eq_some_iff.1 h
         exact ⟨by simp [isAgg, run_underlying e, go_sem], by simp [Go.sizeOf, typeInfo, hi, hz, go_sem]⟩)

theorem cell_of_heap {w : World} {b i : Nat} {cs : Array Value} {t : TypeId} {fr : Nat × Nat} {v : Value} (hb : w.heap[b]? = some (.cells cs t fr)) (hi : cs[i]? = some v) : w.cell? ⟨b, i, none⟩ = some v := by
  simp [World.cell?, hb, hi]

theorem P_load {x : Operand} {t : TypeId} {b i : Nat} {v : Value} (ht : oneTy P t = true) (h : evalE ρ x = .pointer (some ⟨b, i, none⟩)) (hA : ∀ w, A w → w.cell? ⟨b, i, none⟩ = some v) :
    OpP P ρ (.load t x) ty A v := by
  intro d pos af g w hw
  simp [execOp, Instr.loadAt, Instr.sureAddr, loadVar, h, run_isAgg_one ht, load, Sem.run, hA w hw, go_sem]
theorem P_loadAgg {x : Operand} {t : TypeId} {b i k : Nat} {vs : List Value} (ht : aggTy P t = some k) (h : evalE ρ x = .pointer (some ⟨b, i, none⟩)) (hk : vs.length = k)
    (hA : ∀ w, A w → ∀ j v, vs[j]? = some v → w.cell? ⟨b, i + j, none⟩ = some v) : OpP P ρ (.load t x) ty A (.agg vs.toArray) := by
  intro d pos af g w hw
  have ha : ∀ j, (⟨b, i, none⟩ : Addr).add j = ⟨b, i + j, none⟩ := fun j => by
    unfold Addr.add; split
    · rename_i e; simp [e]
    · rfl
  have hl := run_loadCells_list (P := P) (w := w) ⟨b, i, none⟩ vs (fun j v e => by rw [ha]; exact hA w hw j v e)
  rw [hk] at hl
  have hl' : (loadCellsFrom ⟨b, i, none⟩ 0 k #[]).run P w = .ok vs.toArray w := hl
  simp [execOp, Instr.loadAt, Instr.sureAddr, loadVar, h, (run_isAgg_agg ht w).1, (run_isAgg_agg ht w).2, hl', go_sem]

variable {w0 : World} {H : HeapP} {L : List (Nat × Obj)}

/-- A load out of a block that is held. -/
theorem P_loadO [hA : InSt A w0 H L] (j : Nat) {x : Operand} {t t' : TypeId} {b i : Nat} {cs : Array Value} {fr : Nat × Nat} {v : Value} (ht : oneTy P t = true) (h : evalE ρ x = .pointer (some ⟨b, i, none⟩))
    (hj : L[j]? = some (b, .cells cs t' fr)) (hi : cs.toList[i]? = some v) : OpP P ρ (.load t x) ty A v :=
  P_load ht h fun w hw => cell_of_heap ((hA.out w hw).at_ hj) (by simpa using hi)
/-- A load out of a block that is there for good. -/
theorem P_loadH [hA : InSt A w0 H L] {x : Operand} {t t' : TypeId} {b i : Nat} {cs : Array Value} {fr : Nat × Nat} {v : Value} (ht : oneTy P t = true) (h : evalE ρ x = .pointer (some ⟨b, i, none⟩))
    (hH : H b = some (.cells cs t' fr)) (hi : cs.toList[i]? = some v) : OpP P ρ (.load t x) ty A v :=
  P_load ht h fun w hw => cell_of_heap ((hA.out w hw).imm _ _ hH) (by simpa using hi)
theorem P_loadAggO [hA : InSt A w0 H L] (j : Nat) {x : Operand} {t t' : TypeId} {b i k : Nat} {cs : Array Value} {fr : Nat × Nat} {vs : List Value} (ht : aggTy P t = some k) (h : evalE ρ x = .pointer (some ⟨b, i, none⟩))
    (hj : L[j]? = some (b, .cells cs t' fr)) (hk : vs.length = k) (hi : ∀ q v, vs[q]? = some v → cs[i + q]? = some v) : OpP P ρ (.load t x) ty A (.agg vs.toArray) :=
  P_loadAgg ht h hk fun w hw q v e => cell_of_heap ((hA.out w hw).at_ hj) (hi q v e)
theorem P_loadAggH [hA : InSt A w0 H L] {x : Operand} {t t' : TypeId} {b i k : Nat} {cs : Array Value} {fr : Nat × Nat} {vs : List Value} (ht : aggTy P t = some k) (h : evalE ρ x = .pointer (some ⟨b, i, none⟩))
    (hH : H b = some (.cells cs t' fr)) (hk : vs.length = k) (hi : ∀ q v, vs[q]? = some v → cs[i + q]? = some v) : OpP P ρ (.load t x) ty A (.agg vs.toArray) :=
  P_loadAgg ht h hk fun w hw q v e => cell_of_heap ((hA.out w hw).imm _ _ hH) (hi q v e)

/-! ### Addresses of fields -/
def fieldOff (P : Program) (s : TypeId) (f : Nat) : Option Nat :=
  match P.underlying s with
  | some (.struct fields) => (fields[f]?).bind fun fd => (P.info? fd.type).bind fun i => if i.size = 0 then none else some fd.offset
  | _ => none
theorem P_fieldAddr {x : Operand} {s : TypeId} {f off : Nat} {b i : Nat} (hf : fieldOff P s f = some off) (h : evalE ρ x = .pointer (some ⟨b, i, none⟩)) :
    OpP P ρ (.fieldAddr s x f) ty A (.pointer (some ⟨b, i + off, none⟩)) := by
  intro d pos af g w _
  unfold fieldOff at hf
  split at hf
  · rename_i fields e
    cases e2 : fields[f]? with
    | none => rw [e2] at hf; cases hf
    | some fd =>
      rw [e2] at hf
      simp only [Option.bind_some] at hf
      cases e3 : P.info? fd.type with
      | none => rw [e3] at hf; cases hf
      | some inf =>
        rw [e3] at hf
        simp only [Option.bind_some] at hf
        split at hf
        · cases hf
        · rename_i hz
          cases hf
          have ha : (⟨b, i, none⟩ : Addr).add fd.offset = ⟨b, i + fd.offset, none⟩ := by
            unfold Addr.add; split
            · rename_i e; simp [e]
            · rfl
          simp [execOp, Instr.fieldAt, Instr.sureAddr, run_underlying e, e2, fieldPlace, Go.sizeOf, typeInfo, e3, hz, ha, h, go_sem]
  · cases hf

/-! ### Stores and new blocks -/
theorem T_store (j : Nat) {x y : Operand} {t t' : TypeId} {b i : Nat} {cs : Array Value} {v : Value} (hz : (P.info? t).map (·.size) = some 1) (h : evalE ρ x = .pointer (some ⟨b, i, none⟩))
    (hv : evalE ρ y = v) (h1 : v.oneCell' = true) (hj : L[j]? = some (b, .cells cs t' (0, 0))) (hi : i < cs.size) :
    OpT P ρ (.store t x y) ty (St w0 H L) fun _ w => St w0 H (L.set j (b, .cells (cs.setIfInBounds i v) t' (0, 0))) w := by
  intro d pos af g w hw
  obtain ⟨inf, hinf, hz'⟩ := Option.map_eq_some_iff.1 hz
  have hb := hw.at_ hj
  have hc : w.cell? ⟨b, i, none⟩ = some (cs[i]) := cell_of_heap hb (by simp [hi])
  have hfz : w.frozen? ⟨b, i, none⟩ = false := by simp [World.frozen?, hb]
  have e : (storeVar t ⟨b, i, none⟩ v).run P w = .ok () (w.setCell ⟨b, i, none⟩ v) := by
    have ha0 : (⟨b, i, none⟩ : Addr).add 0 = ⟨b, i, none⟩ := rfl
    cases v <;> first
      | (simp [Value.oneCell'] at h1; done)
      | (simp [storeVar, Go.sizeOf, typeInfo, hinf, hz', storeCells, ha0, store, Sem.run, hc, hfz, go_sem]; done)
  simp only [execOp, Instr.storeAt, Instr.sureAddr, h, hv, Sem.run_bind, Sem.run_pure, pure_bind, Result.andThen, e, OpU]
  exact hw.setCell hj i v

theorem T_alloc {t : TypeId} {z : Value} (hz : (P.info? t).bind (·.zero) = some z) :
    OpT P ρ (.alloc t) ty (St w0 H L) fun v w => ∃ b, v = .pointer (some ⟨b, 0, none⟩) ∧ St w0 H ((b, .cells z.cells t (0, 0)) :: L) w := by
  intro d pos af g w hw
  obtain ⟨inf, hinf, hz'⟩ := Option.bind_eq_some_iff.1 hz
  simp [execOp, Instr.alloc, zeroValue, typeInfo, hinf, hz', newVar, newRow, newObj, go_sem, OpU, Sem.run]
  exact hw.push _
theorem T_box {t : TypeId} {x : Operand} {v : Value} (h : evalE ρ x = v) :
    OpT P ρ (.box t x) ty (St w0 H L) fun u w => ∃ b, u = .pointer (some ⟨b, 0, none⟩) ∧ St w0 H ((b, .cells v.cells t (0, 0)) :: L) w := by
  intro d pos af g w hw
  simp [execOp, Instr.box, h, newVar, newRow, newObj, go_sem, OpU, Sem.run]
  exact hw.push _
end
end Go.Fw
