/- make, literals, stores of several cells, append of a literal. Conditions: none. -/
import Derived.Test.YtfhelnalegochaaFwMore
namespace Go.Fw
open Go Go.RowKit
set_option linter.unusedVariables false
set_option linter.unusedSimpArgs false

section
variable {P : Program} {ρ : Env} {A : World → Prop} {ty : TypeId} {w0 : World} {H : HeapP} {L : List (Nat × Obj)}

theorem St.front {K R : List (Nat × Obj)} {w : World} (h : St w0 H (K ++ (R ++ L)) w) : St w0 H (R ++ (K ++ L)) w := h.perm (List.perm_append_comm_assoc ..)
theorem St.sub_of {H' : HeapP} {K : List (Nat × Obj)} {w : World} (h : St w0 H (K ++ L) w) : St w0 H L w := h.drop (List.sublist_append_right ..)

theorem madeCells_one (z : Value) (n : Nat) : madeCells #[z] n = Array.replicate n z := by
  apply Array.ext
  · simp [size_madeCells]
  · intro i h1 h2
    simp [madeCells, Nat.mod_one]

theorem T_make {l c : Operand} {t e : TypeId} {z : Value} {size bytes : Nat} (ht : P.underlying t = some (.slice e)) (hi : (P.info? e).map (fun i => (i.zero, i.size, i.bytes)) = some (some z, size, bytes))
    {kl kc : IntKind} {Lv C : Int} (hl : evalE ρ l = .int kl Lv) (hc : evalE ρ c = .int kc C) (h0 : 0 ≤ Lv) (hlc : Lv ≤ C) (hb : (bytes : Int) * C ≤ 281474976710656) (h63 : C ≤ 9223372036854775807) :
    OpT P ρ (.makeSlice t l c) ty (St w0 H L) fun v w => ∃ b, v = .slice (some ⟨b, 0, none⟩) Lv.toNat C.toNat ∧ St w0 H ((b, .cells (madeCells z.cells (C.toNat * size)) e (0, 0)) :: L) w := by
  obtain ⟨i, hi', hzz⟩ := Option.map_eq_some_iff.1 hi
  simp only [Prod.mk.injEq] at hzz
  obtain ⟨hz, rfl, rfl⟩ := hzz
  intro d pos af g w hw
  have hr := run_make (P := P) w t e i z ht hi' hz kl kc Lv C h0 hlc hb h63
  simp only [execOp, hl, hc, Sem.run_bind, hr, Result.andThen, Sem.run_pure, OpU]
  exact ⟨_, rfl, hw.push _⟩

theorem run_storeMany {w : World} {j b : Nat} {t' : TypeId} : ∀ (vs : List Value) (cs : Array Value) (i k : Nat) (w : World) (L : List (Nat × Obj)), St w0 H L w → L[j]? = some (b, .cells cs t' (0, 0)) → i + k + vs.length ≤ cs.size → (∀ v ∈ vs, v.oneCell' = true) →
    ∃ w', (storeCells ⟨b, i, none⟩ vs k).run P w = .ok () w' ∧ St w0 H (L.set j (b, .cells (vs.foldl (fun (p : Array Value × Nat) v => (p.1.setIfInBounds p.2 v, p.2 + 1)) (cs, i + k)).1 t' (0, 0))) w' := by
  intro vs
  induction vs with
  | nil =>
    intro cs i k w L hw hj _ _
    refine ⟨w, rfl, ?_⟩
    have hjl : j < L.length := (List.getElem?_eq_some_iff.1 hj).1
    have e : L.set j (b, .cells cs t' (0, 0)) = L := by
      apply List.ext_getElem?
      intro q
      rw [List.getElem?_set]
      by_cases h : j = q
      · subst h; simp [hjl]; exact (List.getElem?_eq_some_iff.1 hj).2.symm
      · simp [h]
    simpa [e] using hw
  | cons v vs ih =>
    intro cs i k w L hw hj hsz h1
    have hv := h1 v (List.mem_cons_self ..)
    have hjl : j < L.length := (List.getElem?_eq_some_iff.1 hj).1
    simp only [List.length_cons] at hsz
    have hb := hw.at_ hj
    have ha : (⟨b, i, none⟩ : Addr).add k = ⟨b, i + k, none⟩ := by unfold Addr.add; split <;> simp_all
    have hc : w.cell? ⟨b, i + k, none⟩ = some (cs[i + k]) := cell_of_heap hb (Array.getElem?_eq_getElem (by omega))
    have hfz : w.frozen? ⟨b, i + k, none⟩ = false := by simp [World.frozen?, hb]
    have hst := run_store P w ⟨b, i + k, none⟩ v .plain hv
    rw [hc] at hst
    simp only [hfz, Bool.false_eq_true, if_false] at hst
    have hw1 := hw.setCell hj (i + k) v
    obtain ⟨w', h2, h3⟩ := ih (cs.setIfInBounds (i + k) v) i (k + 1) _ _ hw1 (by rw [List.getElem?_set]; simp [hjl]) (by simp; omega) (fun u hu => h1 u (List.mem_cons_of_mem _ hu))
    refine ⟨w', ?_, ?_⟩
    · simp only [storeCells, ha, Sem.run_bind, hst, Result.andThen]
      exact h2
    · rw [List.set_set] at h3
      simpa [Nat.add_assoc] using h3

/-- A store of a value of several cells. -/
theorem T_storeAgg (j : Nat) {x y : Operand} {t t' : TypeId} {b i k : Nat} {cs : Array Value} {vs : List Value} (hz : (P.info? t).map (·.size) = some k) (h : evalE ρ x = .pointer (some ⟨b, i, none⟩))
    (hv : evalE ρ y = .agg vs.toArray) (hk : vs.length = k) (h1 : vs.all (·.oneCell') = true) (hj : L[j]? = some (b, .cells cs t' (0, 0))) (hi : i + vs.length ≤ cs.size) :
    OpT P ρ (.store t x y) ty (St w0 H L) fun _ w => St w0 H (L.set j (b, .cells (vs.foldl (fun (p : Array Value × Nat) v => (p.1.setIfInBounds p.2 v, p.2 + 1)) (cs, i)).1 t' (0, 0))) w := by
  intro d pos af g w hw
  obtain ⟨inf, hinf, hz'⟩ := Option.map_eq_some_iff.1 hz
  obtain ⟨w', h2, h3⟩ := run_storeMany (P := P) (w := w) vs cs i 0 w L hw hj (by omega) (fun v hv => List.all_eq_true.1 h1 v hv)
  have e : (storeVar t ⟨b, i, none⟩ (.agg vs.toArray)).run P w = .ok () w' := by
    have h2' : (storeCells ⟨b, i, none⟩ vs).run P w = .ok () w' := h2
    have hs : (Go.sizeOf t).run P w = .ok vs.length w := by simp [Go.sizeOf, typeInfo, hinf, hz', hk, go_sem]
    unfold storeVar
    simp only [Sem.run_bind, hs, Result.andThen, Value.cells, List.size_toArray, ne_eq, not_true_eq_false, if_false]
    exact h2'
  simp only [execOp, Instr.storeAt, Instr.sureAddr, h, hv, Sem.run_bind, Sem.run_pure, pure_bind, Result.andThen, e, OpU]
  simpa using h3

/-! ### What is known besides the memory -/
theorem WLA.pre {ro : Option Nat} {n : Nat} {Q : Hnd} {ops : Array Oper} {l : List Oper} {p : Prop} (k : p → WLA ro P n ops Q l ρ A) : WLA ro P n ops Q l ρ (fun w => p ∧ A w) := fun m a w ha ⟨hp, hA⟩ => k hp m a w ha hA
theorem WPA.pre {ro : Option Nat} {n : Nat} {Q : Hnd} {c : Code} {p : Prop} (k : p → WPA ro P n c Q ρ A) : WPA ro P n c Q ρ (fun w => p ∧ A w) := fun m a w ha ⟨hp, hA⟩ => k hp m a w ha hA
theorem QQ.mono {Q : Hnd} {e : Exit} {B : World → Prop} (h : ∀ w, A w → B w) (k : QQ Q e ρ B) : QQ Q e ρ A := fun w hA => k w (h w hA)
/-! ### Literals -/
theorem agg_cells (cs : Array Value) : (Value.agg cs).cells = cs := rfl
def builtInfo (P : Program) (t : TypeId) : Option (Array Value × List (Nat × Nat)) :=
  match P.info? t, P.underlying t with
  | some it, some (.struct fields) =>
    match it.zero, fields.toList.mapM (fun f => (P.info? f.type).map fun i => (f.offset, i.size)) with
    | some z, some places => some (z.cells, places)
    | _, _ => none
  | _, _ => none
theorem built_of {t : TypeId} {zc : Array Value} {offs : List (Nat × Nat)} (h : builtInfo P t = some (zc, offs)) (vs : List (Nat × Value)) : P.built t vs = Instr.fill (fun i => offs.toArray[i]?) zc vs := by
  unfold builtInfo at h
  unfold Program.built
  split at h
  · rename_i it fields e1 e2
    rw [e1, e2]
    simp only at h ⊢
    split at h
    · rename_i z places e3 e4
      rw [e3, e4]
      cases h
      rfl
    · cases h
  · cases h
theorem P_build {t : TypeId} {ps : List (Nat × Operand)} {vs : List (Nat × Value)} {zc cells : Array Value} {offs : List (Nat × Nat)} (hbi : builtInfo P t = some (zc, offs)) (hp : ps.map (fun p => (p.1, evalE ρ p.2)) = vs)
    (hf : Instr.fill (fun i => offs.toArray[i]?) zc vs = some cells) : OpP P ρ (.build t ps.toArray) ty A (.agg cells) := by
  intro d pos af g w _
  have h := run_build (P := P) w t vs.toArray cells (by rw [built_of hbi]; exact hf)
  have e : ps.toArray.map (fun (p : Nat × Operand) => (p.1, evalE ρ p.2)) = vs.toArray := by rw [← hp]; simp
  have e' : (Array.map (fun x => match x with | (i, x) => (i, evalE ρ x)) ps.toArray) = vs.toArray := e
  simp only [execOp, e', Sem.run_bind, h, Result.andThen, Sem.run_pure]

theorem T_lit0 {t e : TypeId} {z : Value} {size bytes : Nat} (ht : P.underlying t = some (.slice e)) (hi : (P.info? e).map (fun i => (i.zero, i.size, i.bytes)) = some (some z, size, bytes)) :
    OpT P ρ (.buildSlice t 0 #[]) ty (St w0 H L) fun v w => ∃ b, v = .slice (some ⟨b, 0, none⟩) 0 0 ∧ St w0 H ((b, .cells #[] e (0, 0)) :: L) w := by
  obtain ⟨i, hi, _⟩ := Option.map_eq_some_iff.1 hi
  intro d pos af g w hw
  simp [execOp, Instr.buildSlice, run_underlying ht, sizeOf, typeInfo, hi, Instr.fill, newRow, newObj, Sem.run, OpU, go_sem]
  exact hw.push _
/-- A literal of one element. -/
theorem T_lit1 {t e : TypeId} {x : Operand} {v : Value} {size bytes : Nat} {z : Value} (ht : P.underlying t = some (.slice e)) (hi : (P.info? e).map (fun i => (i.zero, i.size, i.bytes)) = some (some z, size, bytes)) (hsz : 0 < size) (hle : size ≤ 64)
    (h : evalE ρ x = v) (hv : v.cells.size = size) (hzs : z.cells.size = size) :
    OpT P ρ (.buildSlice t 1 #[(0, x)]) ty (St w0 H L) fun u w => ∃ b, u = .slice (some ⟨b, 0, none⟩) 1 1 ∧ St w0 H ((b, .cells v.cells e (0, 0)) :: L) w := by
  obtain ⟨i, hi', hzz⟩ := Option.map_eq_some_iff.1 hi
  simp only [Prod.mk.injEq] at hzz
  obtain ⟨hz, rfl, rfl⟩ := hzz
  intro d pos af g w hw
  have hfill : Instr.fill (fun i_1 => some (i_1 * i.size, i.size)) ((Array.range (1 * i.size)).map (z.cells[· % z.cells.size]!)) [(0, v)] = some v.cells := by
    simp only [Instr.fill, Nat.zero_mul, hv, Nat.one_mul, Array.size_map, Array.size_range, Nat.zero_add, ne_eq, not_true_eq_false, decide_false, Bool.false_or, Nat.lt_irrefl, gt_iff_lt, Bool.false_eq_true, if_false]
    congr 1
    have key : ∀ (n : Nat) (src : Array Value) (acc : Array Value), src.size = n → acc.size = n → src.zipIdx.foldl (fun cs (x : Value × Nat) => cs.setIfInBounds x.2 x.1) acc = src := by
      intro n src acc h1 h2
      have gen : ∀ (l : List Value) (k : Nat) (acc : Array Value), k + l.length = acc.size → (l.zipIdx k).foldl (fun cs (x : Value × Nat) => cs.setIfInBounds x.2 x.1) acc = (acc.toList.take k ++ l).toArray := by
        intro l
        induction l with
        | nil => intro k acc hk; simp at hk; subst hk; apply Array.ext'; simp [List.take_of_length_le]
        | cons a l ih =>
          intro k acc hk
          simp only [List.length_cons] at hk
          simp only [List.zipIdx_cons, List.foldl_cons]
          rw [ih (k + 1) _ (by simp; omega)]
          congr 1
          simp only [Array.toList_setIfInBounds]
          apply List.ext_getElem?
          intro q
          simp only [List.getElem?_append, List.length_take, List.length_set, Array.length_toList, List.getElem?_take, List.getElem?_set]
          rcases Nat.lt_trichotomy q k with hq | hq | hq
          · rw [if_pos (by omega), if_pos (by omega), if_neg (by omega), if_pos (by omega), if_pos hq]
          · subst hq; rw [if_pos (by omega), if_pos (by omega), if_pos rfl, if_pos (by omega), if_neg (by omega)]; simp [show min q acc.size = q by omega]
          · rw [if_neg (by omega), if_neg (by omega)]
            obtain ⟨m, rfl⟩ : ∃ m, q = k + 1 + m := ⟨q - (k + 1), by omega⟩
            rw [show min (k + 1) acc.size = k + 1 by omega, show min k acc.size = k by omega, show k + 1 + m - (k + 1) = m by omega, show k + 1 + m - k = m + 1 by omega]
            simp
      have := gen src.toList 0 acc (by simp; omega)
      rw [← Array.foldl_toList, Array.toList_zipIdx]
      simpa using this
    exact key i.size v.cells _ hv (by simp)
  have hne : ¬ (1 * i.size = 0) := by omega
  have hlim : ¬ (1 * i.size > 2 ^ 24) := by omega
  have hrun : (Instr.buildSlice t 1 #[(0, v)]).run P w = .ok (.slice (some ⟨w.heap.size, 0, none⟩) 1 1) { w with heap := w.heap.push (.cells v.cells e (0, 0)) } := by
    have hf2 : Instr.fill (fun i_1 => some (i_1 * i.size, i.size)) ((Array.range (1 * i.size)).map (z.cells[· % z.cells.size]!)) (#[(0, v)] : Array (Nat × Value)).toList = some v.cells := hfill
    have hs : (Go.sizeOf e).run P w = .ok i.size w := by simp [Go.sizeOf, typeInfo, hi', go_sem]
    have hzr : (zeroValue e).run P w = .ok z w := by simp [zeroValue, typeInfo, hi', hz, go_sem]
    unfold Instr.buildSlice
    simp only [Sem.run_bind, run_underlying ht, Result.andThen, hs, if_neg hlim, if_neg hne, hzr, Sem.run_pure, hf2, newRow, newObj]
    rfl
  have e' : (Array.map (fun x => match x with | (i, x) => (i, evalE ρ x)) (#[(0, x)] : Array (Nat × Operand))) = #[(0, v)] := by simp [h]
  simp only [execOp, e', Sem.run_bind, hrun, Result.andThen, Sem.run_pure, OpU]
  exact ⟨w.heap.size, rfl, hw.push _⟩

/-- append(v, x): what is appended is a literal's block, at the head of what is held; it is let go. -/
theorem T_append1 {K R : List (Nat × Obj)} {s x : Operand} {t e e' : TypeId} {z : Value} {size bytes : Nat} (ht : P.underlying t = some (.slice e)) (hi : (P.info? e).map (fun i => (i.zero, i.size, i.bytes)) = some (some z, size, bytes)) (hzs : z.cells.size = size) (hsz : 0 < size)
    {v : Value} {n : Nat} {xs : List Value} (hown : OwnR e size v n xs R) (hs : evalE ρ s = v)
    {b m c : Nat} {cs : Array Value} (hx : evalE ρ x = .slice (some ⟨b, 0, none⟩) m c) (hl : cs.size = m * size) (h1 : ∀ u ∈ cs.toList, u.oneCell' = true)
    (h63 : n + m ≤ maxLen) (hbytes : (n + m) * bytes ≤ 140737488355328) :
    OpT P ρ (.call { callee := .builtin .append, args := #[s, x], argTypes := #[t, t] }) ty (St w0 H ((b, .cells cs e' (0, 0)) :: (K ++ (R ++ L))))
      fun v' w => ∃ q : Value × List (Nat × Obj), v' = q.1 ∧ (OwnR e size q.1 (n + m) (xs ++ cs.toList) q.2 ∧ St w0 H (K ++ (q.2 ++ L)) w) := by
  intro d pos af g w hw
  have hw' : St w0 H (R ++ (((b, .cells cs e' (0, 0)) :: K) ++ L)) w := St.front (K := (b, .cells cs e' (0, 0)) :: K) hw
  have key := T_append (P := P) (ρ := ρ) (ty := ty) (w0 := w0) (H := H) (L := ((b, .cells cs e' (0, 0)) :: K) ++ L) ht hi hzs hsz (x := x) hs hown (a := ⟨b, 0, none⟩) (m := m) (c := c) (news := cs.toList) hx (by simpa using hl) (fun u hu j q hq => ?_) h1 h63 hbytes d pos af g w hw'
  · revert key
    generalize (execOp (evalE ρ) ⟨d, .call { callee := .builtin .append, args := #[s, x], argTypes := #[t, t] }, ty, pos, af, g⟩).run P w = r
    intro key
    have mono : ∀ v' u, (∃ q : Value × List (Nat × Obj), v' = q.1 ∧ (OwnR e size q.1 (n + m) (xs ++ cs.toList) q.2 ∧ St w0 H (q.2 ++ (((b, .cells cs e' (0, 0)) :: K) ++ L)) u)) →
        ∃ q : Value × List (Nat × Obj), v' = q.1 ∧ (OwnR e size q.1 (n + m) (xs ++ cs.toList) q.2 ∧ St w0 H (K ++ (q.2 ++ L)) u) := by
      rintro v' u ⟨q, h1, h2, h3⟩
      refine ⟨q, h1, h2, ?_⟩
      have h4 := St.front (K := q.2) (R := (b, .cells cs e' (0, 0)) :: K) h3
      exact h4.drop (List.sublist_cons_self ..)
    cases r with
    | ok a u =>
      cases a <;> simp only [OpU] at key ⊢ <;> first | exact mono _ _ key | exact key.mono fun e w' ⟨v, h1, h2⟩ => ⟨v, h1, mono _ _ h2⟩ | exact key.mono fun v w' h => mono _ _ h
    | halt a u => exact key
  · have hb := hu.perm (List.perm_append_comm_assoc R ((b, .cells cs e' (0, 0)) :: K) L)
    have ha : (⟨b, 0, none⟩ : Addr).add j = ⟨b, j, none⟩ := by unfold Addr.add; split <;> simp_all
    rw [ha]
    exact cell_of_heap (hb.at_ (j := 0) rfl) (by simpa using hq)
end

/-! ### Loads of values of several cells -/
section
variable {P : Program} {ρ : Env} {A : World → Prop} {ty : TypeId} {w0 : World} {H : HeapP} {L : List (Nat × Obj)}
theorem P_loadAgg2O [hA : InSt A w0 H L] (j : Nat) {x : Operand} {t t' : TypeId} {b i : Nat} {cs : Array Value} {fr : Nat × Nat} {v0 v1 : Value} (ht : aggTy P t = some 2) (h : evalE ρ x = .pointer (some ⟨b, i, none⟩))
    (hj : L[j]? = some (b, .cells cs t' fr)) (h0 : cs.toList[i]? = some v0) (h1 : cs.toList[i + 1]? = some v1) : OpP P ρ (.load t x) ty A (.agg #[v0, v1]) := by
  refine P_loadAggO j (vs := [v0, v1]) ht h hj rfl fun q v e => ?_
  have : q < 2 := by have := (List.getElem?_eq_some_iff.1 e).1; simpa using this
  rw [← Array.getElem?_toList]
  match q, this with
  | 0, _ => simp at e; subst e; simpa using h0
  | 1, _ => simp at e; subst e; simpa using h1
theorem P_loadAgg2H [hA : InSt A w0 H L] {x : Operand} {t t' : TypeId} {b i : Nat} {cs : Array Value} {fr : Nat × Nat} {v0 v1 : Value} (ht : aggTy P t = some 2) (h : evalE ρ x = .pointer (some ⟨b, i, none⟩))
    (hH : H b = some (.cells cs t' fr)) (h0 : cs.toList[i]? = some v0) (h1 : cs.toList[i + 1]? = some v1) : OpP P ρ (.load t x) ty A (.agg #[v0, v1]) := by
  refine P_loadAggH (vs := [v0, v1])  ht h hH rfl fun q v e => ?_
  have : q < 2 := by have := (List.getElem?_eq_some_iff.1 e).1; simpa using this
  rw [← Array.getElem?_toList]
  match q, this with
  | 0, _ => simp at e; subst e; simpa using h0
  | 1, _ => simp at e; subst e; simpa using h1
theorem P_loadAgg3O [hA : InSt A w0 H L] (j : Nat) {x : Operand} {t t' : TypeId} {b i : Nat} {cs : Array Value} {fr : Nat × Nat} {v0 v1 v2 : Value} (ht : aggTy P t = some 3) (h : evalE ρ x = .pointer (some ⟨b, i, none⟩))
    (hj : L[j]? = some (b, .cells cs t' fr)) (h0 : cs.toList[i]? = some v0) (h1 : cs.toList[i + 1]? = some v1) (h2 : cs.toList[i + 2]? = some v2) : OpP P ρ (.load t x) ty A (.agg #[v0, v1, v2]) := by
  refine P_loadAggO j (vs := [v0, v1, v2]) ht h hj rfl fun q v e => ?_
  have : q < 3 := by have := (List.getElem?_eq_some_iff.1 e).1; simpa using this
  rw [← Array.getElem?_toList]
  match q, this with
  | 0, _ => simp at e; subst e; simpa using h0
  | 1, _ => simp at e; subst e; simpa using h1
  | 2, _ => simp at e; subst e; simpa using h2
theorem P_loadAgg3H [hA : InSt A w0 H L] {x : Operand} {t t' : TypeId} {b i : Nat} {cs : Array Value} {fr : Nat × Nat} {v0 v1 v2 : Value} (ht : aggTy P t = some 3) (h : evalE ρ x = .pointer (some ⟨b, i, none⟩))
    (hH : H b = some (.cells cs t' fr)) (h0 : cs.toList[i]? = some v0) (h1 : cs.toList[i + 1]? = some v1) (h2 : cs.toList[i + 2]? = some v2) : OpP P ρ (.load t x) ty A (.agg #[v0, v1, v2]) := by
  refine P_loadAggH (vs := [v0, v1, v2])  ht h hH rfl fun q v e => ?_
  have : q < 3 := by have := (List.getElem?_eq_some_iff.1 e).1; simpa using this
  rw [← Array.getElem?_toList]
  match q, this with
  | 0, _ => simp at e; subst e; simpa using h0
  | 1, _ => simp at e; subst e; simpa using h1
  | 2, _ => simp at e; subst e; simpa using h2
theorem P_loadAgg4O [hA : InSt A w0 H L] (j : Nat) {x : Operand} {t t' : TypeId} {b i : Nat} {cs : Array Value} {fr : Nat × Nat} {v0 v1 v2 v3 : Value} (ht : aggTy P t = some 4) (h : evalE ρ x = .pointer (some ⟨b, i, none⟩))
    (hj : L[j]? = some (b, .cells cs t' fr)) (h0 : cs.toList[i]? = some v0) (h1 : cs.toList[i + 1]? = some v1) (h2 : cs.toList[i + 2]? = some v2) (h3 : cs.toList[i + 3]? = some v3) : OpP P ρ (.load t x) ty A (.agg #[v0, v1, v2, v3]) := by
  refine P_loadAggO j (vs := [v0, v1, v2, v3]) ht h hj rfl fun q v e => ?_
  have : q < 4 := by have := (List.getElem?_eq_some_iff.1 e).1; simpa using this
  rw [← Array.getElem?_toList]
  match q, this with
  | 0, _ => simp at e; subst e; simpa using h0
  | 1, _ => simp at e; subst e; simpa using h1
  | 2, _ => simp at e; subst e; simpa using h2
  | 3, _ => simp at e; subst e; simpa using h3
theorem P_loadAgg4H [hA : InSt A w0 H L] {x : Operand} {t t' : TypeId} {b i : Nat} {cs : Array Value} {fr : Nat × Nat} {v0 v1 v2 v3 : Value} (ht : aggTy P t = some 4) (h : evalE ρ x = .pointer (some ⟨b, i, none⟩))
    (hH : H b = some (.cells cs t' fr)) (h0 : cs.toList[i]? = some v0) (h1 : cs.toList[i + 1]? = some v1) (h2 : cs.toList[i + 2]? = some v2) (h3 : cs.toList[i + 3]? = some v3) : OpP P ρ (.load t x) ty A (.agg #[v0, v1, v2, v3]) := by
  refine P_loadAggH (vs := [v0, v1, v2, v3])  ht h hH rfl fun q v e => ?_
  have : q < 4 := by have := (List.getElem?_eq_some_iff.1 e).1; simpa using this
  rw [← Array.getElem?_toList]
  match q, this with
  | 0, _ => simp at e; subst e; simpa using h0
  | 1, _ => simp at e; subst e; simpa using h1
  | 2, _ => simp at e; subst e; simpa using h2
  | 3, _ => simp at e; subst e; simpa using h3
theorem P_loadAgg5O [hA : InSt A w0 H L] (j : Nat) {x : Operand} {t t' : TypeId} {b i : Nat} {cs : Array Value} {fr : Nat × Nat} {v0 v1 v2 v3 v4 : Value} (ht : aggTy P t = some 5) (h : evalE ρ x = .pointer (some ⟨b, i, none⟩))
    (hj : L[j]? = some (b, .cells cs t' fr)) (h0 : cs.toList[i]? = some v0) (h1 : cs.toList[i + 1]? = some v1) (h2 : cs.toList[i + 2]? = some v2) (h3 : cs.toList[i + 3]? = some v3) (h4 : cs.toList[i + 4]? = some v4) : OpP P ρ (.load t x) ty A (.agg #[v0, v1, v2, v3, v4]) := by
  refine P_loadAggO j (vs := [v0, v1, v2, v3, v4]) ht h hj rfl fun q v e => ?_
  have : q < 5 := by have := (List.getElem?_eq_some_iff.1 e).1; simpa using this
  rw [← Array.getElem?_toList]
  match q, this with
  | 0, _ => simp at e; subst e; simpa using h0
  | 1, _ => simp at e; subst e; simpa using h1
  | 2, _ => simp at e; subst e; simpa using h2
  | 3, _ => simp at e; subst e; simpa using h3
  | 4, _ => simp at e; subst e; simpa using h4
theorem P_loadAgg5H [hA : InSt A w0 H L] {x : Operand} {t t' : TypeId} {b i : Nat} {cs : Array Value} {fr : Nat × Nat} {v0 v1 v2 v3 v4 : Value} (ht : aggTy P t = some 5) (h : evalE ρ x = .pointer (some ⟨b, i, none⟩))
    (hH : H b = some (.cells cs t' fr)) (h0 : cs.toList[i]? = some v0) (h1 : cs.toList[i + 1]? = some v1) (h2 : cs.toList[i + 2]? = some v2) (h3 : cs.toList[i + 3]? = some v3) (h4 : cs.toList[i + 4]? = some v4) : OpP P ρ (.load t x) ty A (.agg #[v0, v1, v2, v3, v4]) := by
  refine P_loadAggH (vs := [v0, v1, v2, v3, v4])  ht h hH rfl fun q v e => ?_
  have : q < 5 := by have := (List.getElem?_eq_some_iff.1 e).1; simpa using this
  rw [← Array.getElem?_toList]
  match q, this with
  | 0, _ => simp at e; subst e; simpa using h0
  | 1, _ => simp at e; subst e; simpa using h1
  | 2, _ => simp at e; subst e; simpa using h2
  | 3, _ => simp at e; subst e; simpa using h3
  | 4, _ => simp at e; subst e; simpa using h4
theorem P_loadAgg6O [hA : InSt A w0 H L] (j : Nat) {x : Operand} {t t' : TypeId} {b i : Nat} {cs : Array Value} {fr : Nat × Nat} {v0 v1 v2 v3 v4 v5 : Value} (ht : aggTy P t = some 6) (h : evalE ρ x = .pointer (some ⟨b, i, none⟩))
    (hj : L[j]? = some (b, .cells cs t' fr)) (h0 : cs.toList[i]? = some v0) (h1 : cs.toList[i + 1]? = some v1) (h2 : cs.toList[i + 2]? = some v2) (h3 : cs.toList[i + 3]? = some v3) (h4 : cs.toList[i + 4]? = some v4) (h5 : cs.toList[i + 5]? = some v5) : OpP P ρ (.load t x) ty A (.agg #[v0, v1, v2, v3, v4, v5]) := by
  refine P_loadAggO j (vs := [v0, v1, v2, v3, v4, v5]) ht h hj rfl fun q v e => ?_
  have : q < 6 := by have := (List.getElem?_eq_some_iff.1 e).1; simpa using this
  rw [← Array.getElem?_toList]
  match q, this with
  | 0, _ => simp at e; subst e; simpa using h0
  | 1, _ => simp at e; subst e; simpa using h1
  | 2, _ => simp at e; subst e; simpa using h2
  | 3, _ => simp at e; subst e; simpa using h3
  | 4, _ => simp at e; subst e; simpa using h4
  | 5, _ => simp at e; subst e; simpa using h5
theorem P_loadAgg6H [hA : InSt A w0 H L] {x : Operand} {t t' : TypeId} {b i : Nat} {cs : Array Value} {fr : Nat × Nat} {v0 v1 v2 v3 v4 v5 : Value} (ht : aggTy P t = some 6) (h : evalE ρ x = .pointer (some ⟨b, i, none⟩))
    (hH : H b = some (.cells cs t' fr)) (h0 : cs.toList[i]? = some v0) (h1 : cs.toList[i + 1]? = some v1) (h2 : cs.toList[i + 2]? = some v2) (h3 : cs.toList[i + 3]? = some v3) (h4 : cs.toList[i + 4]? = some v4) (h5 : cs.toList[i + 5]? = some v5) : OpP P ρ (.load t x) ty A (.agg #[v0, v1, v2, v3, v4, v5]) := by
  refine P_loadAggH (vs := [v0, v1, v2, v3, v4, v5])  ht h hH rfl fun q v e => ?_
  have : q < 6 := by have := (List.getElem?_eq_some_iff.1 e).1; simpa using this
  rw [← Array.getElem?_toList]
  match q, this with
  | 0, _ => simp at e; subst e; simpa using h0
  | 1, _ => simp at e; subst e; simpa using h1
  | 2, _ => simp at e; subst e; simpa using h2
  | 3, _ => simp at e; subst e; simpa using h3
  | 4, _ => simp at e; subst e; simpa using h4
  | 5, _ => simp at e; subst e; simpa using h5
theorem P_loadAgg7O [hA : InSt A w0 H L] (j : Nat) {x : Operand} {t t' : TypeId} {b i : Nat} {cs : Array Value} {fr : Nat × Nat} {v0 v1 v2 v3 v4 v5 v6 : Value} (ht : aggTy P t = some 7) (h : evalE ρ x = .pointer (some ⟨b, i, none⟩))
    (hj : L[j]? = some (b, .cells cs t' fr)) (h0 : cs.toList[i]? = some v0) (h1 : cs.toList[i + 1]? = some v1) (h2 : cs.toList[i + 2]? = some v2) (h3 : cs.toList[i + 3]? = some v3) (h4 : cs.toList[i + 4]? = some v4) (h5 : cs.toList[i + 5]? = some v5) (h6 : cs.toList[i + 6]? = some v6) : OpP P ρ (.load t x) ty A (.agg #[v0, v1, v2, v3, v4, v5, v6]) := by
  refine P_loadAggO j (vs := [v0, v1, v2, v3, v4, v5, v6]) ht h hj rfl fun q v e => ?_
  have : q < 7 := by have := (List.getElem?_eq_some_iff.1 e).1; simpa using this
  rw [← Array.getElem?_toList]
  match q, this with
  | 0, _ => simp at e; subst e; simpa using h0
  | 1, _ => simp at e; subst e; simpa using h1
  | 2, _ => simp at e; subst e; simpa using h2
  | 3, _ => simp at e; subst e; simpa using h3
  | 4, _ => simp at e; subst e; simpa using h4
  | 5, _ => simp at e; subst e; simpa using h5
  | 6, _ => simp at e; subst e; simpa using h6
theorem P_loadAgg7H [hA : InSt A w0 H L] {x : Operand} {t t' : TypeId} {b i : Nat} {cs : Array Value} {fr : Nat × Nat} {v0 v1 v2 v3 v4 v5 v6 : Value} (ht : aggTy P t = some 7) (h : evalE ρ x = .pointer (some ⟨b, i, none⟩))
    (hH : H b = some (.cells cs t' fr)) (h0 : cs.toList[i]? = some v0) (h1 : cs.toList[i + 1]? = some v1) (h2 : cs.toList[i + 2]? = some v2) (h3 : cs.toList[i + 3]? = some v3) (h4 : cs.toList[i + 4]? = some v4) (h5 : cs.toList[i + 5]? = some v5) (h6 : cs.toList[i + 6]? = some v6) : OpP P ρ (.load t x) ty A (.agg #[v0, v1, v2, v3, v4, v5, v6]) := by
  refine P_loadAggH (vs := [v0, v1, v2, v3, v4, v5, v6])  ht h hH rfl fun q v e => ?_
  have : q < 7 := by have := (List.getElem?_eq_some_iff.1 e).1; simpa using this
  rw [← Array.getElem?_toList]
  match q, this with
  | 0, _ => simp at e; subst e; simpa using h0
  | 1, _ => simp at e; subst e; simpa using h1
  | 2, _ => simp at e; subst e; simpa using h2
  | 3, _ => simp at e; subst e; simpa using h3
  | 4, _ => simp at e; subst e; simpa using h4
  | 5, _ => simp at e; subst e; simpa using h5
  | 6, _ => simp at e; subst e; simpa using h6
theorem P_loadAgg8O [hA : InSt A w0 H L] (j : Nat) {x : Operand} {t t' : TypeId} {b i : Nat} {cs : Array Value} {fr : Nat × Nat} {v0 v1 v2 v3 v4 v5 v6 v7 : Value} (ht : aggTy P t = some 8) (h : evalE ρ x = .pointer (some ⟨b, i, none⟩))
    (hj : L[j]? = some (b, .cells cs t' fr)) (h0 : cs.toList[i]? = some v0) (h1 : cs.toList[i + 1]? = some v1) (h2 : cs.toList[i + 2]? = some v2) (h3 : cs.toList[i + 3]? = some v3) (h4 : cs.toList[i + 4]? = some v4) (h5 : cs.toList[i + 5]? = some v5) (h6 : cs.toList[i + 6]? = some v6) (h7 : cs.toList[i + 7]? = some v7) : OpP P ρ (.load t x) ty A (.agg #[v0, v1, v2, v3, v4, v5, v6, v7]) := by
  refine P_loadAggO j (vs := [v0, v1, v2, v3, v4, v5, v6, v7]) ht h hj rfl fun q v e => ?_
  have : q < 8 := by have := (List.getElem?_eq_some_iff.1 e).1; simpa using this
  rw [← Array.getElem?_toList]
  match q, this with
  | 0, _ => simp at e; subst e; simpa using h0
  | 1, _ => simp at e; subst e; simpa using h1
  | 2, _ => simp at e; subst e; simpa using h2
  | 3, _ => simp at e; subst e; simpa using h3
  | 4, _ => simp at e; subst e; simpa using h4
  | 5, _ => simp at e; subst e; simpa using h5
  | 6, _ => simp at e; subst e; simpa using h6
  | 7, _ => simp at e; subst e; simpa using h7
theorem P_loadAgg8H [hA : InSt A w0 H L] {x : Operand} {t t' : TypeId} {b i : Nat} {cs : Array Value} {fr : Nat × Nat} {v0 v1 v2 v3 v4 v5 v6 v7 : Value} (ht : aggTy P t = some 8) (h : evalE ρ x = .pointer (some ⟨b, i, none⟩))
    (hH : H b = some (.cells cs t' fr)) (h0 : cs.toList[i]? = some v0) (h1 : cs.toList[i + 1]? = some v1) (h2 : cs.toList[i + 2]? = some v2) (h3 : cs.toList[i + 3]? = some v3) (h4 : cs.toList[i + 4]? = some v4) (h5 : cs.toList[i + 5]? = some v5) (h6 : cs.toList[i + 6]? = some v6) (h7 : cs.toList[i + 7]? = some v7) : OpP P ρ (.load t x) ty A (.agg #[v0, v1, v2, v3, v4, v5, v6, v7]) := by
  refine P_loadAggH (vs := [v0, v1, v2, v3, v4, v5, v6, v7])  ht h hH rfl fun q v e => ?_
  have : q < 8 := by have := (List.getElem?_eq_some_iff.1 e).1; simpa using this
  rw [← Array.getElem?_toList]
  match q, this with
  | 0, _ => simp at e; subst e; simpa using h0
  | 1, _ => simp at e; subst e; simpa using h1
  | 2, _ => simp at e; subst e; simpa using h2
  | 3, _ => simp at e; subst e; simpa using h3
  | 4, _ => simp at e; subst e; simpa using h4
  | 5, _ => simp at e; subst e; simpa using h5
  | 6, _ => simp at e; subst e; simpa using h6
  | 7, _ => simp at e; subst e; simpa using h7
end
end Go.Fw
