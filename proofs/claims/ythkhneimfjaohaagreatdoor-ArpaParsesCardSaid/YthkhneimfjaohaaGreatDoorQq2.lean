/- Texts that ArpaParses_law leans on, part 2. Conditions: none. -/
import Derived.Laws.Cover3
import Derived.RangeFuncIn
import Derived.Test.YthkhneimfjaohaaGreatDoorQq1
namespace Go.Fw
open Go Go.RowKit
set_option linter.unusedVariables false
set_option linter.unusedSimpArgs false
section
variable {P : Program} {ρ : Env} {A : World → Prop} {ty : TypeId} {w0 : World} {H : HeapP} {L : List (Nat × Obj)}
theorem T_make {l c : Operand} {t e : TypeId} {z : Value} {size bytes : Nat} (ht : P.underlying t = some (.slice e)) (hi : (P.info? e).map (fun i => (i.zero, i.size, i.bytes)) = some (some z, size, bytes))
    {kl kc : IntKind} {Lv C : Int} (hl : evalE ρ l = .int kl Lv) (hc : evalE ρ c = .int kc C) (h0 : 0 ≤ Lv) (hlc : Lv ≤ C) (hb : (bytes : Int) * C ≤ 281474976710656) (h63 : C ≤ 9223372036854775807) :
    OpT P ρ (.makeSlice t l c) ty (St w0 H L) fun v w => ∃ b, v = .slice (some ⟨b, 0, none⟩) Lv.toNat C.toNat ∧ St w0 H ((b, .cells (madeCells z.cells (C.toNat * size)) e (0, 0)) :: L) w := by
  obtain ⟨i, hi', hzz⟩ := Option.map_eq_some_iff.1 hi
  simp only [Prod.mk.injEq] at hzz
  obtain ⟨hz, rfl, rfl⟩ := hzz
  intro d pos af g w hw
  have hr := run_make (P := P) w t e i z ht hi' hz kl kc Lv C h0 hlc hb h63
  simp only [execOp, hl, hc, Sem.run_bind, hr, Result.andThen, Sem.run_pure, OpU]
  exact ⟨_, rfl, hw.push _⟩
theorem run_storeMany {w : World} {j b : Nat} {t' : TypeId} : ∀ (vs : List Value) (cs : Array Value) (i k : Nat) (w : World) (L : List (Nat × Obj)), St w0 H L w → L[j]? = some (b, .cells cs t' (0, 0)) → i + k + vs.length ≤ cs.size → (∀ v ∈ vs, v.oneCell' = true) →
    ∃ w', (storeCells ⟨b, i, none⟩ vs k).run P w = .ok () w' ∧ St w0 H (L.set j (b, .cells (vs.foldl (fun (p : Array Value × Nat) v => (p.1.setIfInBounds p.2 v, p.2 + 1)) (cs, i + k)).1 t' (0, 0))) w' := by
  intro vs
  induction vs with
  | nil =>
    intro cs i k w L hw hj _ _
    refine ⟨w, rfl, ?_⟩
    have hjl : j < L.length := (List.getElem?_eq_some_iff.1 hj).1
    have e : L.set j (b, .cells cs t' (0, 0)) = L := by
      apply List.ext_getElem?
      intro q
      rw [List.getElem?_set]
      by_cases h : j = q
      · subst h; simp [hjl]; exact (List.getElem?_eq_some_iff.1 hj).2.symm
      · simp [h]
    simpa [e] using hw
  | cons v vs ih =>
    intro cs i k w L hw hj hsz h1
    have hv := h1 v (List.mem_cons_self ..)
    have hjl : j < L.length := (List.getElem?_eq_some_iff.1 hj).1
    simp only [List.length_cons] at hsz
    have hb := hw.at_ hj
    have ha : (⟨b, i, none⟩ : Addr).add k = ⟨b, i + k, none⟩ := by unfold Addr.add; split <;> simp_all
    have hc : w.cell? ⟨b, i + k, none⟩ = some (cs[i + k]) := cell_of_heap hb (Array.getElem?_eq_getElem (by omega))
    have hfz : w.frozen? ⟨b, i + k, none⟩ = false := by simp [World.frozen?, hb]
    have hst := run_store P w ⟨b, i + k, none⟩ v .plain hv
    rw [hc] at hst
    simp only [hfz, Bool.false_eq_true, if_false] at hst
    have hw1 := hw.setCell hj (i + k) v
    obtain ⟨w', h2, h3⟩ := ih (cs.setIfInBounds (i + k) v) i (k + 1) _ _ hw1 (by rw [List.getElem?_set]; simp [hjl]) (by simp; omega) (fun u hu => h1 u (List.mem_cons_of_mem _ hu))
    refine ⟨w', ?_, ?_⟩
    · simp only [storeCells, ha, Sem.run_bind, hst, Result.andThen]
      exact h2
    · rw [List.set_set] at h3
      simpa [Nat.add_assoc] using h3
theorem T_storeAgg (j : Nat) {x y : Operand} {t t' : TypeId} {b i k : Nat} {cs : Array Value} {vs : List Value} (hz : (P.info? t).map (·.size) = some k) (h : evalE ρ x = .pointer (some ⟨b, i, none⟩))
    (hv : evalE ρ y = .agg vs.toArray) (hk : vs.length = k) (h1 : vs.all (·.oneCell') = true) (hj : L[j]? = some (b, .cells cs t' (0, 0))) (hi : i + vs.length ≤ cs.size) :
    OpT P ρ (.store t x y) ty (St w0 H L) fun _ w => St w0 H (L.set j (b, .cells (vs.foldl (fun (p : Array Value × Nat) v => (p.1.setIfInBounds p.2 v, p.2 + 1)) (cs, i)).1 t' (0, 0))) w := by
  intro d pos af g w hw
  obtain ⟨inf, hinf, hz'⟩ := Option.map_eq_some_iff.1 hz
  obtain ⟨w', h2, h3⟩ := run_storeMany (P := P) (w := w) vs cs i 0 w L hw hj (by omega) (fun v hv => List.all_eq_true.1 h1 v hv)
  have e : (storeVar t ⟨b, i, none⟩ (.agg vs.toArray)).run P w = .ok () w' := by
    have h2' : (storeCells ⟨b, i, none⟩ vs).run P w = .ok () w' := h2
    have hs : (Go.sizeOf t).run P w = .ok vs.length w := by simp [Go.sizeOf, typeInfo, hinf, hz', hk, go_sem]
    unfold storeVar
    simp only [Sem.run_bind, hs, Result.andThen, Value.cells, List.size_toArray, ne_eq, not_true_eq_false, if_false]
    exact h2'
  simp only [execOp, Instr.storeAt, Instr.sureAddr, h, hv, Sem.run_bind, Sem.run_pure, pure_bind, Result.andThen, e, OpU]
  simpa using h3
def builtInfo (P : Program) (t : TypeId) : Option (Array Value × List (Nat × Nat)) :=
  match P.info? t, P.underlying t with
  | some it, some (.struct fields) =>
    match it.zero, fields.toList.mapM (fun f => (P.info? f.type).map fun i => (f.offset, i.size)) with
    | some z, some places => some (z.cells, places)
    | _, _ => none
  | _, _ => none
theorem built_of {t : TypeId} {zc : Array Value} {offs : List (Nat × Nat)} (h : builtInfo P t = some (zc, offs)) (vs : List (Nat × Value)) : P.built t vs = Instr.fill (fun i => offs.toArray[i]?) zc vs := by
  unfold builtInfo at h
  unfold Program.built
  split at h
  · rename_i it fields e1 e2
    rw [e1, e2]
    simp only at h ⊢
    split at h
    · rename_i z places e3 e4
      rw [e3, e4]
      cases h
      rfl
    · cases h
  · cases h
theorem P_build {t : TypeId} {ps : List (Nat × Operand)} {vs : List (Nat × Value)} {zc cells : Array Value} {offs : List (Nat × Nat)} (hbi : builtInfo P t = some (zc, offs)) (hp : ps.map (fun p => (p.1, evalE ρ p.2)) = vs)
    (hf : Instr.fill (fun i => offs.toArray[i]?) zc vs = some cells) : OpP P ρ (.build t ps.toArray) ty A (.agg cells) := by
  intro d pos af g w _
  have h := run_build (P := P) w t vs.toArray cells (by rw [built_of hbi]; exact hf)
  have e : ps.toArray.map (fun (p : Nat × Operand) => (p.1, evalE ρ p.2)) = vs.toArray := by rw [← hp]; simp
  have e' : (Array.map (fun x => match x with | (i, x) => (i, evalE ρ x)) ps.toArray) = vs.toArray := e
  simp only [execOp, e', Sem.run_bind, h, Result.andThen, Sem.run_pure]
end
end Go.Fw
namespace Go.Fw
open Go Go.RowKit
set_option linter.unusedVariables false
set_option linter.unusedSimpArgs false
def Blk (H : HeapP) (L : List (Nat × Obj)) (b : Nat) (o : Obj) : Prop := H b = some o ∨ (b, o) ∈ L
def Rd (H : HeapP) (L : List (Nat × Obj)) (size : Nat) (v : Value) (n : Nat) (xs : List Value) : Prop :=
  xs.length = n * size ∧ ((∃ a cap, v = .slice a n cap ∧ n = 0) ∨
    ∃ b o cap cs t fr, v = .slice (some ⟨b, o, none⟩) n cap ∧ n ≤ cap ∧ Blk H L b (.cells cs t fr) ∧ ∀ j u, xs[j]? = some u → cs.toList[o + j]? = some u)
section
variable {P : Program} {ρ : Env} {A : World → Prop} {ty : TypeId} {w0 : World} {H : HeapP} {L : List (Nat × Obj)}
theorem St.blk {w : World} (h : St w0 H L w) {b : Nat} {o : Obj} (hb : Blk H L b o) : w.heap[b]? = some o := hb.elim (fun e => h.imm _ _ e) (fun e => (h.own _ e).1)
theorem T_appendR {R : List (Nat × Obj)} {s x : Operand} {t e : TypeId} {z : Value} {size bytes : Nat} (ht : P.underlying t = some (.slice e)) (hi : (P.info? e).map (fun i => (i.zero, i.size, i.bytes)) = some (some z, size, bytes)) (hzs : z.cells.size = size) (hsz : 0 < size)
    {v : Value} {n : Nat} {xs : List Value} (hown : OwnR e size v n xs R) (hs : evalE ρ s = v) {vx : Value} {m : Nat} {news : List Value} (hr : Rd H (R ++ L) size vx m news) (hx : evalE ρ x = vx) (h1 : ∀ u ∈ news, u.oneCell' = true)
    (h63 : n + m ≤ maxLen) (hbytes : (n + m) * bytes ≤ 140737488355328) :
    OpT P ρ (.call { callee := .builtin .append, args := #[s, x], argTypes := #[t, t] }) ty (St w0 H (R ++ L))
      fun v' w => ∃ q : Value × List (Nat × Obj), v' = q.1 ∧ (OwnR e size q.1 (n + m) (xs ++ news) q.2 ∧ St w0 H (q.2 ++ L) w) := by
  rcases hr.2 with ⟨a, capx, rfl, rfl⟩ | ⟨b, o, cap, cs, t', fr, rfl, hc, hb, hcs⟩
  · have hn : news = [] := List.eq_nil_of_length_eq_zero (by simpa using hr.1)
    subst hn
    cases a with
    | some a => exact T_append ht hi hzs hsz hs hown hx (by simp) (fun w hw j u hu => by simp at hu) h1 h63 hbytes
    | none =>
      obtain ⟨i, hi', hzz⟩ := Option.map_eq_some_iff.1 hi
      simp only [Prod.mk.injEq] at hzz
      obtain ⟨hz, rfl, rfl⟩ := hzz
      intro d pos af g w hw
      have key : (Builtin.append_ #[t, t] ty #[v, .slice none 0 capx]).run P w = .ok v w := by
        rcases hown.2 with ⟨rfl, rfl, rfl⟩ | ⟨gb, cap, cur, rfl, hnc, hcm, hcs, htake, rfl⟩
        · simp [Builtin.append_, run_underlying ht, sizeOf, typeInfo, hi', Builtin.lenOf, Builtin.firstCells, loadCells, loadCellsFrom]
        · simp [Builtin.append_, run_underlying ht, sizeOf, typeInfo, hi', Builtin.lenOf, Builtin.firstCells, loadCells, loadCellsFrom, hnc, storeCells, go_sem]
      have e1 : (execOp (evalE ρ) ⟨d, .call { callee := .builtin .append, args := #[s, x], argTypes := #[t, t] }, ty, pos, af, g⟩).run P w = .ok (.value v) w := by
        have key' : (Builtin.append_ #[t, t] ty #[v, .slice none 0 capx]).run P w = .ok v w := key
        unfold execOp
        simp only [resolve, invoke, builtin, Sem.run_bind, Sem.run_pure, Result.andThen_ok, List.map_toArray, List.map_cons, List.map_nil, hs, hx, key']
      rw [e1]
      refine ⟨(v, R), rfl, ?_, hw⟩
      rw [List.append_nil]
      exact hown
  · refine T_append ht hi hzs hsz hs hown hx hr.1 (fun w hw j u hu => ?_) h1 h63 hbytes
    have ha : (⟨b, o, none⟩ : Addr).add j = ⟨b, o + j, none⟩ := by
      unfold Addr.add; split
      · rename_i e; simp [e]
      · rfl
    rw [ha]
    exact cell_of_heap (hw.blk hb) (by simpa using hcs j u hu)
end
theorem Tr.conv {P : Program} {f : FuncId} {args : Array Value} {A A' : World → Prop} {τ τ' : Type} {val : τ → Value} {val' : τ' → Value} {B : τ → World → Prop} {B' : τ' → World → Prop} (h : Tr P f args A val B)
    (hA : ∀ w, A' w → A w) (hB : ∀ x w, B x w → ∃ x', val x = val' x' ∧ B' x' w) : Tr P f args A' val' B' := by
  intro w hw
  refine (h w (hA w hw)).mono ?_
  rintro e w' ⟨x, he, hb⟩
  obtain ⟨x', h1, h2⟩ := hB x w' hb
  exact ⟨x', by rw [he, h1], h2⟩
end Go.Fw
namespace Go.Fw
open Go Go.RowKit
set_option linter.unusedVariables false
set_option linter.unusedSimpArgs false
theorem QQ.pre {Q : Hnd} {e : Exit} {ρ : Env} {p : Prop} {A : World → Prop} (k : p → QQ Q e ρ A) : QQ Q e ρ (fun w => p ∧ A w) := fun w ⟨hp, hA⟩ => k hp w hA
def YTr (P : Program) (l : Nat) (args : Array Value) (A : World → Prop) {τ : Type} (val : τ → Value) (B : τ → World → Prop) : Prop :=
  ∀ w, A w → ∃ fn tmps as_ bd, (Instr.yield l args).run P w = .ok (.round l fn tmps as_ bd) w ∧ RoundIn Fence.wide 0 P l fn tmps as_ bd w fun e w' => ∃ x, e = .returned (val x) ∧ B x w'
theorem YTr.conv {P : Program} {l : Nat} {args : Array Value} {A A' : World → Prop} {τ τ' : Type} {val : τ → Value} {val' : τ' → Value} {B : τ → World → Prop} {B' : τ' → World → Prop} (h : YTr P l args A val B)
    (hA : ∀ w, A' w → A w) (hB : ∀ x w, B x w → ∃ x', val x = val' x' ∧ B' x' w) : YTr P l args A' val' B' := by
  intro w hw
  obtain ⟨fn, tmps, as_, bd, h1, h2⟩ := h w (hA w hw)
  refine ⟨fn, tmps, as_, bd, h1, h2.mono ?_⟩
  rintro e w' ⟨x, he, hb⟩
  obtain ⟨x', h1, h2⟩ := hB x w' hb
  exact ⟨x', by rw [he, h1], h2⟩
section
variable {P : Program} {ρ : Env} {A : World → Prop} {ty : TypeId}
theorem T_yield {c : Operand} {l : Nat} {args : Array Operand} {argTypes : Array TypeId} {τ : Type} {val : τ → Value} {B : τ → World → Prop} (hc : YTr P l (args.map (evalE ρ)) A val B) (hv : evalE ρ c = .func (.yield l) #[] #[]) :
    OpT P ρ (.call { callee := .value c, args := args, argTypes := argTypes }) ty A fun v w => ∃ x, v = val x ∧ B x w := by
  intro d pos af g w hA
  obtain ⟨fn, tmps, as_, bd, h1, h2⟩ := hc w hA
  have e : (execOp (evalE ρ) ⟨d, .call { callee := .value c, args := args, argTypes := argTypes }, ty, pos, af, g⟩).run P w = .ok (.round l fn tmps as_ bd) w := by
    simp [execOp, resolve, hv, Deferred.ofValue, invoke, h1, go_sem]
  rw [e]
  refine h2.mono ?_
  rintro e w' ⟨x, rfl, hB⟩
  exact ⟨_, rfl, x, rfl, hB⟩
end
def IsRec (rc : LoopState → Option Code → Obj) (N : Nat) (ρ : Env) (ps : Array Tmp) (as_ bd : Code) (D : Nat) : Prop :=
  ∃ fn tmps, tmps.size = N ∧ (∀ i, tmps.getD i undef = ρ.f i) ∧ rc = fun st pe => .loop ⟨st, pe, fn, tmps, ps, as_, bd, D⟩
def midQ (P : Program) (l N : Nat) (rc : LoopState → Option Code → Obj) (bd : Code) (Q : Hnd) : Hnd
  | .normal, ρ, w => w.heap[l]? = some (rc .ready none) ∧ WPA (some l) P N bd Q ρ (fun u => u = w.putObj l (rc .busy none))
  | _, _, _ => False
def rndQ (l : Nat) (rc : LoopState → Option Code → Obj) (R : Bool → World → Prop) : Hnd
  | .normal, _, w => w.heap[l]? = some (rc .busy none) ∧ R true (w.putObj l (rc .ready none))
  | .ret, _, w => w.heap[l]? = some (rc .busy none) ∧ R false (w.putObj l (rc .done (some .ret)))
  | .exit id, _, w => w.heap[l]? = some (rc .busy none) ∧ R false (w.putObj l (rc .done (some (.exit id))))
  | _, _, _ => False
section
variable {P : Program} {w0 : World} {H : HeapP} {L : List (Nat × Obj)} {rc : LoopState → Option Code → Obj}
theorem St.putObj {w : World} {l : Nat} {o : Obj} (h : St w0 H ((l, o) :: L) w) (o' : Obj) : St w0 H ((l, o') :: L) (w.putObj l o') := by
  have hl : l < w.heap.size := (Array.getElem?_eq_some_iff.1 (h.at_ (j := 0) rfl)).1
  refine h.put (j := 0) (b := l) (o := o) (o' := o') rfl (w' := w.putObj l o') (fun k => ?_) (by simp) rfl rfl rfl (Nat.le_refl _)
  by_cases hk : k = l
  · subst hk; rw [if_pos rfl]; exact World.putObj_heap_same hl
  · rw [if_neg hk]; exact World.putObj_heap_other hk
theorem agree2 {N : Nat} {ρ : Env} {p q : Nat} {v u : Value} (tmps : Array Value) (hs : tmps.size = N) (hag : ∀ i, tmps.getD i undef = ρ.f i) :
    Agree N (upd N (upd N ⟨ρ.f, []⟩ p v) q u) { tmps := (#[p, q].zip #[v, u]).foldl (fun t (p, v) => t.setIfInBounds p v) tmps, defers := [] } [] := by
  have h0 : Agree N ⟨ρ.f, []⟩ { tmps := tmps, defers := [] } [] := ⟨hs, hag, rfl⟩
  have := (h0.put (some p) v).put (some q) u
  simpa [Act.put, updO] using this
def jumpQ (Q : Hnd) (ρ : Env) (A : World → Prop) : Option Code → Prop
  | none => QQ Q .normal ρ A
  | some .ret => QQ Q .ret ρ A
  | some (.exit id) => QQ Q (.exit id) ρ A
  | _ => False
end
end Go.Fw
namespace Go.Fw
open Go Go.RowKit
set_option linter.unusedVariables false
set_option linter.unusedSimpArgs false
section
variable {P : Program} {ρ : Env} {A : World → Prop} {ty : TypeId}
theorem P_min {x y : Operand} {ts : Array TypeId} {k : IntKind} {a b : Int} (h1 : evalE ρ x = .int k a) (h2 : evalE ρ y = .int k b) : OpP P ρ (.call { callee := .builtin .min, args := #[x, y], argTypes := ts }) ty A (.int k (min a b)) := by
  intro d pos af g w _
  have e : min a b = if b < a then b else a := by split <;> omega
  rw [e]
  simp [execOp, resolve, invoke, builtin, h1, h2, Builtin.min_, Builtin.min2, go_sem]
end
end Go.Fw
namespace Go.Fw
open Go Go.RowKit
set_option linter.unusedVariables false
set_option linter.unusedSimpArgs false
abbrev Foot := List (Nat × Obj)
abbrev HP := Foot → Prop
def Fits : List HP → List Foot → Prop
  | [], [] => True
  | p :: L, R :: Rs => p R ∧ Fits L Rs
  | _, _ => False
def SL (w0 : World) (I : Foot) (L : List HP) (w : World) : Prop :=
  ∃ (H : HeapP) (Rs : List Foot), (∀ b o, (b, o) ∈ I → H b = some o) ∧ Fits L Rs ∧ St w0 H Rs.flatten w
theorem SL.below {w0 : World} {I : Foot} {L : List HP} {w : World} (h : SL w0 I L w) : Below w0.heap.size w0 w := by
  obtain ⟨H, Rs, _, _, h⟩ := h; exact h.below
theorem SL.drawn {w0 : World} {I : Foot} {L : List HP} {w : World} (h : SL w0 I L w) (k : Nat) (hk : w.drawn ≤ k) : SL w0 I L { w with drawn := k } := by
  obtain ⟨H, Rs, h1, h2, h⟩ := h; exact ⟨H, Rs, h1, h2, h.drawn k hk⟩
theorem SL.sub {w0 : World} {I I' : Foot} {L : List HP} {w : World} (h : SL w0 I L w) (hs : I' ⊆ I) : SL w0 I' L w := by
  obtain ⟨H, Rs, h1, h2, h⟩ := h; exact ⟨H, Rs, fun b o hb => h1 b o (hs hb), h2, h⟩
theorem SL.push {w0 : World} {I : Foot} {L : List HP} {w : World} (h : SL w0 I L w) (o : Obj) (p : HP) (hp : p [(w.heap.size, o)]) : SL w0 I (p :: L) { w with heap := w.heap.push o } := by
  obtain ⟨H, Rs, h1, h2, h⟩ := h
  exact ⟨H, [(w.heap.size, o)] :: Rs, h1, ⟨hp, h2⟩, h.push o⟩
theorem SL.uncons {w0 : World} {I : Foot} {p : HP} {L : List HP} {w : World} (h : SL w0 I (p :: L) w) : ∃ H R Rs, (∀ b o, (b, o) ∈ I → H b = some o) ∧ p R ∧ Fits L Rs ∧ St w0 H (R ++ Rs.flatten) w := by
  obtain ⟨H, Rs, h1, h2, h⟩ := h
  cases Rs with
  | nil => exact h2.elim
  | cons R Rs => exact ⟨H, R, Rs, h1, h2.1, h2.2, h⟩
theorem SL.cons {w0 : World} {I : Foot} {p : HP} {L : List HP} {w : World} {H : HeapP} {R : Foot} {Rs : List Foot} (h1 : ∀ b o, (b, o) ∈ I → H b = some o) (hp : p R) (hf : Fits L Rs) (h : St w0 H (R ++ Rs.flatten) w) : SL w0 I (p :: L) w :=
  ⟨H, R :: Rs, h1, ⟨hp, hf⟩, h⟩
def Ent (L L' : List HP) : Prop := ∀ Rs, Fits L Rs → ∃ Rs' K, Fits L' Rs' ∧ (Rs'.flatten ++ K).Perm Rs.flatten
theorem Ent.sl {L L' : List HP} (e : Ent L L') {w0 : World} {I : Foot} {w : World} (h : SL w0 I L w) : SL w0 I L' w := by
  obtain ⟨H, Rs, h1, h2, h⟩ := h
  obtain ⟨Rs', K, h3, h4⟩ := e Rs h2
  exact ⟨H, Rs', h1, h3, (h.perm h4.symm).drop (List.sublist_append_left ..)⟩
theorem Ent.refl {L : List HP} : Ent L L := fun Rs h => ⟨Rs, [], h, by simp⟩
theorem Ent.trans {L L' L'' : List HP} (h : Ent L L') (k : Ent L' L'') : Ent L L'' := by
  intro Rs hf
  obtain ⟨Rs1, K1, h1, h2⟩ := h Rs hf
  obtain ⟨Rs2, K2, h3, h4⟩ := k Rs1 h1
  refine ⟨Rs2, K2 ++ K1, h3, ?_⟩
  rw [← List.append_assoc]
  exact (h4.append_right K1).trans h2
theorem Ent.cons {p : HP} {L L' : List HP} (h : Ent L L') : Ent (p :: L) (p :: L') := by
  intro Rs hf
  cases Rs with
  | nil => exact hf.elim
  | cons R Rs =>
    obtain ⟨Rs1, K1, h1, h2⟩ := h Rs hf.2
    refine ⟨R :: Rs1, K1, ⟨hf.1, h1⟩, ?_⟩
    simp only [List.flatten_cons, List.append_assoc]
    exact h2.append_left R
theorem Ent.swap {p q : HP} {L : List HP} : Ent (p :: q :: L) (q :: p :: L) := by
  intro Rs hf
  match Rs, hf with
  | R1 :: R2 :: Rs, ⟨h1, h2, h3⟩ =>
    refine ⟨R2 :: R1 :: Rs, [], ⟨h2, h1, h3⟩, ?_⟩
    simp only [List.flatten_cons, List.append_nil]
    rw [← List.append_assoc, ← List.append_assoc]
    exact List.Perm.append_right _ List.perm_append_comm
theorem Ent.drop1 {p : HP} {L : List HP} : Ent (p :: L) L := by
  intro Rs hf
  cases Rs with
  | nil => exact hf.elim
  | cons R Rs => exact ⟨Rs, R, hf.2, by simp only [List.flatten_cons]; exact List.perm_append_comm⟩
theorem Ent.drop {p : HP} {L L' : List HP} (h : Ent L L') : Ent (p :: L) L' := Ent.drop1.trans h
theorem Ent.nil : ∀ {L : List HP}, Ent L []
  | [] => Ent.refl
  | _ :: _ => Ent.drop Ent.nil
def Take (L : List HP) (p : HP) (L' : List HP) : Prop := Ent L (p :: L')
theorem Ent.take {p : HP} {L L1 L' : List HP} (h : Take L p L1) (k : Ent L1 L') : Ent L (p :: L') := h.trans (Ent.cons k)
def exH {α : Type} (p : α → HP) : HP := fun R => ∃ x, p x R
def star (p q : HP) : HP := fun R => ∃ R1 R2, p R1 ∧ q R2 ∧ R = R1 ++ R2
def pureH (φ : Prop) (p : HP) : HP := fun R => φ ∧ p R
theorem Ent.ex {α : Type} {p : α → HP} {L L' : List HP} (x : α) (h : Ent L (p x :: L')) : Ent L (exH p :: L') := by
  intro Rs hf
  obtain ⟨Rs', K, h1, h2⟩ := h Rs hf
  match Rs', h1 with
  | R :: Rs', h1 => exact ⟨R :: Rs', K, ⟨⟨x, h1.1⟩, h1.2⟩, h2⟩
theorem Ent.pure {φ : Prop} {p : HP} {L L' : List HP} (hφ : φ) (h : Ent L (p :: L')) : Ent L (pureH φ p :: L') := by
  intro Rs hf
  obtain ⟨Rs', K, h1, h2⟩ := h Rs hf
  match Rs', h1 with
  | R :: Rs', h1 => exact ⟨R :: Rs', K, ⟨⟨hφ, h1.1⟩, h1.2⟩, h2⟩
theorem Ent.star {p q : HP} {L L' : List HP} (h : Ent L (p :: q :: L')) : Ent L (star p q :: L') := by
  intro Rs hf
  obtain ⟨Rs', K, h1, h2⟩ := h Rs hf
  match Rs', h1 with
  | R1 :: R2 :: Rs', ⟨h1, h3, h4⟩ => exact ⟨(R1 ++ R2) :: Rs', K, ⟨⟨R1, R2, h1, h3, rfl⟩, h4⟩, by simpa using h2⟩
theorem Ent.unstar {p q : HP} {L : List HP} : Ent (Go.Fw.star p q :: L) (p :: q :: L) := by
  intro Rs hf
  match Rs, hf with
  | R :: Rs, ⟨⟨R1, R2, h1, h2, h3⟩, h4⟩ => exact ⟨R1 :: R2 :: Rs, [], ⟨h1, h2, h4⟩, by simp [h3]⟩
theorem Ent.of {p q : HP} {L : List HP} (h : ∀ R, p R → q R) : Ent (p :: L) (q :: L) := by
  intro Rs hf
  match Rs, hf with
  | R :: Rs, ⟨h1, h2⟩ => exact ⟨R :: Rs, [], ⟨h _ h1, h2⟩, by simp⟩
theorem SL.exH {w0 : World} {I : Foot} {L : List HP} {w : World} {α : Type} {p : α → HP} (h : SL w0 I (exH p :: L) w) : ∃ x, SL w0 I (p x :: L) w := by
  obtain ⟨H, R, Rs, h1, ⟨x, hp⟩, h2, h3⟩ := h.uncons
  exact ⟨x, SL.cons h1 hp h2 h3⟩
theorem SL.pureH {w0 : World} {I : Foot} {L : List HP} {w : World} {φ : Prop} {p : HP} (h : SL w0 I (pureH φ p :: L) w) : φ ∧ SL w0 I (p :: L) w := by
  obtain ⟨H, R, Rs, h1, ⟨hφ, hp⟩, h2, h3⟩ := h.uncons
  exact ⟨hφ, SL.cons h1 hp h2 h3⟩
theorem SL.freeze {w0 : World} {I : Foot} {p : HP} {L : List HP} {w : World} (h : SL w0 I (p :: L) w) : ∃ R, p R ∧ SL w0 (R ++ I) L w := by
  obtain ⟨H, R, Rs, h1, hp, h2, h3⟩ := h.uncons
  refine ⟨R, hp, ?_⟩
  have key : ∀ (R : Foot) (H : HeapP) (I : Foot), (∀ b o, (b, o) ∈ I → H b = some o) → St w0 H (R ++ Rs.flatten) w → ∃ H', (∀ b o, (b, o) ∈ R ++ I → H' b = some o) ∧ St w0 H' Rs.flatten w := by
    intro R
    induction R with
    | nil => intro H I h1 h3; exact ⟨H, h1, h3⟩
    | cons q R ih =>
      intro H I h1 h3
      obtain ⟨H1, hle, hb, h4⟩ := St.freeze (b := q.1) (o := q.2) h3
      obtain ⟨H2, h5, h6⟩ := ih H1 ((q.1, q.2) :: I) (fun b o hm => by
        rcases List.mem_cons.1 hm with e | hm
        · cases e; exact hb
        · exact hle _ _ (h1 b o hm)) h4
      refine ⟨H2, fun b o hm => h5 b o ?_, h6⟩
      simp only [List.cons_append, List.mem_cons, List.mem_append] at hm ⊢
      rcases hm with e | hm | hm
      · exact .inr (.inl e)
      · exact .inl hm
      · exact .inr (.inr hm)
  obtain ⟨H', h4, h5⟩ := key R H I h1 h3
  exact ⟨H', Rs, h4, h2, h5⟩
class InSL (A : World → Prop) (w0 : outParam World) (I : outParam Foot) (L : outParam (List HP)) : Prop where
  out : ∀ w, A w → SL w0 I L w
instance {w0 : World} {I : Foot} {L : List HP} : InSL (SL w0 I L) w0 I L := ⟨fun _ h => h⟩
instance {w0 : World} {I : Foot} {L : List HP} : DrC (SL w0 I L) := ⟨fun _ k hk h => h.drawn k hk⟩
def SLd (w0 : World) (I : Foot) (L : List HP) (u w : World) : Prop := SL w0 I L w ∧ ∃ k, u.drawn ≤ k ∧ w = { u with drawn := k }
instance {w0 : World} {I : Foot} {L : List HP} {u : World} : InSL (SLd w0 I L u) w0 I L := ⟨fun _ h => h.1⟩
instance {w0 : World} {I : Foot} {L : List HP} {u : World} : DrC (SLd w0 I L u) := ⟨fun w k hk h => ⟨h.1.drawn k hk, by obtain ⟨_, m, hm, rfl⟩ := h; exact ⟨k, Nat.le_trans hm hk, rfl⟩⟩⟩
section
variable {ro : Option Nat} {P : Program} {n : Nat} {Q : Hnd} {ρ : Env} {A : World → Prop} {ops : Array Oper}
theorem WPA.ofEx {c : Code} {τ : Type} {B : τ → World → Prop} (h : ∀ w, A w → ∃ x, B x w) (k : ∀ x, WPA ro P n c Q ρ (B x)) : WPA ro P n c Q ρ A :=
  fun m a w ha hA => by obtain ⟨x, hB⟩ := h w hA; exact k x m a w ha hB
variable {w0 : World} {I : Foot} {L L' : List HP}
theorem WPA.ent {c : Code} (h : Ent L L') (k : WPA ro P n c Q ρ (SL w0 I L')) : WPA ro P n c Q ρ (SL w0 I L) := WPA.mono (fun _ hw => h.sl hw) k
theorem QQ.ent {e : Exit} (h : Ent L L') (k : QQ Q e ρ (SL w0 I L')) : QQ Q e ρ (SL w0 I L) := fun w hw => k w (h.sl hw)
theorem WPA.freeze {c : Code} {p : HP} (k : ∀ R, p R → WPA ro P n c Q ρ (SL w0 (R ++ I) L)) : WPA ro P n c Q ρ (SL w0 I (p :: L)) := fun m a w ha hA => by
  obtain ⟨R, hp, h⟩ := hA.freeze; exact k R hp m a w ha h
theorem QQ.freeze {e : Exit} {p : HP} (k : ∀ R, p R → QQ Q e ρ (SL w0 (R ++ I) L)) : QQ Q e ρ (SL w0 I (p :: L)) := fun w hA => by
  obtain ⟨R, hp, h⟩ := hA.freeze; exact k R hp w h
end
theorem TrP.ofD {P : Program} {f : FuncId} {args : Array Value} {v : Value} {w0 : World} {I : Foot} {L : List HP} (h : ∀ u, Tr P f args (SLd w0 I L u) (fun _ : Unit => v) (fun _ => SLd w0 I L u)) : TrP P f args (SL w0 I L) v := by
  intro w hA
  refine (h w w ⟨hA, w.drawn, Nat.le_refl _, rfl⟩).mono ?_
  rintro e w' ⟨_, rfl, _, k, hk, rfl⟩
  exact ⟨rfl, k, hk, rfl⟩
theorem Tr.ent {P : Program} {f : FuncId} {args : Array Value} {A : World → Prop} {w0 : World} {I : Foot} {L L' : List HP} [hi : InSL A w0 I L] {τ : Type} {val : τ → Value} {B : τ → World → Prop} (h : Tr P f args (SL w0 I L') val B) (e : Ent L L') : Tr P f args A val B :=
  fun w hA => h w (e.sl (hi.out w hA))
section
variable {P : Program} {f : FuncId} {args : Array Value} {v : Value} {w0 : World} {I : Foot} {L L' : List HP} {τ : Type} {val : τ → Value} {B : τ → World → Prop}
theorem Tr.at (e : Ent L L') (h : Tr P f args (SL w0 I L') val B) : Tr P f args (SL w0 I L) val B := fun w hw => h w (e.sl hw)
end
class Opn (p : HP) (α : outParam Type) (ps : outParam (α → List HP → List HP)) : Prop where
  out : ∀ w0 I L w, SL w0 I (p :: L) w → ∃ x, SL w0 I (ps x L) w
section
variable {P : Program} {f : FuncId} {args : Array Value} {v : Value} {w0 : World} {I : Foot} {L : List HP} {τ : Type} {val : τ → Value} {B : τ → World → Prop} {p : HP} {α : Type} {ps : α → List HP → List HP}
theorem Tr.opn [o : Opn p α ps] (h : ∀ x, Tr P f args (SL w0 I (ps x L)) val B) : Tr P f args (SL w0 I (p :: L)) val B := fun w hw => by obtain ⟨x, hx⟩ := o.out _ _ _ _ hw; exact h x w hx
variable {ro : Option Nat} {n : Nat} {Q : Hnd} {ρ : Env} {ops : Array Oper}
theorem WPA.opn {c : Code} [o : Opn p α ps] (h : ∀ x, WPA ro P n c Q ρ (SL w0 I (ps x L))) : WPA ro P n c Q ρ (SL w0 I (p :: L)) := WPA.ofEx (fun w hw => o.out _ _ _ _ hw) h
end
end Go.Fw
namespace Go.Fw
open Go Go.RowKit
set_option linter.unusedVariables false
set_option linter.unusedSimpArgs false
structure SV where
  a : Option Addr
  n : Nat
  cap : Nat
def SV.nil : SV := ⟨none, 0, 0⟩
@[reducible] def SV.v (s : SV) : Value := .slice s.a s.n s.cap
class Enc (α : Type) where
  sz : Nat
  cells : α → List Value
  dflt : α
  len : ∀ x, (cells x).length = sz
  one : ∀ x, ∀ u ∈ cells x, u.oneCell' = true
  pos : 0 < sz
def KInt (_ : IntKind) : Type := Int
def Any : Type := { v : Value // v.oneCell' = true }
instance : Enc Int := ⟨1, fun x => [.int .i64 x], 0, fun _ => rfl, by simp [Value.oneCell'], by decide⟩
instance {k : IntKind} : Enc (KInt k) := ⟨1, fun x => [.int k x], (0 : Int), fun _ => rfl, by simp [Value.oneCell'], by decide⟩
instance : Enc ByteArray := ⟨1, fun x => [.string x], ⟨#[]⟩, fun _ => rfl, by simp [Value.oneCell'], by decide⟩
instance : Enc SV := ⟨1, fun x => [.slice x.a x.n x.cap], SV.nil, fun _ => rfl, by simp [Value.oneCell'], by decide⟩
instance {α β : Type} [Enc α] [Enc β] : Enc (α × β) :=
  ⟨Enc.sz α + Enc.sz β, fun x => Enc.cells x.1 ++ Enc.cells x.2, (Enc.dflt, Enc.dflt), fun x => by rw [List.length_append, Enc.len, Enc.len],
   fun x u hu => by exact (List.mem_append.1 hu).elim (Enc.one _ _) (Enc.one _ _), by have := Enc.pos (α := α); omega⟩
def flat {α : Type} [Enc α] (xs : List α) : List Value := xs.flatMap Enc.cells
def at_ {α : Type} [Enc α] (xs : List α) (i : Int) : α := xs.getD i.toNat Enc.dflt
theorem at_nat {α : Type} [Enc α] (xs : List α) (i : Nat) (h : i < xs.length) : at_ xs (i : Int) = xs[i] := by
  simp [at_, List.getD_eq_getElem?_getD, h]
theorem flat_len {α : Type} [Enc α] (xs : List α) : (flat xs).length = xs.length * Enc.sz α := by
  induction xs with
  | nil => simp [flat]
  | cons x xs ih => simp only [flat, List.flatMap_cons, List.length_append, Enc.len, List.length_cons] at *; rw [ih, Nat.add_mul]; omega
theorem flat_append {α : Type} [Enc α] (xs ys : List α) : flat (xs ++ ys) = flat xs ++ flat ys := by simp [flat]
theorem flat_get {α : Type} [Enc α] : ∀ (xs : List α) (i k : Nat) (v : Value), i < xs.length → (Enc.cells (xs.getD i Enc.dflt))[k]? = some v → (flat xs)[i * Enc.sz α + k]? = some v
  | [], i, k, v, h, _ => by simp at h
  | x :: xs, 0, k, v, _, h => by
    simp only [List.getD_cons_zero] at h
    simp only [flat, List.flatMap_cons, Nat.zero_mul, Nat.zero_add]
    rw [List.getElem?_append_left (List.getElem?_eq_some_iff.1 h).1]; exact h
  | x :: xs, i + 1, k, v, hi, h => by
    simp only [List.getD_cons_succ] at h
    have := flat_get xs i k v (by simpa using hi) h
    simp only [flat, List.flatMap_cons]
    rw [List.getElem?_append_right (by rw [Enc.len, Nat.add_mul]; omega), Enc.len]
    have e : (i + 1) * Enc.sz α + k - Enc.sz α = i * Enc.sz α + k := by rw [Nat.add_mul]; omega
    rw [e]; exact this
theorem flat_one' {α : Type} [Enc α] (xs : List α) : ∀ u ∈ flat xs, u.oneCell' = true := by
  intro u hu
  obtain ⟨x, _, hx⟩ := List.mem_flatMap.1 hu
  exact Enc.one _ _ hx
theorem flat_set {α : Type} [Enc α] : ∀ (xs : List α) (i k : Nat) (y : α) (vs : List Value), i < xs.length → k + vs.length ≤ Enc.sz α → Enc.cells y = (Enc.cells (xs.getD i Enc.dflt)).take k ++ vs ++ (Enc.cells (xs.getD i Enc.dflt)).drop (k + vs.length) →
    flat (xs.set i y) = (flat xs).take (i * Enc.sz α + k) ++ vs ++ (flat xs).drop (i * Enc.sz α + k + vs.length)
  | [], i, k, y, vs, h, _, _ => by simp at h
  | x :: xs, 0, k, y, vs, _, hk, h => by
    simp only [List.getD_cons_zero] at h
    simp only [flat, List.set_cons_zero, List.flatMap_cons, h, Nat.zero_mul, Nat.zero_add]
    have hx := Enc.len x
    rw [List.take_append_of_le_length (by omega), List.drop_append_of_le_length (by omega)]
    simp
  | x :: xs, i + 1, k, y, vs, hi, hk, h => by
    simp only [List.getD_cons_succ] at h
    have := flat_set xs i k y vs (by simpa using hi) hk h
    simp only [flat, List.set_cons_succ, List.flatMap_cons] at this ⊢
    rw [this]
    have e : (i + 1) * Enc.sz α + k = (Enc.cells x).length + (i * Enc.sz α + k) := by rw [Enc.len, Nat.add_mul]; omega
    have e2 : (Enc.cells x).length + (i * Enc.sz α + k) + vs.length = (Enc.cells x).length + (i * Enc.sz α + k + vs.length) := by omega
    rw [e, e2, List.take_length_add_append, List.drop_length_add_append]
    simp [List.append_assoc]
def Bk (b : Nat) (t : TypeId) (cs : List Value) : HP := fun R => R = [(b, .cells cs.toArray t (0, 0))]
def Ob (b : Nat) (o : Obj) : HP := fun R => R = [(b, o)]
def OwnS {α : Type} [Enc α] (e : TypeId) (s : SV) (xs : List α) : HP := fun R => OwnR e (Enc.sz α) (.slice s.a s.n s.cap) s.n (flat xs) R
def LitS {α : Type} [Enc α] (e : TypeId) (s : SV) (xs : List α) : HP := OwnS e s xs
def eAddr (s : SV) (sz : Nat) (i : Int) (k : Nat) : Addr := ⟨(s.a.getD ⟨0, 0, none⟩).block, (s.a.getD ⟨0, 0, none⟩).off + i.toNat * sz + k, none⟩
structure RdW {α : Type} [Enc α] (w : World) (s : SV) (xs : List α) : Prop where
  len : s.n = xs.length
  cap : s.n ≤ s.cap
  plain : s.n = 0 ∨ ∃ b o, s.a = some ⟨b, o, none⟩
  cells : ∀ i k v, i < xs.length → (Enc.cells (xs.getD i Enc.dflt))[k]? = some v → w.cell? (eAddr s (Enc.sz α) (i : Int) k) = some v
theorem OwnR.rdW {α : Type} [Enc α] {e : TypeId} {s : SV} {xs : List α} {R : Foot} (h : OwnR e (Enc.sz α) (.slice s.a s.n s.cap) s.n (flat xs) R) {w : World} (hw : ∀ b o, (b, o) ∈ R → w.heap[b]? = some o) : RdW w s xs := by
  have hp := Enc.pos (α := α)
  have hn : s.n = xs.length := by
    have h1 := h.1
    rw [flat_len] at h1
    exact (Nat.eq_of_mul_eq_mul_right hp h1).symm
  rcases h.2 with ⟨h1, h2, h3⟩ | ⟨g, cap, cur, h1, h2, h3, h4, h5, h6⟩
  · cases s with
    | mk a n c =>
      cases h1
      exact ⟨hn, Nat.le_refl _, .inl rfl, fun i k v hi => by simp only at hn; omega⟩
  · cases s with
    | mk a n c =>
      cases h1
      refine ⟨hn, h2, .inr ⟨g, 0, rfl⟩, fun i k v hi hv => ?_⟩
      have hk : k < Enc.sz α := by have := (List.getElem?_eq_some_iff.1 hv).1; rwa [Enc.len] at this
      have hg := flat_get xs i k v hi hv
      rw [← h5, List.getElem?_take] at hg
      split at hg
      · have := hw g _ (by rw [h6]; exact List.mem_singleton.2 rfl)
        simp only [eAddr, Option.getD_some, World.cell?, this, Int.toNat_natCast, Nat.zero_add]
        simpa using hg
      · cases hg
theorem OwnR.len {α : Type} [Enc α] {e : TypeId} {s : SV} {xs : List α} {R : Foot} (h : OwnR e (Enc.sz α) (.slice s.a s.n s.cap) s.n (flat xs) R) : s.n = xs.length := by
  have h1 := h.1
  rw [flat_len] at h1
  exact (Nat.eq_of_mul_eq_mul_right (Enc.pos (α := α)) h1).symm
class SlI (I : Foot) (s : SV) (α : outParam Type) (e : outParam (Enc α)) (xs : outParam (List α)) : Prop where
  out : ∀ w : World, (∀ b o, (b, o) ∈ I → w.heap[b]? = some o) → RdW w s xs
class RdS (I : Foot) (L : List HP) (s : SV) (α : outParam Type) (e : outParam (Enc α)) (xs : outParam (List α)) : Prop where
  out : ∀ w0 w, SL w0 I L w → RdW w s xs
class OwnIn (L : List HP) (s : SV) (α : outParam Type) (e : outParam (Enc α)) (xs : outParam (List α)) : Prop where
  out : ∀ I w0 w, SL w0 I L w → RdW w s xs
instance SlI.left {R I : Foot} {s : SV} {α : Type} {e : Enc α} {xs : List α} [h : SlI R s α e xs] : SlI (R ++ I) s α e xs := ⟨fun w hw => h.out w fun b o hb => hw b o (List.mem_append_left _ hb)⟩
instance SlI.right {R I : Foot} {s : SV} {α : Type} {e : Enc α} {xs : List α} [h : SlI I s α e xs] : SlI (R ++ I) s α e xs := ⟨fun w hw => h.out w fun b o hb => hw b o (List.mem_append_right _ hb)⟩
theorem SL.mem {w0 : World} {I : Foot} {L : List HP} {w : World} (h : SL w0 I L w) (b : Nat) (o : Obj) (hb : (b, o) ∈ I) : w.heap[b]? = some o := by
  obtain ⟨H, Rs, h1, _, h⟩ := h; exact h.imm _ _ (h1 _ _ hb)
theorem SL.heap {w0 : World} {I : Foot} {p : HP} {L : List HP} {w : World} (h : SL w0 I (p :: L) w) : ∃ R, p R ∧ ∀ b o, (b, o) ∈ R → w.heap[b]? = some o := by
  obtain ⟨H, R, Rs, h1, hp, h2, h3⟩ := h.uncons
  exact ⟨R, hp, fun b o hb => (h3.own (b, o) (List.mem_append_left _ hb)).1⟩
instance RdS.lower {I R : Foot} {L : List HP} {s : SV} {α : Type} {e : Enc α} {xs : List α} [h : RdS I L s α e xs] : RdS (R ++ I) L s α e xs := ⟨fun w0 w hw => h.out w0 w (hw.sub (List.subset_append_right ..))⟩
instance RdS.tail {I : Foot} {L : List HP} {p : HP} {s : SV} {α : Type} {e : Enc α} {xs : List α} [h : RdS I L s α e xs] : RdS I (p :: L) s α e xs := ⟨fun w0 w hw => h.out w0 w (Ent.drop1.sl hw)⟩
instance RdS.own {I : Foot} {L : List HP} {s : SV} {α : Type} {e : Enc α} {xs : List α} [h : OwnIn L s α e xs] : RdS I L s α e xs := ⟨fun w0 w hw => h.out I w0 w hw⟩
instance RdS.imm {I : Foot} {L : List HP} {s : SV} {α : Type} {e : Enc α} {xs : List α} [h : SlI I s α e xs] : RdS I L s α e xs := ⟨fun w0 w hw => h.out w fun b o hb => hw.mem b o hb⟩
instance OwnIn.tail {L : List HP} {p : HP} {s : SV} {α : Type} {e : Enc α} {xs : List α} [h : OwnIn L s α e xs] : OwnIn (p :: L) s α e xs := ⟨fun I w0 w hw => h.out I w0 w (Ent.drop1.sl hw)⟩
instance OwnIn.here {L : List HP} {t : TypeId} {s : SV} {α : Type} {e : Enc α} {xs : List α} : OwnIn (OwnS t s xs :: L) s α e xs := ⟨fun I w0 w hw => by
  obtain ⟨R, hp, h⟩ := hw.heap; exact OwnR.rdW hp h⟩
instance OwnIn.lit {L : List HP} {t : TypeId} {s : SV} {α : Type} {e : Enc α} {xs : List α} : OwnIn (LitS t s xs :: L) s α e xs := ⟨fun I w0 w hw => by
  obtain ⟨R, hp, h⟩ := hw.heap; exact OwnR.rdW hp h⟩
theorem SlI.ofOwn {α : Type} [e : Enc α] {t : TypeId} {s : SV} {xs : List α} {R : Foot} (h : OwnS t s xs R) : SlI R s α e xs := ⟨fun w hw => OwnR.rdW h hw⟩
theorem SlI.nil {I : Foot} {α : Type} [e : Enc α] : SlI I SV.nil α e [] := ⟨fun w hw => ⟨rfl, Nat.le_refl _, .inl rfl, fun i k v hi => by simp at hi⟩⟩
theorem Ent.ownNil {α : Type} [Enc α] {t : TypeId} {L L' : List HP} (h : Ent L L') : Ent L (OwnS t SV.nil ([] : List α) :: L') := by
  intro Rs hf
  obtain ⟨Rs', K, h1, h2⟩ := h Rs hf
  refine ⟨[] :: Rs', K, ⟨?_, h1⟩, by simpa using h2⟩
  exact ⟨by simp [flat, SV.nil], .inl ⟨rfl, rfl, rfl⟩⟩
class IsN (a : Nat) (b : outParam Nat) : Prop where
  out : a = b
instance {a : Nat} : IsN a a := ⟨rfl⟩
class GetL (l : List Value) (k : Nat) (v : outParam Value) : Prop where
  out : l[k]? = some v
instance {l : List Value} {v : Value} {k : Nat} [h : IsN k 0] : GetL (v :: l) k v := ⟨by rw [h.out]; rfl⟩
instance {l : List Value} {u v : Value} {k : Nat} [h : GetL l k v] : GetL (u :: l) (k + 1) v := ⟨by simpa using h.out⟩
class SetL (l : List Value) (k : Nat) (v : Value) (l' : outParam (List Value)) : Prop where
  out : l.set k v = l' ∧ k < l.length
instance {l : List Value} {u v : Value} {k : Nat} [h : IsN k 0] : SetL (u :: l) k v (v :: l) := ⟨by rw [h.out]; rfl, by rw [h.out]; simp⟩
instance {l l' : List Value} {u v : Value} {k : Nat} [h : SetL l k v l'] : SetL (u :: l) (k + 1) v (u :: l') := ⟨by simp [h.out.1], by simpa using h.out.2⟩
class FirstL (l : List Value) (n : Nat) (l1 l2 : outParam (List Value)) : Prop where
  out : l = l1 ++ l2 ∧ l1.length = n
instance {l : List Value} {k : Nat} [h : IsN k 0] : FirstL l k [] l := ⟨rfl, by rw [h.out]; rfl⟩
instance {l l1 l2 : List Value} {u : Value} {n : Nat} [h : FirstL l n l1 l2] : FirstL (u :: l) (n + 1) (u :: l1) l2 := ⟨by rw [h.out.1]; rfl, by simp [h.out.2]⟩
class PutL (l : List Value) (k : Nat) (vs : List Value) (l' : outParam (List Value)) : Prop where
  out : l' = l.take k ++ vs ++ l.drop (k + vs.length) ∧ k + vs.length ≤ l.length
instance {l : List Value} {k : Nat} [h : IsN k 0] : PutL l k [] l := ⟨by rw [h.out]; simp, by rw [h.out]; simp⟩
instance {l l' vs : List Value} {u v : Value} {k : Nat} [hk : IsN k 0] [h : PutL l 0 vs l'] : PutL (u :: l) k (v :: vs) (v :: l') := ⟨by rw [hk.out, h.out.1]; simp, by have := h.out.2; rw [hk.out]; simp at this ⊢; omega⟩
instance {l l' vs : List Value} {u : Value} {k : Nat} [h : PutL l k vs l'] : PutL (u :: l) (k + 1) vs (u :: l') := ⟨by rw [h.out.1]; simp [Nat.add_right_comm], by have := h.out.2; simp at this ⊢; omega⟩
class AppL (l1 l2 : List Value) (l : outParam (List Value)) : Prop where
  out : l1 ++ l2 = l
instance {l : List Value} : AppL [] l l := ⟨rfl⟩
instance {l1 l2 l : List Value} {u : Value} [h : AppL l1 l2 l] : AppL (u :: l1) l2 (u :: l) := ⟨by rw [← h.out]; rfl⟩
class CellsL (α : Type) [Enc α] (x : α) (l : outParam (List Value)) : Prop where
  out : Enc.cells x = l
instance {x : Int} : CellsL Int x [.int .i64 x] := ⟨rfl⟩
def ofK {k : IntKind} (x : KInt k) : Int := x
instance {k : IntKind} {x : KInt k} : CellsL (KInt k) x [.int k (ofK x)] := ⟨rfl⟩
instance {x : ByteArray} : CellsL ByteArray x [.string x] := ⟨rfl⟩
instance {x : SV} : CellsL SV x [.slice x.a x.n x.cap] := ⟨rfl⟩
instance (priority := 900) {α β : Type} [Enc α] [Enc β] {x : α × β} {l1 l2 l : List Value} [h1 : CellsL α x.1 l1] [h2 : CellsL β x.2 l2] [h : AppL l1 l2 l] : CellsL (α × β) x l := ⟨by rw [← h.out, ← h1.out, ← h2.out]; rfl⟩
class SzIs (α : Type) [Enc α] (n : outParam Nat) : Prop where
  out : Enc.sz α = n
instance : SzIs Int 1 := ⟨rfl⟩
instance {k : IntKind} : SzIs (KInt k) 1 := ⟨rfl⟩
instance : SzIs ByteArray 1 := ⟨rfl⟩
instance : SzIs SV 1 := ⟨rfl⟩
instance {α β : Type} [Enc α] [Enc β] {m n k : Nat} [h1 : SzIs α m] [h2 : SzIs β n] [h : IsN (m + n) k] : SzIs (α × β) k := ⟨by rw [← h.out, ← h1.out, ← h2.out]; rfl⟩
class Dec (α : Type) [Enc α] (l : List Value) (y : outParam α) : Prop where
  out : Enc.cells y = l
instance {x : Int} : Dec Int [.int .i64 x] x := ⟨rfl⟩
def toK (k : IntKind) (x : Int) : KInt k := x
instance {k : IntKind} {x : Int} : Dec (KInt k) [.int k x] (toK k x) := ⟨rfl⟩
instance {x : ByteArray} : Dec ByteArray [.string x] x := ⟨rfl⟩
instance {x : SV} : Dec SV [.slice x.a x.n x.cap] x := ⟨rfl⟩
instance : Dec SV [.slice none 0 0] SV.nil := ⟨rfl⟩
instance {α β : Type} [Enc α] [Enc β] {n : Nat} {l l1 l2 : List Value} {a : α} {b : β} [hs : SzIs α n] [hf : FirstL l n l1 l2] [h1 : Dec α l1 a] [h2 : Dec β l2 b] : Dec (α × β) l (a, b) := ⟨by rw [hf.out.1, ← h1.out, ← h2.out]; rfl⟩
class CellsV (v : Value) (l : outParam (List Value)) : Prop where
  out : v.cells = l.toArray ∧ (∀ u ∈ l, u.oneCell' = true)
instance {k : IntKind} {x : Int} : CellsV (.int k x) [.int k x] := ⟨rfl, by simp [Value.oneCell']⟩
instance {x : ByteArray} : CellsV (.string x) [.string x] := ⟨rfl, by simp [Value.oneCell']⟩
instance {x : Option Addr} : CellsV (.pointer x) [.pointer x] := ⟨rfl, by simp [Value.oneCell']⟩
instance {x : Option Addr} {n c : Nat} : CellsV (.slice x n c) [.slice x n c] := ⟨rfl, by simp [Value.oneCell']⟩
instance {f : Fn} {x y : Array Value} : CellsV (.func f x y) [.func f x y] := ⟨rfl, by simp [Value.oneCell']⟩
instance : CellsV .nilFunc [.nilFunc] := ⟨rfl, by simp [Value.oneCell']⟩
class OnesL (l : List Value) : Prop where
  out : ∀ u ∈ l, u.oneCell' = true
instance : OnesL [] := ⟨by simp⟩
instance {v : Value} {l : List Value} [h1 : CellsV v [v]] [h : OnesL l] : OnesL (v :: l) := ⟨by
  intro u hu; rcases List.mem_cons.1 hu with rfl | hu
  · exact h1.out.2 _ (List.mem_singleton.2 rfl)
  · exact h.out _ hu⟩
instance {l : List Value} [h : OnesL l] : CellsV (.agg l.toArray) l := ⟨rfl, h.out⟩
class FindBk (L : List HP) (b : Nat) (t : outParam TypeId) (cs : outParam (List Value)) (L' : outParam (List HP)) : Prop where
  out : Ent L (Bk b t cs :: L')
instance {L : List HP} {b : Nat} {t : TypeId} {cs : List Value} : FindBk (Bk b t cs :: L) b t cs L := ⟨Ent.refl⟩
instance (priority := 900) {L L' : List HP} {p : HP} {b : Nat} {t : TypeId} {cs : List Value} [h : FindBk L b t cs L'] : FindBk (p :: L) b t cs (p :: L') := ⟨(Ent.cons h.out).trans Ent.swap⟩
class FindOwn (L : List HP) (s : SV) (t : outParam TypeId) (α : outParam Type) (e : outParam (Enc α)) (xs : outParam (List α)) (L' : outParam (List HP)) : Prop where
  out : Ent L (OwnS t s xs :: L')
instance {L : List HP} {s : SV} {t : TypeId} {α : Type} {e : Enc α} {xs : List α} : FindOwn (OwnS t s xs :: L) s t α e xs L := ⟨Ent.refl⟩
instance (priority := 900) {L L' : List HP} {p : HP} {s : SV} {t : TypeId} {α : Type} {e : Enc α} {xs : List α} [h : FindOwn L s t α e xs L'] : FindOwn (p :: L) s t α e xs (p :: L') := ⟨(Ent.cons h.out).trans Ent.swap⟩
instance {L : List HP} {s : SV} {t : TypeId} {α : Type} {e : Enc α} {xs : List α} : FindOwn (LitS t s xs :: L) s t α e xs L := ⟨Ent.refl⟩
class FindLit (L : List HP) (s : SV) (t : outParam TypeId) (α : outParam Type) (e : outParam (Enc α)) (xs : outParam (List α)) (L' : outParam (List HP)) : Prop where
  out : Ent L (LitS t s xs :: L')
instance {L : List HP} {s : SV} {t : TypeId} {α : Type} {e : Enc α} {xs : List α} : FindLit (LitS t s xs :: L) s t α e xs L := ⟨Ent.refl⟩
instance (priority := 900) {L L' : List HP} {p : HP} {s : SV} {t : TypeId} {α : Type} {e : Enc α} {xs : List α} [h : FindLit L s t α e xs L'] : FindLit (p :: L) s t α e xs (p :: L') := ⟨(Ent.cons h.out).trans Ent.swap⟩
end Go.Fw
namespace Go.Fw
open Go Go.RowKit
set_option linter.unusedVariables false
set_option linter.unusedSimpArgs false
class IsB (a b : Bool) : Prop where
  out : a = b
instance {a : Bool} : IsB a a := ⟨rfl⟩
class EvT (ρ : Env) (t : Nat) (v : outParam Value) : Prop where
  out : ρ.f t = v
class EvL (l : List Value) (t : Nat) (v : outParam Value) : Prop where
  out : l.getD t undef = v
instance {v : Value} {l : List Value} : EvL (v :: l) 0 v := ⟨rfl⟩
instance {u v : Value} {l : List Value} {t : Nat} [h : EvL l t v] : EvL (u :: l) (t + 1) v := ⟨by simpa using h.out⟩
instance {l : List Value} {t : Nat} {v : Value} [h : EvL l t v] : EvT (envOf l) t v := ⟨h.out⟩
def put1 (ρ : Env) (d : Nat) (v : Value) : Env := ⟨fun i => bif Nat.beq i d then v else ρ.f i, ρ.ms⟩
theorem upd_put1 {n d : Nat} (h : Nat.blt d n = true) (ρ : Env) (v : Value) : upd n ρ d v = put1 ρ d v := by
  unfold upd put1
  congr 1
  funext i
  rw [h, Bool.and_true]
instance EvT.there {ρ : Env} {d t : Nat} {u v : Value} [hn : IsB (Nat.beq t d) false] [h : EvT ρ t v] : EvT (put1 ρ d u) t v := ⟨by simp only [put1, hn.out]; exact h.out⟩
instance (priority := 1100) EvT.here {ρ : Env} {d : Nat} {v : Value} : EvT (put1 ρ d v) d v := ⟨by simp [put1]⟩
instance {ρ : Env} {l : List Nat} {t : Nat} {v : Value} [h : EvT ρ t v] : EvT (envM l ρ) t v := ⟨h.out⟩
instance EvT.lthere {ρ : Env} {d t : Nat} {u v : Value} {l : List (Nat × Value)} [hn : IsB (Nat.beq t d) false] [h : EvT (envL l ρ) t v] : EvT (envL ((d, u) :: l) ρ) t v := ⟨by simp only [envL, hn.out]; exact h.out⟩
instance (priority := 1100) EvT.lhere {ρ : Env} {d : Nat} {v : Value} {l : List (Nat × Value)} : EvT (envL ((d, v) :: l) ρ) d v := ⟨by simp [envL]⟩
class Ev (ρ : Env) (x : Operand) (v : outParam Value) : Prop where
  out : evalE ρ x = v
instance {ρ : Env} {t : Nat} {v : Value} [h : EvT ρ t v] : Ev ρ (.tmp t) v := ⟨h.out⟩
instance {ρ : Env} {v : Value} : Ev ρ (.const v) v := ⟨rfl⟩
instance (priority := 1100) {ρ : Env} : Ev ρ (.const (.slice none 0 0)) (.slice SV.nil.a SV.nil.n SV.nil.cap) := ⟨rfl⟩
instance {ρ : Env} {f : FuncId} : Ev ρ (.func f) (.func (.func f) #[] #[]) := ⟨rfl⟩
class EvAll (ρ : Env) (xs : List Operand) (vs : outParam (List Value)) : Prop where
  out : xs.map (evalE ρ) = vs
instance {ρ : Env} : EvAll ρ [] [] := ⟨rfl⟩
instance {ρ : Env} {x : Operand} {xs : List Operand} {v : Value} {vs : List Value} [h : Ev ρ x v] [k : EvAll ρ xs vs] : EvAll ρ (x :: xs) (v :: vs) := ⟨by rw [List.map_cons, h.out, k.out]⟩
class Und (P : Program) (t : TypeId) (d : outParam TypeDesc) : Prop where
  out : P.underlying t = some d
class Inf (P : Program) (t : TypeId) (z : outParam (List Value)) (size bytes : outParam Nat) : Prop where
  out : (P.info? t).map (fun i => (i.zero.map (·.cells), i.size, i.bytes)) = some (some z.toArray, size, bytes)
class One (P : Program) (t : TypeId) : Prop where
  out : oneTy P t = true
class Agg (P : Program) (t : TypeId) (n : outParam Nat) : Prop where
  out : aggTy P t = some n
class FieldO (P : Program) (s : TypeId) (f : Nat) (off : outParam Nat) : Prop where
  out : fieldOff P s f = some off
class Callb (P : Program) (f : FuncId) : Prop where
  out : callable P f = true
class Phys (P : Program) (t : TypeId) (α : outParam Type) (e : outParam (Enc α)) : Prop where
  out : True
theorem Inf.size {P : Program} {t : TypeId} {z : List Value} {n m : Nat} (h : Inf P t z n m) : (P.info? t).map (·.size) = some n := by
  obtain ⟨i, h1, h2⟩ := Option.map_eq_some_iff.1 h.out
  rw [h1]; simp only [Prod.mk.injEq] at h2; simp [h2.2.1]
theorem Inf.zero {P : Program} {t : TypeId} {z : List Value} {n m : Nat} (h : Inf P t z n m) : ∃ z', (P.info? t).bind (·.zero) = some z' ∧ z'.cells = z.toArray ∧ (P.info? t).map (fun i => (i.zero, i.size, i.bytes)) = some (some z', n, m) := by
  obtain ⟨i, h1, h2⟩ := Option.map_eq_some_iff.1 h.out
  simp only [Prod.mk.injEq] at h2
  obtain ⟨z', h3, h4⟩ := Option.map_eq_some_iff.1 h2.1
  exact ⟨z', by rw [h1]; exact h3, h4, by rw [h1]; simp [h3, h2.2.1, h2.2.2]⟩
theorem fold_put (vs : List Value) : ∀ (cs : List Value) (i : Nat), i + vs.length ≤ cs.length → ((vs.foldl (fun (p : Array Value × Nat) v => (p.1.setIfInBounds p.2 v, p.2 + 1)) (cs.toArray, i)).1) = (cs.take i ++ vs ++ cs.drop (i + vs.length)).toArray := by
  induction vs with
  | nil => intro cs i h; simp
  | cons v vs ih =>
    intro cs i h
    simp only [List.length_cons] at h
    simp only [List.foldl_cons]
    have e : cs.toArray.setIfInBounds i v = (cs.set i v).toArray := by simp
    rw [e, ih _ _ (by simp; omega)]
    congr 1
    apply List.ext_getElem?
    intro q
    simp only [List.length_cons, List.getElem?_append, List.length_append, List.length_take, List.length_set, List.getElem?_take, List.getElem?_set, List.getElem?_drop, List.getElem?_cons]
    rcases Nat.lt_trichotomy q i with hq | hq | hq
    · simp only [show q < min (i + 1) cs.length + vs.length by omega, show q < min (i + 1) cs.length by omega, show q < i + 1 by omega, show q < min i cs.length + (vs.length + 1) by omega, show q < min i cs.length by omega, if_true, show i ≠ q by omega, hq, if_false]
    · subst hq
      simp only [show q < min (q + 1) cs.length + vs.length by omega, show q < min (q + 1) cs.length by omega, show q < q + 1 by omega, show q < min q cs.length + (vs.length + 1) by omega, show ¬ q < min q cs.length by omega, if_true, show q < cs.length by omega, if_false, show q - min q cs.length = 0 by omega]
    · simp only [show ¬ q < min i cs.length by omega, show ¬ q < min (i + 1) cs.length by omega, if_false, show ¬ q - min i cs.length = 0 by omega, show min (i + 1) cs.length = i + 1 by omega, show min i cs.length = i by omega]
      by_cases h2 : q < i + 1 + vs.length
      · simp only [h2, if_true, show q < i + (vs.length + 1) by omega, show q - (i + 1) = q - i - 1 by omega, show ¬ q < i + 1 by omega, show ¬ q < i by omega, show ¬ q - i = 0 by omega, if_false]
      · simp only [h2, if_false, show ¬ q < i + (vs.length + 1) by omega, show i + 1 + vs.length + (q - (i + 1 + vs.length)) = q by omega, show i + (vs.length + 1) + (q - (i + (vs.length + 1))) = q by omega, show i ≠ q by omega]
theorem fold_zip (vs : List Value) : ∀ (cs : List Value) (o j : Nat), o + j + vs.length ≤ cs.length → ((vs.zipIdx j).foldl (fun (cs : Array Value) (x : Value × Nat) => cs.setIfInBounds (o + x.2) x.1) cs.toArray) = (cs.take (o + j) ++ vs ++ cs.drop (o + j + vs.length)).toArray := by
  intro cs o j h
  rw [← fold_put vs cs (o + j) h]
  induction vs generalizing cs j with
  | nil => simp
  | cons v vs ih =>
    simp only [List.length_cons] at h
    simp only [List.zipIdx_cons, List.foldl_cons]
    have e : cs.toArray.setIfInBounds (o + j) v = (cs.set (o + j) v).toArray := by simp
    rw [e, ih _ (j + 1) (by simp; omega)]
    rfl
theorem fold_zip0 (l cs : List Value) (o : Nat) (h : o + l.length ≤ cs.length) : Array.foldl (fun (cs : Array Value) (x : Value × Nat) => cs.setIfInBounds (o + x.2) x.1) cs.toArray l.toArray.zipIdx = (cs.take o ++ l ++ cs.drop (o + l.length)).toArray := by
  have := fold_zip l cs o 0 (by omega)
  simp only [Nat.add_zero] at this
  rw [← this, ← Array.foldl_toList, Array.toList_zipIdx]
class OpM (P : Program) (ρ : Env) (A : World → Prop) (op : Op) (ty : TypeId) (v : outParam Value) (S : outParam Prop) : Prop where
  out : S → OpP P ρ op ty A v
section
variable {P : Program} {ρ : Env} {A : World → Prop} {ty : TypeId}
instance {x : Operand} {v : Value} [h : Ev ρ x v] : OpM P ρ A (.move x) ty v True := ⟨fun _ => P_move h.out⟩
instance {x : Operand} {v : Value} [h : Ev ρ x v] : OpM P ρ A (.assign x) ty v True := ⟨fun _ => P_assign h.out⟩
instance {c x y : Operand} {v : Value} [hc : Ev ρ c (.bool true)] [h : Ev ρ x v] : OpM P ρ A (.pick c x y) ty v True := ⟨fun _ => P_pickT hc.out rfl h.out⟩
instance {c x y : Operand} {v : Value} [hc : Ev ρ c (.bool false)] [h : Ev ρ y v] : OpM P ρ A (.pick c x y) ty v True := ⟨fun _ => P_pickF hc.out rfl h.out⟩
instance {x : Operand} {a : Addr} [h : Ev ρ x (.pointer (some a))] : OpM P ρ A (.nilCheck x) ty (.pointer (some a)) True := ⟨fun _ => P_nilCheck h.out⟩
instance {x : Operand} {t : TypeId} {p : Prop} [Decidable p] [h : Ev ρ x (.bool (decide p))] : OpM P ρ A (.unOp .not t x) ty (.bool (decide (¬ p))) True := ⟨fun _ => P_notD h.out⟩
instance (priority := 900) {x : Operand} {t : TypeId} {b : Bool} [h : Ev ρ x (.bool b)] : OpM P ρ A (.unOp .not t x) ty (.bool (!b)) True := ⟨fun _ => P_not h.out⟩
instance (priority := 1100) {x : Operand} {t : TypeId} [h : Ev ρ x (.bool true)] : OpM P ρ A (.unOp .not t x) ty (.bool false) True := ⟨fun _ => P_not h.out⟩
instance (priority := 1100) {x : Operand} {t : TypeId} [h : Ev ρ x (.bool false)] : OpM P ρ A (.unOp .not t x) ty (.bool true) True := ⟨fun _ => P_not h.out⟩
class NthL (l : List Value) (i : Nat) (v : outParam Value) : Prop where
  out : l[i]? = some v
instance {v : Value} {l : List Value} : NthL (v :: l) 0 v := ⟨rfl⟩
instance {u v : Value} {l : List Value} {i : Nat} [h : NthL l i v] : NthL (u :: l) (i + 1) v := ⟨by simpa using h.out⟩
instance {x : Operand} {i : Nat} {vs : List Value} {v : Value} [h : Ev ρ x (.tuple vs.toArray)] [k : NthL vs i v] : OpM P ρ A (.extract x i) ty v True := ⟨fun _ => P_extract h.out (by simpa using k.out)⟩
instance {f : FuncId} {xs : List Operand} {vs : List Value} [h : EvAll ρ xs vs] : OpM P ρ A (.makeFunc (.func f) #[] xs.toArray) ty (.func (.func f) #[] vs.toArray) True := ⟨fun _ => by
  intro d pos af g w _; simp [execOp, Instr.makeFunc, go_sem, ← h.out]⟩
-- whole numbers
instance {x y : Operand} {t u : TypeId} {a b : Int} [h1 : Ev ρ x (.int .i64 a)] [h2 : Ev ρ y (.int .i64 b)] : OpM P ρ A (.binOp .add t x y u) ty (.int .i64 (a + b)) (-9223372036854775808 ≤ a + b ∧ a + b ≤ 9223372036854775807) := ⟨fun h => P_addB h1.out h2.out h⟩
instance {x y : Operand} {t u : TypeId} {a b : Int} [h1 : Ev ρ x (.int .i64 a)] [h2 : Ev ρ y (.int .i64 b)] : OpM P ρ A (.binOp .sub t x y u) ty (.int .i64 (a - b)) (-9223372036854775808 ≤ a - b ∧ a - b ≤ 9223372036854775807) := ⟨fun h => P_subB h1.out h2.out h⟩
instance {x y : Operand} {t u : TypeId} {a b : Int} [h1 : Ev ρ x (.int .i64 a)] [h2 : Ev ρ y (.int .i64 b)] : OpM P ρ A (.binOp .mul t x y u) ty (.int .i64 (a * b)) (-9223372036854775808 ≤ a * b ∧ a * b ≤ 9223372036854775807) := ⟨fun h => P_mulB h1.out h2.out h⟩
instance (priority := 900) {x y : Operand} {t u : TypeId} {k : IntKind} {a b : Int} [h1 : Ev ρ x (.int k a)] [h2 : Ev ρ y (.int k b)] : OpM P ρ A (.binOp .add t x y u) ty (.int k (k.wrap (a + b))) True := ⟨fun _ => P_add h1.out h2.out⟩
instance (priority := 900) {x y : Operand} {t u : TypeId} {k : IntKind} {a b : Int} [h1 : Ev ρ x (.int k a)] [h2 : Ev ρ y (.int k b)] : OpM P ρ A (.binOp .sub t x y u) ty (.int k (k.wrap (a - b))) True := ⟨fun _ => P_sub h1.out h2.out⟩
instance (priority := 900) {x y : Operand} {t u : TypeId} {k : IntKind} {a b : Int} [h1 : Ev ρ x (.int k a)] [h2 : Ev ρ y (.int k b)] : OpM P ρ A (.binOp .mul t x y u) ty (.int k (k.wrap (a * b))) True := ⟨fun _ => P_mul h1.out h2.out⟩
instance {x y : Operand} {t u : TypeId} {k : IntKind} {a b : Int} [h1 : Ev ρ x (.int k a)] [h2 : Ev ρ y (.int k b)] : OpM P ρ A (.binOp .and t x y u) ty (.int k (Go.bits .and k a b)) True := ⟨fun _ => P_bits (.inl rfl) h1.out h2.out⟩
instance {x y : Operand} {t u : TypeId} {k : IntKind} {a b : Int} [h1 : Ev ρ x (.int k a)] [h2 : Ev ρ y (.int k b)] : OpM P ρ A (.binOp .xor t x y u) ty (.int k (Go.bits .xor k a b)) True := ⟨fun _ => P_bits (.inr (.inr rfl)) h1.out h2.out⟩
instance {x y : Operand} {t u : TypeId} {k k' : IntKind} {a s : Int} [h1 : Ev ρ x (.int k a)] [h2 : Ev ρ y (.int k' s)] : OpM P ρ A (.binOp .shr t x y u) ty (.int k (a.fdiv (2 ^ s.toNat))) (0 ≤ s ∧ s ≤ k.bits) := ⟨fun h => P_shr h1.out (s := s.toNat) (by rw [h2.out]; congr 1; omega) (by omega)⟩
instance {x y : Operand} {t u : TypeId} {k : IntKind} {a b : Int} [h1 : Ev ρ x (.int k a)] [h2 : Ev ρ y (.int k b)] : OpM P ρ A (.binOp .lss t x y u) ty (.bool (decide (a < b))) True := ⟨fun _ => P_lss h1.out h2.out⟩
instance {x y : Operand} {t u : TypeId} {k : IntKind} {a b : Int} [h1 : Ev ρ x (.int k a)] [h2 : Ev ρ y (.int k b)] : OpM P ρ A (.binOp .leq t x y u) ty (.bool (decide (a ≤ b))) True := ⟨fun _ => P_leq h1.out h2.out⟩
instance {x y : Operand} {t u : TypeId} {k : IntKind} {a b : Int} [h1 : Ev ρ x (.int k a)] [h2 : Ev ρ y (.int k b)] : OpM P ρ A (.binOp .gtr t x y u) ty (.bool (decide (b < a))) True := ⟨fun _ => P_gtr h1.out h2.out⟩
instance {x y : Operand} {t u : TypeId} {k : IntKind} {a b : Int} [h1 : Ev ρ x (.int k a)] [h2 : Ev ρ y (.int k b)] : OpM P ρ A (.binOp .geq t x y u) ty (.bool (decide (b ≤ a))) True := ⟨fun _ => P_geq h1.out h2.out⟩
instance {x y : Operand} {t u : TypeId} {k : IntKind} {a b : Int} [h1 : Ev ρ x (.int k a)] [h2 : Ev ρ y (.int k b)] : OpM P ρ A (.binOp .eql t x y u) ty (.bool (decide (a = b))) True := ⟨fun _ => P_eqI h1.out h2.out⟩
instance {x y : Operand} {t u : TypeId} {k : IntKind} {a b : Int} [h1 : Ev ρ x (.int k a)] [h2 : Ev ρ y (.int k b)] : OpM P ρ A (.binOp .neq t x y u) ty (.bool (decide (a ≠ b))) True := ⟨fun _ => P_neI h1.out h2.out⟩
instance {x : Operand} {t : TypeId} {a : Int} [h : Ev ρ x (.int .i64 a)] : OpM P ρ A (.unOp .neg t x) ty (.int .i64 (-a)) (-9223372036854775808 ≤ -a ∧ -a ≤ 9223372036854775807) := ⟨fun h' => by
  intro d pos af g w _
  have e : IntKind.i64.wrap (-a) = -a := wrap_i64 h'
  simp [execOp, Op.unary, h.out, Op.intArith, e, go_sem]⟩
instance {x y : Operand} {ts : Array TypeId} {k : IntKind} {a b : Int} [h1 : Ev ρ x (.int k a)] [h2 : Ev ρ y (.int k b)] : OpM P ρ A (.call { callee := .builtin .min, args := #[x, y], argTypes := ts }) ty (.int k (min a b)) True := ⟨fun _ => P_min h1.out h2.out⟩
class Kd (k : IntKind) (lo hi : outParam Int) : Prop where
  out : ∀ a, lo ≤ a ∧ a ≤ hi → k.wrap a = a
instance : Kd .i64 (-9223372036854775808) 9223372036854775807 := ⟨fun _ h => wrap_i64 h⟩
instance : Kd .i32 (-2147483648) 2147483647 := ⟨fun _ h => wrap_i32 h⟩
instance : Kd .u8 0 255 := ⟨fun _ h => wrap_u8 h⟩
instance : Kd .u64 0 18446744073709551615 := ⟨fun _ h => wrap_u64 h⟩
instance {x : Operand} {src dst : TypeId} {k k' : IntKind} {a lo hi : Int} [h : Ev ρ x (.int k' a)] [hd : Und P dst (.int k)] [hs : Und P src (.int k')] [hk : Kd k lo hi] : OpM P ρ A (.convert src dst x) ty (.int k a) (lo ≤ a ∧ a ≤ hi) := ⟨fun h' => by
  have := P_convInt (P := P) (A := A) (ty := ty) hs.out hd.out h.out; rwa [hk.out a h'] at this⟩
-- bools and strings
instance {x y : Operand} {t u : TypeId} {a b : ByteArray} [h1 : Ev ρ x (.string a)] [h2 : Ev ρ y (.string b)] : OpM P ρ A (.binOp .eql t x y u) ty (.bool (decide (a = b))) True := ⟨fun _ => P_eqS h1.out h2.out⟩
instance {x y : Operand} {t u : TypeId} {a b : ByteArray} [h1 : Ev ρ x (.string a)] [h2 : Ev ρ y (.string b)] : OpM P ρ A (.binOp .neq t x y u) ty (.bool (decide (a ≠ b))) True := ⟨fun _ => P_neS h1.out h2.out⟩
instance {x y : Operand} {t u : TypeId} {a b : ByteArray} [h1 : Ev ρ x (.string a)] [h2 : Ev ρ y (.string b)] : OpM P ρ A (.binOp .add t x y u) ty (.string (a ++ b)) (a.size + b.size ≤ 9223372036854775807) := ⟨fun h => P_catS h1.out h2.out h⟩
instance {x : Operand} {t : TypeId} {s : ByteArray} [ht : Und P t .string] [h : Ev ρ x (.string s)] : OpM P ρ A (.call { callee := .builtin .len, args := #[x], argTypes := #[t] }) ty (.int .i64 s.size) True := ⟨fun _ => P_len_str ht.out h.out⟩
instance {x y : Operand} {t : TypeId} {k : IntKind} {s : ByteArray} {i : Int} [ht : Und P t .string] [h1 : Ev ρ x (.string s)] [h2 : Ev ρ y (.int k i)] : OpM P ρ A (.index t x y) ty (.int .u8 (bt s i)) (0 ≤ i ∧ i < (s.size : Int)) := ⟨fun h => P_index_str ht.out h1.out h2.out h.1 h.2⟩
-- pointers, slices and functions against nil
instance (priority := 1100) {x y : Operand} {t e u : TypeId} {p : Addr} [ht : Und P t (.pointer e)] [h1 : Ev ρ x (.pointer (some p))] [h2 : Ev ρ y (.pointer none)] : OpM P ρ A (.binOp .eql t x y u) ty (.bool false) True := ⟨fun _ => P_eqpointer_nil ht.out h1.out h2.out⟩
instance (priority := 1200) {x y : Operand} {t e u : TypeId} [ht : Und P t (.pointer e)] [h1 : Ev ρ x (.pointer none)] [h2 : Ev ρ y (.pointer none)] : OpM P ρ A (.binOp .eql t x y u) ty (.bool true) True := ⟨fun _ => P_eqpointer_nil ht.out h1.out h2.out⟩
class BInfo (P : Program) (t : TypeId) (zc : outParam (List Value)) (offs : outParam (List (Nat × Nat))) : Prop where
  out : builtInfo P t = some (zc.toArray, offs)
class NthP (l : List (Nat × Nat)) (i : Nat) (o z : outParam Nat) : Prop where
  out : l[i]? = some (o, z)
instance {l : List (Nat × Nat)} {o z : Nat} : NthP ((o, z) :: l) 0 o z := ⟨rfl⟩
instance {l : List (Nat × Nat)} {p : Nat × Nat} {o z i : Nat} [h : NthP l i o z] : NthP (p :: l) (i + 1) o z := ⟨by simpa using h.out⟩
class FillF (ρ : Env) (offs : List (Nat × Nat)) (ps : List (Nat × Operand)) (cs : List Value) (cs' : outParam (List Value)) : Prop where
  out : ∃ vs, ps.map (fun p => (p.1, evalE ρ p.2)) = vs ∧ Instr.fill (fun i => offs.toArray[i]?) cs.toArray vs = some cs'.toArray
instance {offs : List (Nat × Nat)} {cs : List Value} : FillF ρ offs [] cs cs := ⟨[], rfl, rfl⟩
instance {offs : List (Nat × Nat)} {i o z : Nat} {x : Operand} {ps : List (Nat × Operand)} {v : Value} {l cs cs1 cs2 : List Value} [hx : Ev ρ x v] [hn : NthP offs i o z] [hv : CellsV v l] [hf : FirstL l z l []] [hp : PutL cs o l cs1] [h : FillF ρ offs ps cs1 cs2] : FillF ρ offs ((i, x) :: ps) cs cs2 := ⟨by
  obtain ⟨vs, h1, h2⟩ := h.out
  refine ⟨(i, v) :: vs, by rw [List.map_cons, hx.out, h1], ?_⟩
  have hz := hf.out.2
  have hle := hp.out.2
  have hfold := fold_zip0 l cs o hle
  simp only [Instr.fill, List.getElem?_toArray, hn.out, hv.out.1, List.size_toArray, hz]
  rw [if_neg (by simp; omega), hfold, ← hp.out.1]
  simpa using h2⟩
instance {t : TypeId} {ps : List (Nat × Operand)} {zc cs : List Value} {offs : List (Nat × Nat)} [hb : BInfo P t zc offs] [h : FillF ρ offs ps zc cs] : OpM P ρ A (.build t ps.toArray) ty (.agg cs.toArray) True := ⟨fun _ => by
  obtain ⟨vs, h1, h2⟩ := h.out
  exact P_build hb.out h1 h2⟩
instance {x : Operand} {s : TypeId} {f off : Nat} {b i : Nat} [h : Ev ρ x (.pointer (some ⟨b, i, none⟩))] [hf : FieldO P s f off] : OpM P ρ A (.fieldAddr s x f) ty (.pointer (some ⟨b, i + off, none⟩)) True := ⟨fun _ => P_fieldAddr hf.out h.out⟩
theorem eAddr_add {s : SV} {sz : Nat} {i : Int} {k : Nat} {o : Nat} : eAddr s sz i (k + o) = ⟨(eAddr s sz i k).block, (eAddr s sz i k).off + o, none⟩ := by simp [eAddr, Nat.add_assoc]
instance {x : Operand} {t : TypeId} {f off sz k : Nat} {s : SV} {i : Int} [h : Ev ρ x (.pointer (some (eAddr s sz i k)))] [hf : FieldO P t f off] : OpM P ρ A (.fieldAddr t x f) ty (.pointer (some (eAddr s sz i (k + off)))) True := ⟨fun _ => by
  rw [eAddr_add]
  exact P_fieldAddr hf.out h.out⟩
end
end Go.Fw
namespace Go.Fw
open Go Go.RowKit
set_option linter.unusedVariables false
set_option linter.unusedSimpArgs false
section
variable {P : Program} {ρ : Env} {A : World → Prop} {ty : TypeId} {w0 : World} {I : Foot} {L : List HP}
theorem OpU.mono {R R' : Value → World → Prop} {r : Result Next} (h : OpU P R r) (k : ∀ v w, R v w → R' v w) : OpU P R' r := by
  cases r with
  | ok x w =>
    cases x <;> simp only [OpU] at h ⊢ <;> first | exact k _ _ h | exact Calls.mono h (fun e w' ⟨v, h1, h2⟩ => ⟨v, h1, k _ _ h2⟩) | exact RoundIn.mono h (fun e w' ⟨v, h1, h2⟩ => ⟨v, h1, k _ _ h2⟩)
  | halt x w => simp only [OpU] at h
theorem OpP.at {op : Op} {v : Value} (h : ∀ w, A w → OpP P ρ op ty (fun u => u = w) v) : OpP P ρ op ty A v := fun d pos af g w hw => h w hw d pos af g w rfl
theorem SL.bk {b : Nat} {t : TypeId} {cs : List Value} {w : World} (h : SL w0 I (Bk b t cs :: L) w) : w.heap[b]? = some (.cells cs.toArray t (0, 0)) := by
  obtain ⟨R, hp, hm⟩ := h.heap
  exact hm _ _ (by rw [hp]; exact List.mem_singleton.2 rfl)
instance {x : Operand} {t t' : TypeId} {b i : Nat} {cs : List Value} {v : Value} {L' : List HP} [hx : Ev ρ x (.pointer (some ⟨b, i, none⟩))] [ht : One P t] [hA : InSL A w0 I L] [hb : FindBk L b t' cs L'] [hg : GetL cs i v] :
    OpM P ρ A (.load t x) ty v True := ⟨fun _ => P_load ht.out hx.out fun w hw => cell_of_heap (hb.out.sl (hA.out w hw)).bk (by simpa using hg.out)⟩
instance {x : Operand} {t : TypeId} {s : SV} {sz : Nat} {i : Int} {k : Nat} {α : Type} {e : Enc α} {xs : List α} {l : List Value} {v : Value} [hx : Ev ρ x (.pointer (some (eAddr s sz i k)))] [ht : One P t] [hA : InSL A w0 I L] [hr : RdS I L s α e xs] [hz : SzIs α sz] [hc : CellsL α (at_ xs i) l] [hg : GetL l k v] :
    OpM P ρ A (.load t x) ty v (0 ≤ i ∧ i < xs.length) := ⟨fun hi => P_load (b := (eAddr s sz i k).block) (i := (eAddr s sz i k).off) ht.out hx.out fun w hw => by
  have h := (hr.out w0 w (hA.out w hw)).cells i.toNat k v (by omega) (by
    have h1 := hc.out; have h2 := hg.out; rw [← h1] at h2; exact h2)
  rw [hz.out] at h
  have : ((i.toNat : Nat) : Int) = i := by omega
  rw [this] at h
  exact h⟩
instance {x : Operand} {t t' : TypeId} {b i n : Nat} {cs l1 l2 l3 l : List Value} {L' : List HP} [hx : Ev ρ x (.pointer (some ⟨b, i, none⟩))] [ht : Agg P t n] [hA : InSL A w0 I L] [hb : FindBk L b t' cs L'] [hf : FirstL cs i l1 l2] [hl : FirstL l2 n l l3] :
    OpM P ρ A (.load t x) ty (.agg l.toArray) True := ⟨fun _ => P_loadAgg ht.out hx.out hl.out.2 fun w hw j v hj => by
  refine cell_of_heap (hb.out.sl (hA.out w hw)).bk ?_
  rw [hf.out.1, hl.out.1]
  have h1 := hf.out.2
  have hjl := (List.getElem?_eq_some_iff.1 hj).1
  simp only [List.getElem?_toArray]
  rw [List.getElem?_append_right (by omega), show i + j - l1.length = j by omega, List.getElem?_append_left hjl]
  exact hj⟩
instance {x : Operand} {t : TypeId} {s : SV} {sz n : Nat} {i : Int} {k : Nat} {α : Type} {e : Enc α} {xs : List α} {c l1 l2 l3 l : List Value} [hx : Ev ρ x (.pointer (some (eAddr s sz i k)))] [ht : Agg P t n] [hA : InSL A w0 I L] [hr : RdS I L s α e xs] [hz : SzIs α sz] [hc : CellsL α (at_ xs i) c] [hf : FirstL c k l1 l2] [hl : FirstL l2 n l l3] :
    OpM P ρ A (.load t x) ty (.agg l.toArray) (0 ≤ i ∧ i < xs.length) := ⟨fun hi => P_loadAgg (b := (eAddr s sz i k).block) (i := (eAddr s sz i k).off) ht.out hx.out hl.out.2 fun w hw j v hj => by
  have h := (hr.out w0 w (hA.out w hw)).cells i.toNat (k + j) v (by omega) (by
    have h1 := hc.out; have h3 := hf.out.2
    have hjl := (List.getElem?_eq_some_iff.1 hj).1
    show (Enc.cells (at_ xs i))[k + j]? = some v
    rw [h1, hf.out.1, hl.out.1, List.getElem?_append_right (by omega), show k + j - l1.length = j by omega, List.getElem?_append_left hjl]
    exact hj)
  rw [hz.out] at h
  have : ((i.toNat : Nat) : Int) = i := by omega
  rw [this, eAddr_add] at h
  exact h⟩
instance {x y : Operand} {t e : TypeId} {k : IntKind} {s : SV} {i : Int} {sz bytes : Nat} {z : List Value} {α : Type} {en : Enc α} {xs : List α} [hx : Ev ρ x (.slice s.a s.n s.cap)] [hy : Ev ρ y (.int k i)] [ht : Und P t (.slice e)] [hz : Inf P e z sz bytes] [hA : InSL A w0 I L] [hr : RdS I L s α en xs] :
    OpM P ρ A (.indexAddr t x y) ty (.pointer (some (eAddr s sz i 0))) (0 ≤ i ∧ i < xs.length) := ⟨fun hi => OpP.at fun w hw => by
  have h := hr.out w0 w (hA.out w hw)
  have hl := h.len
  rcases h.plain with h0 | ⟨b, o, ha⟩
  · omega
  · have e1 : eAddr s sz i 0 = ⟨b, o + i.toNat * sz, none⟩ := by simp [eAddr, ha]
    rw [e1]
    refine P_indexAddr (len := s.n) (cap := s.cap) ht.out hz.size ?_ hy.out hi.1 (by omega)
    rw [← ha]; exact hx.out⟩
instance {x : Operand} {t e : TypeId} {s : SV} {α : Type} {en : Enc α} {xs : List α} [hx : Ev ρ x (.slice s.a s.n s.cap)] [ht : Und P t (.slice e)] [hA : InSL A w0 I L] [hr : RdS I L s α en xs] :
    OpM P ρ A (.call { callee := .builtin .len, args := #[x], argTypes := #[t] }) ty (.int .i64 xs.length) True := ⟨fun _ => OpP.at fun w hw => by
  rw [← (hr.out w0 w (hA.out w hw)).len]
  exact P_len_slice ht.out hx.out⟩
class OpE (P : Program) (ρ : Env) (A : World → Prop) (op : Op) (ty : TypeId) (τ : outParam Type) (val : outParam (τ → Value)) (B : outParam (τ → World → Prop)) (S : outParam Prop) : Prop where
  out : S → OpT P ρ op ty A fun v w => ∃ x, v = val x ∧ B x w
theorem OpT.sl [hA : InSL A w0 I L] {op : Op} {τ : Type} {val : τ → Value} {B : τ → World → Prop} (h : ∀ w, SL w0 I L w → ∀ d pos af g, OpU P (fun v w => ∃ x, v = val x ∧ B x w) ((execOp (evalE ρ) ⟨d, op, ty, pos, af, g⟩).run P w)) :
    OpT P ρ op ty A fun v w => ∃ x, v = val x ∧ B x w := fun d pos af g w hw => h w (hA.out w hw) d pos af g
class OpS (P : Program) (ρ : Env) (A : World → Prop) (op : Op) (ty : TypeId) (B : outParam (World → Prop)) (S : outParam Prop) : Prop where
  out : S → OpT P ρ op ty A fun _ w => B w
theorem OpT.slS [hA : InSL A w0 I L] {op : Op} {B : World → Prop} (h : ∀ w, SL w0 I L w → ∀ d pos af g, OpU P (fun _ w => B w) ((execOp (evalE ρ) ⟨d, op, ty, pos, af, g⟩).run P w)) :
    OpT P ρ op ty A fun _ w => B w := fun d pos af g w hw => h w (hA.out w hw) d pos af g
instance {x y : Operand} {t t' : TypeId} {b i : Nat} {cs cs' : List Value} {v : Value} {L' : List HP} {z : List Value} {bytes : Nat} [hx : Ev ρ x (.pointer (some ⟨b, i, none⟩))] [hy : Ev ρ y v] [hv : CellsV v [v]] [hz : Inf P t z 1 bytes] [hA : InSL A w0 I L] [hb : FindBk L b t' cs L'] [hg : SetL cs i v cs'] :
    OpS P ρ A (.store t x y) ty (SL w0 I (Bk b t' cs' :: L')) True := ⟨fun _ => OpT.slS fun w hw d pos af g => by
  obtain ⟨H, R, Rs, h1, h2, h3, h4⟩ := (hb.out.sl hw).uncons
  unfold Bk at h2
  subst h2
  have h := T_store (P := P) (ρ := ρ) (ty := ty) 0 hz.size hx.out hy.out (hv.out.2 v (List.mem_singleton.2 rfl)) (L := (b, .cells cs.toArray t' (0, 0)) :: Rs.flatten) (w0 := w0) (H := H) rfl (by simpa using hg.out.2) d pos af g w h4
  refine h.mono fun u w' hu => SL.cons h1 (R := [(b, .cells cs'.toArray t' (0, 0))]) rfl h3 ?_
  rw [List.set_cons_zero] at hu
  rw [← hg.out.1]
  simpa using hu⟩
instance {x y : Operand} {t t' : TypeId} {b i n : Nat} {cs cs' vs : List Value} {L' : List HP} {z : List Value} {bytes : Nat} [hx : Ev ρ x (.pointer (some ⟨b, i, none⟩))] [hy : Ev ρ y (.agg vs.toArray)] [hv : OnesL vs] [hz : Inf P t z n bytes] [hn : FirstL vs n vs []] [hA : InSL A w0 I L] [hb : FindBk L b t' cs L'] [hg : PutL cs i vs cs'] :
    OpS P ρ A (.store t x y) ty (SL w0 I (Bk b t' cs' :: L')) True := ⟨fun _ => OpT.slS fun w hw d pos af g => by
  obtain ⟨H, R, Rs, h1, h2, h3, h4⟩ := (hb.out.sl hw).uncons
  unfold Bk at h2
  subst h2
  have h := T_storeAgg (P := P) (ρ := ρ) (ty := ty) 0 hz.size hx.out hy.out hn.out.2 (by simpa using hv.out) (L := (b, .cells cs.toArray t' (0, 0)) :: Rs.flatten) (w0 := w0) (H := H) rfl (by simpa using hg.out.2) d pos af g w h4
  refine h.mono fun u w' hu => SL.cons h1 (R := [(b, .cells cs'.toArray t' (0, 0))]) rfl h3 ?_
  rw [List.set_cons_zero, fold_put _ _ _ hg.out.2, ← hg.out.1] at hu
  exact hu⟩
theorem own_put {α : Type} [en : Enc α] {e : TypeId} {s : SV} {xs : List α} {R : Foot} (h : OwnS e s xs R) {i k : Nat} {vs : List Value} {y : α} (hi : i < xs.length) (hk : k + vs.length ≤ Enc.sz α) (hy : Enc.cells y = (Enc.cells (xs.getD i Enc.dflt)).take k ++ vs ++ (Enc.cells (xs.getD i Enc.dflt)).drop (k + vs.length)) :
    ∃ g cur, R = [(g, .cells cur e (0, 0))] ∧ eAddr s (Enc.sz α) (i : Int) k = ⟨g, i * Enc.sz α + k, none⟩ ∧ i * Enc.sz α + k + vs.length ≤ cur.size ∧
      OwnS e s (xs.set i y) [(g, .cells (vs.foldl (fun (p : Array Value × Nat) v => (p.1.setIfInBounds p.2 v, p.2 + 1)) (cur, i * Enc.sz α + k)).1 e (0, 0))] := by
  have hn := OwnR.len h
  have hsz := Enc.pos (α := α)
  rcases h.2 with ⟨h1, h2, h3⟩ | ⟨g, cap, cur, h1, h2, h3, h4, h5, h6⟩
  · omega
  · cases s with
    | mk a n c =>
      cases h1
      dsimp only at hn h2 h4 h5
      subst hn
      have hle : i * Enc.sz α + k + vs.length ≤ xs.length * Enc.sz α := by
        have : (i + 1) * Enc.sz α ≤ xs.length * Enc.sz α := Nat.mul_le_mul_right _ hi
        rw [Nat.add_mul] at this; omega
      have hle2 : xs.length * Enc.sz α ≤ c * Enc.sz α := Nat.mul_le_mul_right _ h2
      refine ⟨g, cur, h6, by simp [eAddr], by omega, ?_⟩
      have hcur : cur = cur.toList.toArray := by simp
      rw [hcur, fold_put _ _ _ (by simp; omega)]
      refine ⟨by rw [flat_len]; simp, .inr ⟨g, c, _, rfl, h2, h3, ?_, ?_, rfl⟩⟩
      · simp; omega
      · rw [flat_set xs i k y vs hi hk hy]
        show List.take (xs.length * Enc.sz α) (List.take (i * Enc.sz α + k) cur.toList ++ vs ++ List.drop (i * Enc.sz α + k + vs.length) cur.toList) = _
        rw [← h5, List.take_append, List.take_of_length_le (by simp; omega), List.take_take, List.drop_take]
        congr 2
        · congr 1; omega
        · congr 1; simp; omega
instance {x y : Operand} {t t' : TypeId} {s : SV} {sz k : Nat} {i : Int} {v : Value} {L' : List HP} {z : List Value} {bytes : Nat} {α : Type} {en : Enc α} {xs : List α} {c c' : List Value} {u : α} [hx : Ev ρ x (.pointer (some (eAddr s sz i k)))] [hy : Ev ρ y v] [hv : CellsV v [v]] [hz : Inf P t z 1 bytes] [hA : InSL A w0 I L] [hb : FindOwn L s t' α en xs L'] [hs : SzIs α sz] [hc : CellsL α (at_ xs i) c] [hg : SetL c k v c'] [hd : Dec α c' u] :
    OpS P ρ A (.store t x y) ty (SL w0 I (OwnS t' s (xs.set i.toNat u) :: L')) (0 ≤ i ∧ i < xs.length) := ⟨fun hi => OpT.slS fun w hw d pos af g => by
  obtain ⟨H, R, Rs, h1, h2, h3, h4⟩ := (hb.out.sl hw).uncons
  have hcl : Enc.sz α = c.length := by rw [← hc.out, Enc.len]
  have hkl := hg.out.2
  obtain ⟨gb, cur, h5, h6, h7, h8⟩ := own_put h2 (i := i.toNat) (k := k) (vs := [v]) (y := u) (by omega) (by simp; omega) (by
    have e1 : Enc.cells (xs.getD i.toNat Enc.dflt) = c := hc.out
    rw [hd.out, e1, ← hg.out.1]
    simp only [List.length_singleton]
    rw [List.set_eq_take_append_cons_drop, if_pos hkl]; simp)
  subst h5
  have e2 : ((i.toNat : Nat) : Int) = i := by omega
  rw [e2, hs.out] at h6
  rw [hs.out] at h7 h8
  have hx' := hx.out
  rw [h6] at hx'
  have h := T_store (P := P) (ρ := ρ) (ty := ty) 0 hz.size hx' hy.out (hv.out.2 v (List.mem_singleton.2 rfl)) (L := (gb, .cells cur t' (0, 0)) :: Rs.flatten) (w0 := w0) (H := H) rfl (by simp only [List.length_singleton] at h7; omega) d pos af g w h4
  refine h.mono fun u w' hu => SL.cons h1 h8 h3 ?_
  rw [List.set_cons_zero] at hu
  exact hu⟩
instance {t : TypeId} {z : List Value} {n bytes : Nat} [hz : Inf P t z n bytes] [hA : InSL A w0 I L] :
    OpE P ρ A (.alloc t) ty Nat (fun b => .pointer (some ⟨b, 0, none⟩)) (fun b => SL w0 I (Bk b t z :: L)) True := ⟨fun _ => OpT.sl fun w hw d pos af g => by
  obtain ⟨z', h1, h2, _⟩ := Inf.zero hz
  obtain ⟨H, Rs, h3, h4, h5⟩ := hw
  refine (T_alloc (P := P) (ρ := ρ) (ty := ty) h1 d pos af g w h5).mono fun v w' ⟨b, hv, hb⟩ => ⟨b, hv, SL.cons h3 (R := [(b, .cells z.toArray t (0, 0))]) rfl h4 (by rw [h2] at hb; exact hb)⟩⟩
instance {t : TypeId} {x : Operand} {v : Value} {l : List Value} [hx : Ev ρ x v] [hv : CellsV v l] [hA : InSL A w0 I L] :
    OpE P ρ A (.box t x) ty Nat (fun b => .pointer (some ⟨b, 0, none⟩)) (fun b => SL w0 I (Bk b t l :: L)) True := ⟨fun _ => OpT.sl fun w hw d pos af g => by
  obtain ⟨H, Rs, h3, h4, h5⟩ := hw
  refine (T_box (P := P) (ρ := ρ) (ty := ty) hx.out d pos af g w h5).mono fun v w' ⟨b, hv', hb⟩ => ⟨b, hv', SL.cons h3 (R := [(b, .cells l.toArray t (0, 0))]) rfl h4 (by rw [hv.out.1] at hb; exact hb)⟩⟩
theorem flat_replicate {α : Type} [Enc α] (n : Nat) (y : α) : flat (List.replicate n y) = (List.replicate n (Enc.cells y)).flatten := by
  simp [flat, List.flatMap_replicate]
theorem made_flat (z : List Value) (n : Nat) : (madeCells z.toArray (n * z.length)).toList = (List.replicate n z).flatten := by
  apply List.ext_getElem?
  intro i
  by_cases hz : z.length = 0
  · have : z = [] := List.eq_nil_of_length_eq_zero hz
    subst this; simp [madeCells]
  · by_cases hi : i < n * z.length
    · have hlen : (List.replicate n z).flatten.length = n * z.length := by simp
      have h1 : (madeCells z.toArray (n * z.length)).toList[i]? = some (z.getD (i % z.length) undef) := by
        have hm : i % z.length < z.length := Nat.mod_lt _ (by omega)
        simp [madeCells, hi, hm]
      rw [h1]
      have hm : i % z.length < z.length := Nat.mod_lt _ (by omega)
      have key : ∀ (n i : Nat), i < n * z.length → (List.replicate n z).flatten[i]? = z[i % z.length]? := by
        intro n
        induction n with
        | zero => intro i hi; simp at hi
        | succ n ih =>
          intro i hi
          rw [List.replicate_succ, List.flatten_cons]
          by_cases h : i < z.length
          · rw [List.getElem?_append_left h, Nat.mod_eq_of_lt h]
          · rw [List.getElem?_append_right (by omega), ih _ (by rw [Nat.add_mul] at hi; omega)]
            congr 1
            rw [Nat.mod_eq_sub_mod (by omega : z.length ≤ i)]
      rw [key n i hi]
      simp [List.getD_eq_getElem?_getD, hm]
    · have hlen : (List.replicate n z).flatten.length = n * z.length := by simp
      rw [List.getElem?_eq_none (by simp [madeCells]; omega), List.getElem?_eq_none (by rw [hlen]; omega)]
instance {l c : Operand} {t e : TypeId} {z : List Value} {size bytes : Nat} {kl kc : IntKind} {Lv C : Int} {α : Type} {en : Enc α} {y : α} [hl : Ev ρ l (.int kl Lv)] [hc : Ev ρ c (.int kc C)] [ht : Und P t (.slice e)] [hz : Inf P e z size bytes] [hp : Phys P e α en] [hs : SzIs α size] [hd : Dec α z y] [hA : InSL A w0 I L] :
    OpE P ρ A (.makeSlice t l c) ty SV (fun s => .slice s.a s.n s.cap) (fun s => SL w0 I (OwnS e s (List.replicate Lv.toNat y) :: L)) ((0 ≤ Lv ∧ Lv ≤ C) ∧ ((bytes : Int) * C ≤ 281474976710656 ∧ C ≤ 9223372036854775807)) := ⟨fun h => OpT.sl fun w hw d pos af g => by
  obtain ⟨z', h1, h2, h2'⟩ := Inf.zero hz
  obtain ⟨H, Rs, h3, h4, h5⟩ := hw
  have hzl : z.length = size := by rw [← hd.out, Enc.len]; exact hs.out
  refine (T_make (P := P) (ρ := ρ) (ty := ty) ht.out h2' hl.out hc.out h.1.1 h.1.2 h.2.1 h.2.2 d pos af g w h5).mono fun v w' ⟨b, hv, hb⟩ => ⟨⟨some ⟨b, 0, none⟩, Lv.toNat, C.toNat⟩, hv, SL.cons h3 (R := [(b, .cells (madeCells z'.cells (C.toNat * size)) e (0, 0))]) ?_ h4 hb⟩
  have hle : Lv.toNat ≤ C.toNat := by omega
  have hle2 : Lv.toNat * size ≤ C.toNat * size := Nat.mul_le_mul_right _ hle
  refine ⟨by rw [flat_len]; simp, .inr ⟨b, C.toNat, _, rfl, hle, by have := h.2.2; simp only [maxLen]; omega, by rw [size_madeCells, hs.out], ?_, rfl⟩⟩
  rw [h2, ← hzl, made_flat, flat_replicate, hd.out]
  have e : Enc.sz α = z.length := by rw [hs.out, hzl]
  rw [e]
  obtain ⟨m, hm⟩ : ∃ m, C.toNat = Lv.toNat + m := ⟨C.toNat - Lv.toNat, by omega⟩
  rw [hm, ← List.replicate_append_replicate, List.flatten_append]
  exact List.take_left' (by simp)⟩
end
end Go.Fw
