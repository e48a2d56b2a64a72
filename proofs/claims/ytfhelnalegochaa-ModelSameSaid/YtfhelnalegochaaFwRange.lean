/- Loops over functions: the call of yield, a round, the statement. Conditions: none. -/
import Derived.Test.YtfhelnalegochaaFwMore3
import Derived.RangeFuncIn
namespace Go.Fw
open Go Go.RowKit
set_option linter.unusedVariables false
set_option linter.unusedSimpArgs false

theorem QQ.pre {Q : Hnd} {e : Exit} {ρ : Env} {p : Prop} {A : World → Prop} (k : p → QQ Q e ρ A) : QQ Q e ρ (fun w => p ∧ A w) := fun w ⟨hp, hA⟩ => k hp w hA
/-- A call of yield, as a triple. -/
def YTr (P : Program) (l : Nat) (args : Array Value) (A : World → Prop) {τ : Type} (val : τ → Value) (B : τ → World → Prop) : Prop :=
  ∀ w, A w → ∃ fn tmps as bd, (Instr.yield l args).run P w = .ok (.round l fn tmps as bd) w ∧ RoundIn Fence.wide 0 P l fn tmps as bd w fun e w' => ∃ x, e = .returned (val x) ∧ B x w'
theorem YTr.conv {P : Program} {l : Nat} {args : Array Value} {A A' : World → Prop} {τ τ' : Type} {val : τ → Value} {val' : τ' → Value} {B : τ → World → Prop} {B' : τ' → World → Prop} (h : YTr P l args A val B)
    (hA : ∀ w, A' w → A w) (hB : ∀ x w, B x w → ∃ x', val x = val' x' ∧ B' x' w) : YTr P l args A' val' B' := by
  intro w hw
  obtain ⟨fn, tmps, as, bd, h1, h2⟩ := h w (hA w hw)
  refine ⟨fn, tmps, as, bd, h1, h2.mono ?_⟩
  rintro e w' ⟨x, he, hb⟩
  obtain ⟨x', h1, h2⟩ := hB x w' hb
  exact ⟨x', by rw [he, h1], h2⟩

section
variable {P : Program} {ρ : Env} {A : World → Prop} {ty : TypeId}
theorem T_yield {c : Operand} {l : Nat} {args : Array Operand} {argTypes : Array TypeId} {τ : Type} {val : τ → Value} {B : τ → World → Prop} (hc : YTr P l (args.map (evalE ρ)) A val B) (hv : evalE ρ c = .func (.yield l) #[] #[]) :
    OpT P ρ (.call { callee := .value c, args := args, argTypes := argTypes }) ty A fun v w => ∃ x, v = val x ∧ B x w := by
  intro d pos af g w hA
  obtain ⟨fn, tmps, as, bd, h1, h2⟩ := hc w hA
  have e : (execOp (evalE ρ) ⟨d, .call { callee := .value c, args := args, argTypes := argTypes }, ty, pos, af, g⟩).run P w = .ok (.round l fn tmps as bd) w := by
    simp [execOp, resolve, hv, Deferred.ofValue, invoke, h1, go_sem]
  rw [e]
  refine h2.mono ?_
  rintro e w' ⟨x, rfl, hB⟩
  exact ⟨_, rfl, x, rfl, hB⟩
theorem T_yield1 {c x1 : Operand} {v1 : Value} {l : Nat} {argTypes : Array TypeId} {τ : Type} {val : τ → Value} {B : τ → World → Prop} (hc : YTr P l #[v1] A val B) (hv : evalE ρ c = .func (.yield l) #[] #[]) (h1 : evalE ρ x1 = v1) :
    OpT P ρ (.call { callee := .value c, args := #[x1], argTypes := argTypes }) ty A fun v w => ∃ x, v = val x ∧ B x w := T_yield (by subst h1; simpa using hc) hv
theorem T_yield2 {c x1 x2 : Operand} {v1 v2 : Value} {l : Nat} {argTypes : Array TypeId} {τ : Type} {val : τ → Value} {B : τ → World → Prop} (hc : YTr P l #[v1, v2] A val B) (hv : evalE ρ c = .func (.yield l) #[] #[]) (h1 : evalE ρ x1 = v1) (h2 : evalE ρ x2 = v2) :
    OpT P ρ (.call { callee := .value c, args := #[x1, x2], argTypes := argTypes }) ty A fun v w => ∃ x, v = val x ∧ B x w := T_yield (by subst h1; subst h2; simpa using hc) hv
end

/-! ### A round -/
/-- The loop's record, by its state and the pending jump. -/
def IsRec (rc : LoopState → Option Code → Obj) (N : Nat) (ρ : Env) (ps : Array Tmp) (as bd : Code) (D : Nat) : Prop :=
  ∃ fn tmps, tmps.size = N ∧ (∀ i, tmps.getD i undef = ρ.f i) ∧ rc = fun st pe => .loop ⟨st, pe, fn, tmps, ps, as, bd, D⟩
/-- The assignment is done: the record is busy; then the body. -/
def midQ (P : Program) (l N : Nat) (rc : LoopState → Option Code → Obj) (bd : Code) (Q : Hnd) : Hnd
  | .normal, ρ, w => w.heap[l]? = some (rc .ready none) ∧ WPA (some l) P N bd Q ρ (fun u => u = w.putObj l (rc .busy none))
  | _, _, _ => False
/-- The round's end. -/
def rndQ (l : Nat) (rc : LoopState → Option Code → Obj) (R : Bool → World → Prop) : Hnd
  | .normal, _, w => w.heap[l]? = some (rc .busy none) ∧ R true (w.putObj l (rc .ready none))
  | .ret, _, w => w.heap[l]? = some (rc .busy none) ∧ R false (w.putObj l (rc .done (some .ret)))
  | .exit id, _, w => w.heap[l]? = some (rc .busy none) ∧ R false (w.putObj l (rc .done (some (.exit id))))
  | _, _, _ => False

section
variable {P : Program} {w0 : World} {H : HeapP} {L : List (Nat × Obj)} {rc : LoopState → Option Code → Obj}
theorem St.putObj {w : World} {l : Nat} {o : Obj} (h : St w0 H ((l, o) :: L) w) (o' : Obj) : St w0 H ((l, o') :: L) (w.putObj l o') := by
  have hl : l < w.heap.size := (Array.getElem?_eq_some_iff.1 (h.at_ (j := 0) rfl)).1
  refine h.put (j := 0) (b := l) (o := o) (o' := o') rfl (w' := w.putObj l o') (fun k => ?_) (by simp) rfl rfl rfl (Nat.le_refl _)
  by_cases hk : k = l
  · subst hk; rw [if_pos rfl]; exact World.putObj_heap_same hl
  · rw [if_neg hk]; exact World.putObj_heap_other hk

theorem QQ.mid {l N : Nat} {bd : Code} {Q : Hnd} {ρ : Env} (h : WPA (some l) P N bd Q ρ (St w0 H ((l, rc .busy none) :: L))) :
    QQ (midQ P l N rc bd Q) .normal ρ (St w0 H ((l, rc .ready none) :: L)) := fun w hw => ⟨hw.at_ (j := 0) rfl, fun m a u ha hu => h m a u ha (hu ▸ hw.putObj _)⟩
theorem QQ.rnd_normal {l : Nat} {R : Bool → World → Prop} {ρ : Env} (h : ∀ w, St w0 H ((l, rc .ready none) :: L) w → R true w) :
    QQ (rndQ l rc R) .normal ρ (St w0 H ((l, rc .busy none) :: L)) := fun w hw => ⟨hw.at_ (j := 0) rfl, h _ (hw.putObj _)⟩
theorem QQ.rnd_ret {l : Nat} {R : Bool → World → Prop} {ρ : Env} (h : ∀ w, St w0 H ((l, rc .done (some .ret)) :: L) w → R false w) :
    QQ (rndQ l rc R) .ret ρ (St w0 H ((l, rc .busy none) :: L)) := fun w hw => ⟨hw.at_ (j := 0) rfl, h _ (hw.putObj _)⟩
theorem QQ.rnd_exit {l id : Nat} {R : Bool → World → Prop} {ρ : Env} (h : ∀ w, St w0 H ((l, rc .done (some (.exit id))) :: L) w → R false w) :
    QQ (rndQ l rc R) (.exit id) ρ (St w0 H ((l, rc .busy none) :: L)) := fun w hw => ⟨hw.at_ (j := 0) rfl, h _ (hw.putObj _)⟩

/-- A round, out of the walk of its body. -/
theorem YTr.of {l N : Nat} {ps : Array Tmp} {as bd : Code} {D : Nat} {args : Array Value} {ρ ρ1 : Env} {τ : Type} {B : τ → World → Prop} {val : τ → Bool} (hrc : IsRec rc N ρ ps as bd D)
    (hag : ∀ tmps : Array Value, tmps.size = N → (∀ i, tmps.getD i undef = ρ.f i) → Agree N ρ1 { tmps := (ps.zip args).foldl (fun t (p, v) => t.setIfInBounds p v) tmps, defers := [] }) (hps : args.size = ps.size)
    (h : WPA (some l) P N as (midQ P l N rc bd (rndQ l rc fun b w => ∃ x, val x = b ∧ B x w)) ρ1 (St w0 H ((l, rc .ready none) :: L))) :
    YTr P l args (St w0 H ((l, rc .ready none) :: L)) (fun x => .bool (val x)) B := by
  obtain ⟨fn, tmps, hs, hg, rfl⟩ := hrc
  intro w hw
  have hl := hw.at_ (j := 0) rfl
  refine ⟨fn, _, as, bd, run_yield hl hps, roundIn_of_wpIn (F := Fence.wide) trivial ?_⟩
  refine wpIn_mono (h 0 _ w (hag tmps hs hg) hw) ?_
  intro e a w1 hq
  cases e with
  | normal =>
    obtain ⟨ρ1, ha1, hl1, hb⟩ := hq
    refine ⟨_, run_beginRound hl1 rfl, wpIn_mono (hb 0 a _ ha1 rfl) ?_⟩
    intro e a2 w2 hq2
    cases e with
    | normal =>
      obtain ⟨_, _, hr, x, hx, hB⟩ := hq2
      exact ⟨_, _, run_endRound none hr, x, (by show _ = Ending.returned (.bool (val x)); rw [hx]; rfl), hB⟩
    | ret =>
      obtain ⟨_, _, hr, x, hx, hB⟩ := hq2
      exact ⟨_, _, run_endRound (some .ret) hr, x, (by show _ = Ending.returned (.bool (val x)); rw [hx]; rfl), hB⟩
    | exit id =>
      obtain ⟨_, _, hr, x, hx, hB⟩ := hq2
      exact ⟨_, _, run_endRound (some (.exit id)) hr, x, (by show _ = Ending.returned (.bool (val x)); rw [hx]; rfl), hB⟩
    | goto t => obtain ⟨_, _, hf⟩ := hq2; exact hf.elim
    | panic c => exact hq2.elim
    | outgrown => exact hq2.elim
  | ret => obtain ⟨_, _, hf⟩ := hq; exact hf.elim
  | exit id => obtain ⟨_, _, hf⟩ := hq; exact hf.elim
  | goto t => obtain ⟨_, _, hf⟩ := hq; exact hf.elim
  | panic c => exact hq.elim
  | outgrown => exact hq.elim
theorem agree1 {N : Nat} {ρ : Env} {p : Nat} {v : Value} (tmps : Array Value) (hs : tmps.size = N) (hag : ∀ i, tmps.getD i undef = ρ.f i) :
    Agree N (upd N ⟨ρ.f, []⟩ p v) { tmps := (#[p].zip #[v]).foldl (fun t (p, v) => t.setIfInBounds p v) tmps, defers := [] } := by
  have h0 : Agree N ⟨ρ.f, []⟩ { tmps := tmps, defers := [] } := ⟨hs, hag, rfl⟩
  have := h0.put (some p) v
  simpa [Act.put, updO] using this
theorem agree2 {N : Nat} {ρ : Env} {p q : Nat} {v u : Value} (tmps : Array Value) (hs : tmps.size = N) (hag : ∀ i, tmps.getD i undef = ρ.f i) :
    Agree N (upd N (upd N ⟨ρ.f, []⟩ p v) q u) { tmps := (#[p, q].zip #[v, u]).foldl (fun t (p, v) => t.setIfInBounds p v) tmps, defers := [] } := by
  have h0 : Agree N ⟨ρ.f, []⟩ { tmps := tmps, defers := [] } := ⟨hs, hag, rfl⟩
  have := (h0.put (some p) v).put (some q) u
  simpa [Act.put, updO] using this

/-- How the statement goes on. -/
def jumpQ (Q : Hnd) (ρ : Env) (A : World → Prop) : Option Code → Prop
  | none => QQ Q .normal ρ A
  | some .ret => QQ Q .ret ρ A
  | some (.exit id) => QQ Q (.exit id) ρ A
  | _ => False

/-- The statement, outermost. -/
theorem WPA.range {N : Nat} {g : Operand} {ps : Array Tmp} {as bd : Code} {Q : Hnd} {ρ : Env} {gf : FuncId} {caps : List Value} (hg : evalE ρ g = .func (.func gf) #[] caps.toArray) (hf : callable P gf = true)
    (h : ∀ (D : Nat) (rc : LoopState → Option Code → Obj), IsRec rc N ρ ps as bd D →
      ∃ (τ : Type) (val : τ → Value) (st : τ → LoopState) (jump : τ → Option Code) (L' : τ → List (Nat × Obj)),
        Tr P gf (List.toArray (.func (.yield (D + 1)) #[] #[] :: caps)) (St w0 H ((D + 1, rc .ready none) :: (D, .deferred (some [])) :: L)) val
          (fun x => St w0 H ((D + 1, rc (st x) (jump x)) :: L' x)) ∧
        ∀ x, st x ≠ .busy ∧ jumpQ Q ⟨ρ.f, D :: ρ.ms⟩ (St w0 H (L' x)) (jump x)) :
    WPA none P N (.rangeFunc g ps as bd) Q ρ (St w0 H L) := by
  intro m a w ha hw
  refine wpIn_rangeFunc fun fn _ => ?_
  obtain ⟨τ, val, st, jump, L', hT, hk⟩ := h w.heap.size _ ⟨fn, a.tmps, ha.sz, ha.get, rfl⟩
  have hw1 := (hw.push (.deferred (some []))).push (.loop ⟨.ready, none, fn, a.tmps, ps, as, bd, w.heap.size⟩)
  have hs1 : (w.heap.push (.deferred (some []))).size = w.heap.size + 1 := by simp
  simp only [hs1] at hw1
  have hen := run_enterLoop_outer (P := P) (w := w) fn a.tmps ps as bd
  have hw1' : St w0 H ((w.heap.size + 1, .loop ⟨.ready, none, fn, a.tmps, ps, as, bd, w.heap.size⟩) :: (w.heap.size, .deferred (some [])) :: L) ((w.alloc (.deferred (some []))).alloc (.loop ⟨.ready, none, fn, a.tmps, ps, as, bd, w.heap.size⟩)) := hw1
  generalize (w.alloc (.deferred (some []))).alloc (.loop ⟨.ready, none, fn, a.tmps, ps, as, bd, w.heap.size⟩) = W1 at hen hw1'
  have hg' : a.eval g = .func (.func gf) #[] caps.toArray := by rw [ha.eval]; exact hg
  refine ⟨w.heap.size + 1, [{ target := .collected w.heap.size, args := #[] }], W1, { target := .fn (.func gf) caps.toArray, args := #[.func (.yield (w.heap.size + 1)) #[] #[]] }, W1, gf,
    #[.func (.yield (w.heap.size + 1)) #[] #[]] ++ caps.toArray, W1, hen, ?_, fun _ _ => trivial, ?_, fun h => (by cases h), ?_⟩
  · simp only [resolve, hg']
    simp [go_sem, Deferred.ofValue]
  · simp [invoke, go_sem, run_callFunc hf]
  · have e : (#[.func (.yield (w.heap.size + 1)) #[] #[]] ++ caps.toArray : Array Value) = List.toArray (.func (.yield (w.heap.size + 1)) #[] #[] :: caps) := by simp
    rw [e]
    have hc : CallsIn (FR none) (m - 1) P gf _ _ _ := callsIn_wide.2 (hT _ hw1')
    refine hc.mono ?_
    rintro e w3 ⟨x, rfl, hB⟩
    obtain ⟨hst, hj⟩ := hk x
    have hl := hB.at_ (j := 0) rfl
    refine ⟨_, _, run_endLoop hl hst, ?_⟩
    have hB2 := (hB.putObj (.loop { (⟨st x, jump x, fn, a.tmps, ps, as, bd, w.heap.size⟩ : Loop) with state := .exhausted })).drop (List.sublist_cons_self ..)
    have ha2 : Agree N ⟨ρ.f, w.heap.size :: ρ.ms⟩ { a with defers := [{ target := .collected w.heap.size, args := #[] }] ++ a.defers } := ⟨ha.sz, ha.get, by show _ :: a.defers = _; rw [ha.df]; rfl⟩
    generalize jump x = j at hj hB2 hB hl ⊢
    unfold jumpQ at hj
    split at hj
    · exact ⟨_, ha2, hj _ hB2⟩
    · exact wpIn_ret ⟨_, ha2, hj _ hB2⟩
    · exact wpIn_exit ⟨_, ha2, hj _ hB2⟩
    · exact hj.elim
end
/-! ### The end of a function that has marks -/
theorem QQ.fn_ret1 {P : Program} {w0 : World} {H : HeapP} {L : List (Nat × Obj)} {D : Nat} {ρ : Env} {fn : Func} {rs : Array ResultVar} {v : Value} {τ : Type} {val : τ → Value} {B : τ → World → Prop} (hmk : ρ.ms = [D]) (hrs : fn.results = rs) (hv : resE rs ρ = some v) (x : τ) (hx : v = val x)
    (hB : ∀ w, St w0 H ((D, .deferred none) :: L) w → B x w) : QQ (fnQ P fn fun v w => ∃ x, v = val x ∧ B x w) .ret ρ (St w0 H ((D, .deferred (some [])) :: L)) := fun w hA => by
  show closes ρ.ms w _
  rw [hmk]
  exact ⟨hA.at_ (j := 0) rfl, v, results_of_resE hrs hv, x, hx, hB _ (hA.putObj _)⟩
theorem closes_st {w0 : World} {H : HeapP} {K : World → Prop} : ∀ (l : List Nat) {L : List (Nat × Obj)} {w : World}, St w0 H (l.map (fun D => (D, Obj.deferred (some []))) ++ L) w → (∀ w, St w0 H L w → K w) → closes l w K
  | [], L, w, h, k => k w h
  | D :: l, L, w, h, k => by
    have h' : St w0 H ((D, .deferred (some [])) :: (l.map (fun D => (D, Obj.deferred (some []))) ++ L)) w := h
    exact ⟨h'.at_ (j := 0) rfl, closes_st l ((h'.putObj (.deferred none)).drop (List.sublist_cons_self ..)) k⟩
/-- The end of a function with marks. -/
theorem QQ.fn_retM {P : Program} {w0 : World} {H : HeapP} {L : List (Nat × Obj)} {ρ : Env} {fn : Func} {rs : Array ResultVar} {v : Value} {τ : Type} {val : τ → Value} {B : τ → World → Prop} (l : List Nat) (hmk : ρ.ms = l) (hrs : fn.results = rs) (hv : resE rs ρ = some v) (x : τ) (hx : v = val x)
    (hB : ∀ w, St w0 H L w → B x w) : QQ (fnQ P fn fun v w => ∃ x, v = val x ∧ B x w) .ret ρ (St w0 H (l.map (fun D => (D, Obj.deferred (some []))) ++ L)) := fun w hA => by
  show closes ρ.ms w _
  rw [hmk]
  exact closes_st l hA fun w hw => ⟨v, results_of_resE hrs hv, x, hx, hB _ hw⟩
theorem results_cell1 {P : Program} {fn : Func} {p : Tmp} {ty : TypeId} {w : World} {b i : Nat} {v : Value} (hrs : fn.results = #[.cell p ty]) (ht : oneTy P ty = true) (tmps : Array Value) (hp : tmps.getD p undef = .pointer (some ⟨b, i, none⟩)) (hc : w.cell? ⟨b, i, none⟩ = some v) :
    (results fn tmps).run P w = .ok v w := by
  simp only [results, hrs]
  simp only [Array.mapM_eq_foldlM, List.foldlM_toArray', List.foldlM_cons, List.foldlM_nil, hp]
  simp [asAddr, loadVar, run_isAgg_one ht, load, Sem.run, hc, go_sem]
/-- .. whose one result lies in a cell of one place. -/
theorem QQ.fn_retC {P : Program} {w0 : World} {H : HeapP} {L : List (Nat × Obj)} {ρ : Env} {fn : Func} {p : Tmp} {ty : TypeId} {b i : Nat} {cs : Array Value} {t' : TypeId} {fr : Nat × Nat} {v : Value} {τ : Type} {val : τ → Value} {B : τ → World → Prop} (l : List Nat) (j : Nat) (hmk : ρ.ms = l) (hrs : fn.results = #[.cell p ty]) (ht : oneTy P ty = true)
    (hp : ρ.f p = .pointer (some ⟨b, i, none⟩)) (hj : L[j]? = some (b, .cells cs t' fr)) (hi : cs.toList[i]? = some v) (x : τ) (hx : v = val x)
    (hB : ∀ w, St w0 H L w → B x w) : QQ (fnQ P fn fun v w => ∃ x, v = val x ∧ B x w) .ret ρ (St w0 H (l.map (fun D => (D, Obj.deferred (some []))) ++ L)) := fun w hA => by
  show closes ρ.ms w _
  rw [hmk]
  exact closes_st l hA fun w hw => ⟨v, fun a ha => results_cell1 hrs ht a (by rw [ha]; exact hp) (cell_of_heap (hw.at_ hj) (by simpa using hi)), x, hx, hB _ hw⟩
section
variable {P : Program} {ρ : Env} {A : World → Prop} {ty : TypeId}
theorem run_equalIn_func_nil (w : World) (d : Nat) (t : TypeId) {f : Fn} {ts cs : Array Value} {a c : Array TypeId} {b : Bool} (ht : P.underlying t = some (.func a c b)) : (Op.equalIn (d + 1) t (.func f ts cs) .nilFunc).run P w = .ok false w := by
  simp [Op.equalIn, run_underlying ht]
theorem P_eqfunc_nil {x y : Operand} {t u : TypeId} {f : Fn} {ts cs : Array Value} {a c : Array TypeId} {b : Bool} (ht : P.underlying t = some (.func a c b)) (h1 : evalE ρ x = .func f ts cs) (h2 : evalE ρ y = .nilFunc) : OpP P ρ (.binOp .eql t x y u) ty A (.bool false) := by
  intro d pos af g w _
  have e : (Op.equal t (.func f ts cs) .nilFunc).run P w = .ok false w := run_equalIn_func_nil w 9999 t ht
  simp [execOp, eqGuard, binOp, h1, h2, e, go_sem]
end
end Go.Fw
