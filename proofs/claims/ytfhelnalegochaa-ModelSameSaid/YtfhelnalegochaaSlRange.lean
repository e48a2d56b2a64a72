/- Loops over functions, among things held. Conditions: none. -/
import Derived.Test.YtfhelnalegochaaSlRes
import Derived.RangeFuncIn
namespace Go.Fw
open Go Go.RowKit
set_option linter.unusedVariables false
set_option linter.unusedSimpArgs false

section
variable {P : Program} {w0 : World} {I : Foot} {L L' : List HP} {A : World → Prop} {rc : LoopState → Option Code → Obj}
theorem WLA.pure {ro : Option Nat} {n : Nat} {Q : Hnd} {ops : Array Oper} {l : List Oper} {ρ : Env} {p : Prop} (k : p → WLA ro P n ops Q l ρ A) : WLA ro P n ops Q l ρ (fun w => p ∧ A w) := fun m a w ha hA => k hA.1 m a w ha hA.2
/-- The assignment is done: the record is busy; then the body. -/
theorem QQ.midS {l N : Nat} {bd : Code} {Q : Hnd} {ρ : Env} [hA : InSL A w0 I L] [he : FindK L Ob l (rc .ready none) L'] (h : WPA (some l) P N bd Q ρ (SL w0 I (Ob l (rc .busy none) :: L'))) :
    QQ (midQ P l N rc bd Q) .normal ρ A := fun w hw => by
  obtain ⟨h1, h2⟩ := (he.out.sl (hA.out w hw)).mark (o' := rc .busy none)
  exact ⟨h1, fun m a u ha hu => h m a u ha (hu ▸ h2)⟩
theorem QQ.rndN {l : Nat} {R : Bool → World → Prop} {ρ : Env} [hA : InSL A w0 I L] [he : FindK L Ob l (rc .busy none) L'] (h : ∀ w, SL w0 I (Ob l (rc .ready none) :: L') w → R true w) :
    QQ (rndQ l rc R) .normal ρ A := fun w hw => by
  obtain ⟨h1, h2⟩ := (he.out.sl (hA.out w hw)).mark (o' := rc .ready none)
  exact ⟨h1, h _ h2⟩
theorem QQ.rndR {l : Nat} {R : Bool → World → Prop} {ρ : Env} [hA : InSL A w0 I L] [he : FindK L Ob l (rc .busy none) L'] (h : ∀ w, SL w0 I (Ob l (rc .done (some .ret)) :: L') w → R false w) :
    QQ (rndQ l rc R) .ret ρ A := fun w hw => by
  obtain ⟨h1, h2⟩ := (he.out.sl (hA.out w hw)).mark (o' := rc .done (some .ret))
  exact ⟨h1, h _ h2⟩
theorem QQ.rndX {l id : Nat} {R : Bool → World → Prop} {ρ : Env} [hA : InSL A w0 I L] [he : FindK L Ob l (rc .busy none) L'] (h : ∀ w, SL w0 I (Ob l (rc .done (some (.exit id))) :: L') w → R false w) :
    QQ (rndQ l rc R) (.exit id) ρ A := fun w hw => by
  obtain ⟨h1, h2⟩ := (he.out.sl (hA.out w hw)).mark (o' := rc .done (some (.exit id)))
  exact ⟨h1, h _ h2⟩
instance {ρ : Env} {ms : List Nat} {t : Tmp} {v : Value} [h : EvT ρ t v] : EvT ⟨ρ.f, ms⟩ t v := ⟨h.out⟩
theorem agreeP {N : Nat} {ρ : Env} {p : Nat} {v : Value} (hp : Nat.blt p N = true) (tmps : Array Value) (hs : tmps.size = N) (hag : ∀ i, tmps.getD i undef = ρ.f i) :
    Agree N (put1 ⟨ρ.f, []⟩ p v) { tmps := (#[p].zip #[v]).foldl (fun t (p, v) => t.setIfInBounds p v) tmps, defers := [] } := by
  rw [← upd_put1 hp]; exact agree1 tmps hs hag
theorem agreeP2 {N : Nat} {ρ : Env} {p q : Nat} {v u : Value} (hp : Nat.blt p N = true) (hq : Nat.blt q N = true) (tmps : Array Value) (hs : tmps.size = N) (hag : ∀ i, tmps.getD i undef = ρ.f i) :
    Agree N (put1 (put1 ⟨ρ.f, []⟩ p v) q u) { tmps := (#[p, q].zip #[v, u]).foldl (fun t (p, v) => t.setIfInBounds p v) tmps, defers := [] } := by
  rw [← upd_put1 hp, ← upd_put1 hq]; exact agree2 tmps hs hag
/-- A round, out of the walk of its body. -/
theorem YTr.ofS {l N : Nat} {ps : Array Tmp} {as bd : Code} {D : Nat} {args : Array Value} {ρ ρ1 : Env} {τ : Type} {B : τ → World → Prop} {val : τ → Bool} (hrc : IsRec rc N ρ ps as bd D)
    (hag : ∀ tmps : Array Value, tmps.size = N → (∀ i, tmps.getD i undef = ρ.f i) → Agree N ρ1 { tmps := (ps.zip args).foldl (fun t (p, v) => t.setIfInBounds p v) tmps, defers := [] }) (hps : args.size = ps.size)
    [he : FindK L Ob l (rc .ready none) L']
    (h : WPA (some l) P N as (midQ P l N rc bd (rndQ l rc fun b w => ∃ x, val x = b ∧ B x w)) ρ1 (SL w0 I L)) :
    YTr P l args (SL w0 I L) (fun x => .bool (val x)) B := by
  obtain ⟨fn, tmps, hs, hg, rfl⟩ := hrc
  intro w hw
  have hl := ((he.out.sl hw).mark (o' := .deferred none)).1
  refine ⟨fn, _, as, bd, run_yield hl hps, roundIn_of_wpIn (F := Fence.wide) trivial ?_⟩
  refine wpIn_mono (h 0 _ w (hag tmps hs hg) hw) ?_
  intro e a w1 hq
  cases e with
  | normal =>
    obtain ⟨ρ1, ha1, hl1, hb⟩ := hq
    refine ⟨_, run_beginRound hl1 rfl, wpIn_mono (hb 0 a _ ha1 rfl) ?_⟩
    intro e a2 w2 hq2
    cases e with
    | normal =>
      obtain ⟨_, _, hr, x, hx, hB⟩ := hq2
      exact ⟨_, _, run_endRound none hr, x, (by show _ = Ending.returned (.bool (val x)); rw [hx]; rfl), hB⟩
    | ret =>
      obtain ⟨_, _, hr, x, hx, hB⟩ := hq2
      exact ⟨_, _, run_endRound (some .ret) hr, x, (by show _ = Ending.returned (.bool (val x)); rw [hx]; rfl), hB⟩
    | exit id =>
      obtain ⟨_, _, hr, x, hx, hB⟩ := hq2
      exact ⟨_, _, run_endRound (some (.exit id)) hr, x, (by show _ = Ending.returned (.bool (val x)); rw [hx]; rfl), hB⟩
    | goto t => obtain ⟨_, _, hf⟩ := hq2; exact hf.elim
    | panic c => exact hq2.elim
    | outgrown => exact hq2.elim
  | ret => obtain ⟨_, _, hf⟩ := hq; exact hf.elim
  | exit id => obtain ⟨_, _, hf⟩ := hq; exact hf.elim
  | goto t => obtain ⟨_, _, hf⟩ := hq; exact hf.elim
  | panic c => exact hq.elim
  | outgrown => exact hq.elim
theorem YTr.ent {l : Nat} {args : Array Value} {τ : Type} {val : τ → Value} {B : τ → World → Prop} (h : YTr P l args (SL w0 I L') val B) [e : EntC L L'] : YTr P l args (SL w0 I L) val B :=
  h.conv (fun _ hw => hw.to) fun x w hb => ⟨x, rfl, hb⟩
/-- The statement, outermost. -/
theorem WPA.rangeS {N : Nat} {g : Operand} {ps : Array Tmp} {as bd : Code} {Q : Hnd} {ρ : Env} {gf : FuncId} {caps : List Value} [hA : InSL A w0 I L] [hg : Ev ρ g (.func (.func gf) #[] caps.toArray)] [hf : Callb P gf]
    (h : ∀ (D : Nat) (rc : LoopState → Option Code → Obj), IsRec rc N ρ ps as bd D →
      ∃ (τ : Type) (val : τ → Value) (st : τ → LoopState) (jump : τ → Option Code) (L' : τ → List HP),
        Tr P gf (List.toArray (.func (.yield (D + 1)) #[] #[] :: caps)) (SL w0 I (Ob (D + 1) (rc .ready none) :: Ob D (.deferred (some [])) :: L)) val
          (fun x => SL w0 I (Ob (D + 1) (rc (st x) (jump x)) :: L' x)) ∧
        ∀ x, st x ≠ .busy ∧ jumpQ Q ⟨ρ.f, D :: ρ.ms⟩ (SL w0 I (L' x)) (jump x)) :
    WPA none P N (.rangeFunc g ps as bd) Q ρ A := by
  intro m a w ha hw
  replace hw := hA.out w hw
  refine wpIn_rangeFunc fun fn _ => ?_
  obtain ⟨τ, val, st, jump, L', hT, hk⟩ := h w.heap.size _ ⟨fn, a.tmps, ha.sz, ha.get, rfl⟩
  have hw1 := (hw.push (.deferred (some [])) (Ob w.heap.size (.deferred (some []))) rfl).push (.loop ⟨.ready, none, fn, a.tmps, ps, as, bd, w.heap.size⟩) (Ob (w.heap.size + 1) (.loop ⟨.ready, none, fn, a.tmps, ps, as, bd, w.heap.size⟩)) (by simp [Ob])
  have hen := run_enterLoop_outer (P := P) (w := w) fn a.tmps ps as bd
  have hw1' : SL w0 I (Ob (w.heap.size + 1) (.loop ⟨.ready, none, fn, a.tmps, ps, as, bd, w.heap.size⟩) :: Ob w.heap.size (.deferred (some [])) :: L) ((w.alloc (.deferred (some []))).alloc (.loop ⟨.ready, none, fn, a.tmps, ps, as, bd, w.heap.size⟩)) := hw1
  generalize (w.alloc (.deferred (some []))).alloc (.loop ⟨.ready, none, fn, a.tmps, ps, as, bd, w.heap.size⟩) = W1 at hen hw1'
  have hg' : a.eval g = .func (.func gf) #[] caps.toArray := by rw [ha.eval]; exact hg.out
  refine ⟨w.heap.size + 1, [{ target := .collected w.heap.size, args := #[] }], W1, { target := .fn (.func gf) caps.toArray, args := #[.func (.yield (w.heap.size + 1)) #[] #[]] }, W1, gf,
    #[.func (.yield (w.heap.size + 1)) #[] #[]] ++ caps.toArray, W1, hen, ?_, fun _ _ => trivial, ?_, fun h => (by cases h), ?_⟩
  · simp only [resolve, hg']
    simp [go_sem, Deferred.ofValue]
  · simp [invoke, go_sem, run_callFunc hf.out]
  · have e : (#[.func (.yield (w.heap.size + 1)) #[] #[]] ++ caps.toArray : Array Value) = List.toArray (.func (.yield (w.heap.size + 1)) #[] #[] :: caps) := by simp
    rw [e]
    have hc : CallsIn (FR none) (m - 1) P gf _ _ _ := callsIn_wide.2 (hT _ hw1')
    refine hc.mono ?_
    rintro e w3 ⟨x, rfl, hB⟩
    obtain ⟨hst, hj⟩ := hk x
    obtain ⟨hl, hB1⟩ := hB.mark (o' := .loop { (⟨st x, jump x, fn, a.tmps, ps, as, bd, w.heap.size⟩ : Loop) with state := .exhausted })
    refine ⟨_, _, run_endLoop hl hst, ?_⟩
    have hB2 := Ent.drop1.sl hB1
    have ha2 : Agree N ⟨ρ.f, w.heap.size :: ρ.ms⟩ { a with defers := [{ target := .collected w.heap.size, args := #[] }] ++ a.defers } := ⟨ha.sz, ha.get, by show _ :: a.defers = _; rw [ha.df]; rfl⟩
    generalize jump x = j at hj hB2 hB hl ⊢
    unfold jumpQ at hj
    split at hj
    · exact ⟨_, ha2, hj _ hB2⟩
    · exact wpIn_ret ⟨_, ha2, hj _ hB2⟩
    · exact wpIn_exit ⟨_, ha2, hj _ hB2⟩
    · exact hj.elim
end
end Go.Fw
