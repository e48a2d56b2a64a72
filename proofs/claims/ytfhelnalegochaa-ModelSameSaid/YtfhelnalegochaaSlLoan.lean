/- What is held alone, lent for a call; a row in another order. Conditions: none. -/
import Derived.Test.YtfhelnalegochaaSlRows
namespace Go.Fw
open Go Go.RowKit
set_option linter.unusedVariables false
/-- For a while there for good; then held alone again. -/
theorem SL.borrow {w0 : World} {I : Foot} {p : HP} {L : List HP} {w : World} (h : SL w0 I (p :: L) w) : ∃ R, p R ∧ SL w0 (R ++ I) L w ∧ ∀ L' w', SL w0 (R ++ I) L' w' → SL w0 I (p :: L') w' := by
  obtain ⟨H, R, Rs, h1, hp, h2, h3⟩ := h.uncons
  refine ⟨R, hp, ?_, fun L' w' h' => ?_⟩
  · have key : ∀ (R : Foot) (H : HeapP) (I : Foot), (∀ b o, (b, o) ∈ I → H b = some o) → St w0 H (R ++ Rs.flatten) w → ∃ H', (∀ b o, (b, o) ∈ R ++ I → H' b = some o) ∧ St w0 H' Rs.flatten w := by
      intro R
      induction R with
      | nil => intro H I h1 h3; exact ⟨H, h1, h3⟩
      | cons q R ih =>
        intro H I h1 h3
        obtain ⟨H1, hle, hb, h4⟩ := St.freeze (b := q.1) (o := q.2) h3
        obtain ⟨H2, h5, h6⟩ := ih H1 ((q.1, q.2) :: I) (fun b o hm => by
          rcases List.mem_cons.1 hm with e | hm
          · cases e; exact hb
          · exact hle _ _ (h1 b o hm)) h4
        refine ⟨H2, fun b o hm => h5 b o ?_, h6⟩
        simp only [List.cons_append, List.mem_cons, List.mem_append] at hm ⊢
        rcases hm with e | hm | hm
        · exact .inr (.inl e)
        · exact .inl hm
        · exact .inr (.inr hm)
    obtain ⟨H', h4, h5⟩ := key R H I h1 h3
    exact ⟨H', Rs, h4, h2, h5⟩
  · obtain ⟨H', Rs', a1, a2, a3⟩ := h'
    classical
    have hR : ∀ q ∈ R, H q.1 = none ∧ w0.heap.size ≤ q.1 := fun q hq => (h3.own q (List.mem_append_left _ hq)).2
    have hR2 : ∀ q ∈ R, H' q.1 = some q.2 := fun q hq => a1 q.1 q.2 (List.mem_append_left _ hq)
    have hn := h3.nodup
    rw [List.map_append, List.nodup_append] at hn
    refine SL.cons (H := fun b => if b ∈ R.map (·.1) then none else H' b) (fun b o hb => ?_) hp a2 ⟨a3.below, fun b o hb => ?_, fun q hq => ?_, ?_, a3.drw⟩
    · have hnb : ¬ b ∈ R.map (·.1) := fun hm => by
        obtain ⟨q, hq, rfl⟩ := List.mem_map.1 hm
        have := h1 _ _ hb
        rw [(hR q hq).1] at this; cases this
      simp only [hnb, if_false]
      exact a1 b o (List.mem_append_right _ hb)
    · by_cases hm : b ∈ R.map (·.1)
      · simp only [hm, if_true] at hb; cases hb
      · simp only [hm, if_false] at hb; exact a3.imm b o hb
    · rcases List.mem_append.1 hq with hq | hq
      · have hm : q.1 ∈ R.map (·.1) := List.mem_map_of_mem hq
        exact ⟨a3.imm _ _ (hR2 q hq), by simp only [hm, if_true], (hR q hq).2⟩
      · obtain ⟨g1, g2, g3⟩ := a3.own q hq
        refine ⟨g1, ?_, g3⟩
        show (if q.1 ∈ R.map (·.1) then none else H' q.1) = none
        split
        · rfl
        · exact g2
    · rw [List.map_append, List.nodup_append]
      refine ⟨hn.1, a3.nodup, fun a ha b hb e => ?_⟩
      obtain ⟨q, hq, rfl⟩ := List.mem_map.1 ha
      obtain ⟨r, hr, rfl⟩ := List.mem_map.1 hb
      have := hR2 q hq
      rw [e, (a3.own r hr).2.1] at this; cases this
theorem RowH.perm {α : Type} [Enc α] {e : TypeId} {l l' : List (SV × List α)} (h : l.Perm l') : ∀ {L : List HP}, Ent (RowH e (l.map Prod.fst) (l.map Prod.snd) :: L) (RowH e (l'.map Prod.fst) (l'.map Prod.snd) :: L) := by
  induction h with
  | nil => exact Ent.refl
  | cons x _ ih =>
    intro L
    simp only [List.map_cons, RowH]
    exact Ent.unstar.trans ((Ent.cons ih).trans (Ent.star Ent.refl))
  | swap x y l =>
    intro L
    simp only [List.map_cons, RowH]
    exact Ent.unstar.trans ((Ent.cons Ent.unstar).trans (Ent.swap.trans ((Ent.cons (Ent.star Ent.refl)).trans (Ent.star Ent.refl))))
  | trans _ _ i1 i2 => exact i1.trans i2
theorem Tr.ap {P : Program} {f : FuncId} {args : Array Value} {A : World → Prop} {τ : Type} {val : τ → Value} {B : τ → World → Prop} (h : Tr P f args A val B) {w : World} (hw : A w) : Calls P f args w fun e w' => ∃ x, e = .returned (val x) ∧ B x w' := h w hw
theorem Tr.mk {P : Program} {f : FuncId} {args : Array Value} {A : World → Prop} {τ : Type} {val : τ → Value} {B : τ → World → Prop} (h : ∀ w, A w → Calls P f args w fun e w' => ∃ x, e = .returned (val x) ∧ B x w') : Tr P f args A val B := h
end Go.Fw
