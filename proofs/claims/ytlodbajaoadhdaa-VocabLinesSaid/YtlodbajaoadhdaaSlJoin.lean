/- Texts joined: the library's function. Conditions: none. -/
import Derived.Test.YtlodbajaoadhdaaSlRows
import Derived.Test.YtlodbajaoadhdaaSlOpen
import Derived.Shelf.Strings.OnBuilder
namespace Go.Fw
open Go Go.RowKit
set_option linter.unusedVariables false
theorem SL.grown {w0 : World} {I : Foot} {L : List HP} {w w' : World} (h0 : w0.drawn = 0) (h : SL w0 I L w) (hb : Below w.heap.size w w') : SL w0 I L w' := by
  obtain ⟨H, Rs, h1, h2, h⟩ := h
  have hk : ∀ b u, w.heap[b]? = some u → w'.heap[b]? = some u := fun b u e => by
    rw [hb.block b (Array.getElem?_eq_some_iff.1 e).1]; exact e
  refine ⟨H, Rs, h1, h2, ⟨⟨hb.os.trans h.below.os, hb.tape.trans h.below.tape, hb.output.trans h.below.output, Nat.le_trans h.below.size hb.size, fun k hk' => ?_⟩, fun b u e => hk b u (h.imm b u e), fun p hp => ?_, h.nodup, by omega⟩⟩
  · rw [hb.block k (Nat.lt_of_lt_of_le hk' h.below.size)]; exact h.below.block k hk'
  · obtain ⟨g1, g2, g3⟩ := h.own p hp; exact ⟨hk _ _ g1, g2, g3⟩
/-- The texts, with sep between any two. -/
def joinB (xs : List ByteArray) (sep : ByteArray) : ByteArray := ⟨(Go.Lib.join (xs.map (·.data.toList)) sep.data.toList).toArray⟩
theorem Join_trL {P : Program} {ρ : Go.Shelf.Ren} {w0 : World} {I : Foot} {L : List HP} (Ly : Go.Proofs.Lays.n156 P ρ) (X : Go.Proofs.Builder.Extra P ρ) (h0 : w0.drawn = 0) {s : SV} {xs : List ByteArray} {sep : ByteArray} [hr : RdS I L s ByteArray inferInstance xs] (hlen : (joinB xs sep).size ≤ 140737488355328) (hn : xs.length ≤ 1000000000) :
    Tr P (ρ.f 156) #[.slice s.a s.n s.cap, .string sep] (SL w0 I L) (fun _ : Unit => .string (joinB xs sep)) (fun _ => SL w0 I L) := by
  intro w hw
  have h := hr.out w0 w hw
  have hl := h.len
  by_cases hx : xs = []
  · subst hx
    have hsn : s.n = 0 := by have := h.len; simpa using this
    rw [hsn]
    refine (Go.Proofs.Any.strings_Join_none Ly X s.a s.cap sep w).mono ?_
    rintro e w' ⟨rfl, rfl⟩
    exact ⟨(), rfl, hw⟩
  · have hpos : 0 < xs.length := List.length_pos_iff.2 hx
    rcases h.plain with h1 | ⟨b, o, ha⟩
    · omega
    · have hc : ∀ (j : Nat) x, xs[j]? = some x → w.cell? ⟨b, o + j, none⟩ = some (.string x) := fun j x hj => by
        have hjl := (List.getElem?_eq_some_iff.1 hj).1
        have hc := h.cells j 0 (.string x) hjl (by rw [List.getD_eq_getElem?_getD, hj]; rfl)
        simp only [eAddr, ha, Option.getD_some] at hc
        have e1 : Enc.sz ByteArray = 1 := rfl
        rw [e1] at hc
        simpa using hc
      have hb : b < w.heap.size := by
        have := hc 0 _ (List.getElem?_eq_getElem hpos)
        unfold World.cell? at this
        cases hh : w.heap[b]? with
        | none => simp [hh] at this
        | some u => exact (Array.getElem?_eq_some_iff.1 hh).1
      have key := Go.Proofs.Any.strings_Join Ly X b o s.cap xs sep w hc hb (by omega) (by have := h.cap; omega) (by
        unfold joinB at hlen
        rw [ByteArray.size, List.size_toArray] at hlen; exact hlen)
      rw [ha, hl]
      refine key.mono ?_
      rintro e w' ⟨rfl, hb'⟩
      exact ⟨(), rfl, hw.grown h0 hb'⟩
/-- A law, out of a walk whose first world has drawn nothing. -/
theorem Calls.below0 {P : Program} {f : FuncId} {args : Array Value} {w : World} {I : Foot} {L : List HP} (h : Tr P f args (SL { w with drawn := 0 } (allB w) []) (fun _ : Unit => .bool true) (fun _ => SL { w with drawn := 0 } I L)) : Calls P f args w fun e w' => e = .returned (.bool true) ∧ Below w.heap.size w w' := by
  have h0 : SL { w with drawn := 0 } (allB w) [] w := ⟨fun b => w.heap[b]?, [], fun b o hb => mem_allB.1 hb, trivial, ⟨⟨rfl, rfl, rfl, Nat.le_refl _, fun _ _ => rfl⟩, fun _ _ h => h, fun _ h => (by cases h), List.nodup_nil, Nat.zero_le _⟩⟩
  refine (h w h0).mono fun e w' ⟨_, he, hs⟩ => ⟨he, ?_⟩
  have hb := hs.below
  exact ⟨hb.os, hb.tape, hb.output, hb.size, hb.block⟩
end Go.Fw
