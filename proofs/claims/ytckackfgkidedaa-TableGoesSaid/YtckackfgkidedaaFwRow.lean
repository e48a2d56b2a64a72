/- What a law's row hands in, in the words of the walks. Conditions: none. -/
import Derived.Test.YtckackfgkidedaaFwMore3
import Derived.SliceStrings
import Derived.SizedLaws
namespace Go.Fw
open Go Go.RowKit Go.ChangeShapes
set_option linter.unusedVariables false

theorem strs_weights {H : Type} {P : Program} {e : TypeId} : ∀ {ss : List ByteArray} {s : ByteArray}, s ∈ ss → s.size ∈ DataW.weightsAll P e (strs ss : List (DataW H))
  | [], s, h => by cases h
  | a :: ss, s, h => by
    simp only [strs, List.map_cons, DataW.weightsAll, DataW.weights, List.mem_append, List.mem_singleton]
    rcases List.mem_cons.1 h with rfl | h
    · left; simp
    · right; exact strs_weights h

theorem open_strs {H : Type} {enc : TypeId × Value → H} {P : Program} {w : World} {base : Nat} {held : Bool} {t e : TypeId} {a : Option Addr} {len cap : Nat} {d : DataW H} {p : List MemPlace} {ts : List TypeId} {ds : List (DataW H)} {j : Nat}
    (ht : P.underlying t = some (.slice e)) (he : P.underlying e = some .string) (hc : P.cellsOf e = 1) (hb : P.bytesOf e = 16) (h : DataW.Trod enc P w base (fun _ => true) held t (.slice a len cap) d p)
    (hsz : (DataW.weightsEach P ts ds).all (· ≤ reachBytes) = true) (hts : ts[j]? = some t) (hds : ds[j]? = some d) :
    ∃ l : List ByteArray, Rd (fun b => w.heap[b]?) [] 1 (.slice a len cap) l.length (l.map Value.string) ∧ l.length ≤ 140737488355328 ∧ (∀ s ∈ l, s.size ≤ 140737488355328) ∧ (len = l.length ∧ (d = .nil ∨ ∃ r, d = .slice (strs l) r)) := by
  obtain ⟨fuel, hf⟩ := h
  have hall : ∀ n ∈ d.weights P t, n ≤ reachBytes := fun n hn => by
    have := List.all_eq_true.1 hsz _ (DataW.weights_mem_each hts hds n hn)
    simpa using this
  rcases open_strings ht he hc hf with ⟨h1, h2⟩ | ⟨a', len', cap', ss, h1, _, hlc, hcm, hss, h2, hcell, _⟩
  · simp only [Value.cells, List.cons.injEq, Value.slice.injEq, and_true] at h1
    obtain ⟨rfl, rfl, rfl⟩ := h1
    cases h2
    exact ⟨[], ⟨by simp, .inl ⟨none, 0, rfl, rfl⟩⟩, by simp, by simp, rfl, .inl rfl⟩
  · simp only [Value.cells, List.cons.injEq, Value.slice.injEq, and_true] at h1
    obtain ⟨rfl, rfl, rfl⟩ := h1
    rw [if_pos rfl] at hss
    have hd : d = .slice (strs (ss.take len)) (strs (ss.drop len)) := (Prod.mk.inj h2).1
    subst hd
    have hlen : (ss.take len).length = len := by rw [List.length_take]; omega
    simp only [DataW.weights, ht] at hall
    have h16 := hall _ (List.mem_cons_self ..)
    refine ⟨ss.take len, ?_, ?_, ?_, hlen.symm, .inr ⟨_, rfl⟩⟩
    · rw [hlen]
      refine rd_cells (by rw [List.length_map, hlen]) hlc fun i hi => ?_
      have hi' : i < ss.length := by omega
      rw [hcell i hi', List.getElem?_map, List.getElem?_take, if_pos hi, List.getElem?_eq_getElem hi']
      simp [List.getD_eq_getElem?_getD, hi']
    · simp only [strs, List.length_map, hb, reachBytes] at h16
      omega
    · intro s hs
      have := hall _ (List.mem_cons_of_mem _ (List.mem_append_left _ (strs_weights (P := P) (e := e) hs)))
      simp only [reachBytes] at this
      omega
end Go.Fw
