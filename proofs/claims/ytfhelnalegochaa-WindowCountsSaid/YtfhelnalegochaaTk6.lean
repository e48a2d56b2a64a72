/- Sentences: All. Conditions: none. -/
import Derived.Test.YtfhelnalegochaaTk5
namespace Go.Fw
open Go Go.RowKit
/-- A row of slices of texts, each held alone. -/
def RowsH (e : TypeId) : List SV → List (List ByteArray) → HP
  | s :: ss, t :: ts => star (OwnS e s t) (RowsH e ss ts)
  | _, _ => fun R => R = []
theorem RowsH.snoc {e : TypeId} {s : SV} {t : List ByteArray} : ∀ {ss : List SV} {ts : List (List ByteArray)} {L : List HP}, ss.length = ts.length → Ent (OwnS e s t :: RowsH e ss ts :: L) (RowsH e (ss ++ [s]) (ts ++ [t]) :: L)
  | [], [], L, _ => Ent.star (Ent.cons Ent.drop1 |>.trans (Ent.cons (Ent.intro1 (p := RowsH e [] []) rfl)))
  | s1 :: ss, t1 :: ts, L, h => by
    simp only [List.cons_append, RowsH]
    refine (Ent.cons Ent.unstar).trans (Ent.swap.trans ?_)
    refine (Ent.cons (RowsH.snoc (by simpa using h))).trans ?_
    exact Ent.star Ent.refl
  | [], t1 :: ts, L, h => by simp at h
  | s1 :: ss, [], L, h => by simp at h
theorem RowsH.nil {e : TypeId} {L : List HP} : Ent L (RowsH e [] [] :: L) := Ent.intro1 rfl
theorem RowsH.frozen {e : TypeId} : ∀ {ss : List SV} {ts : List (List ByteArray)} {R : Foot}, RowsH e ss ts R → ∀ i, i < ss.length → i < ts.length → SlI R (ss.getD i SV.nil) ByteArray inferInstance (ts.getD i [])
  | s :: ss, t :: ts, R, h, 0, _, _ => by
    obtain ⟨R1, R2, h1, h2, rfl⟩ := h
    have := SlI.ofOwn h1
    simp only [List.getD_cons_zero]
    exact SlI.left
  | s :: ss, t :: ts, R, h, i + 1, hi, hj => by
    obtain ⟨R1, R2, h1, h2, rfl⟩ := h
    have := RowsH.frozen h2 i (by simpa using hi) (by simpa using hj)
    simp only [List.getD_cons_succ]
    exact SlI.right
end Go.Fw
namespace Go.Proofs.Ytfhelnalegochaa
open Go Go.Fw Go.RowKit
set_option linter.unusedVariables false
set_option linter.unusedSimpArgs false
set_option maxRecDepth 100000
set_option maxHeartbeats 16000000
set_option synthInstance.maxHeartbeats 200000
set_option synthInstance.maxSize 100000
attribute [local irreducible] WPA WLA WDA WDQ WDE QQ seqQ blockQ loopQ fnQ OpP OpT Tr TrP SL SLd OwnS LitS Bk BkE Ob
attribute [local irreducible] RowsH

def sent (p : ByteArray) : List (List ByteArray) := if wordsL p = [] then [] else [wordsL p]
def allL (s : ByteArray) : List (List ByteArray) := (linesL s).flatMap sent
theorem lns_size {s : ByteArray} : ∀ (k f : Nat), ∀ p ∈ lns s f k, p.size ≤ s.size
  | 0, f, p, h => by simp only [lns, List.mem_singleton] at h; subst h; simp
  | k + 1, f, p, h => by
    unfold lns at h
    split at h
    · rcases List.mem_cons.1 h with rfl | h
      · simp; omega
      · exact lns_size k _ p h
    · exact lns_size k _ p h
theorem lns_len {s : ByteArray} : ∀ (k f : Nat), (lns s f k).length ≤ k + 1
  | 0, f => by simp [lns]
  | k + 1, f => by
    unfold lns
    have h1 := lns_len (s := s) k f
    have h2 := lns_len (s := s) k (s.size - (k + 1) + 1)
    split
    · rw [List.length_cons]; omega
    · omega
theorem sent_len (p : ByteArray) : (sent p).length ≤ 1 := by unfold sent; split <;> simp
theorem linesL_size {s : ByteArray} {n : Nat} (h : s.size ≤ n) : ∀ p ∈ linesL s, p.size ≤ n := fun p hp => Nat.le_trans (lns_size s.size 0 p hp) h
theorem linesL_len (s : ByteArray) : (linesL s).length ≤ s.size + 1 := lns_len s.size 0
structure AS where
  rest : List ByteArray
  rows : List (List ByteArray)
  ss : List SV
  r : SV
  ix : Int
end Go.Proofs.Ytfhelnalegochaa
