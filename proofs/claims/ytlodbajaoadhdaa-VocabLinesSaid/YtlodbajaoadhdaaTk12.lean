/- TokenBack: the walk. Conditions: none. -/
import Derived.Test.YtlodbajaoadhdaaTk11
namespace Go.Proofs.Ytlodbajaoadhdaa
open Go Go.Fw Go.RowKit
set_option linter.unusedVariables false
set_option linter.unusedSimpArgs false
set_option maxRecDepth 100000
set_option maxHeartbeats 16000000
set_option synthInstance.maxHeartbeats 200000
set_option synthInstance.maxSize 100000
attribute [local irreducible] WPA WLA WDA WDQ WDE QQ seqQ blockQ loopQ fnQ OpP OpT Tr TrP SL SLd OwnS LitS Bk BkE Ob

/-- The first i texts, joined. -/
def jt (l : List ByteArray) : Nat → ByteArray
  | 0 => ⟨#[]⟩
  | i + 1 => (if 0 < i then jt l i ++ ⟨#[32]⟩ else jt l i) ++ at_ l i
theorem app_list (a b : ByteArray) : (a ++ b).data.toList = a.data.toList ++ b.data.toList := by
  rw [ByteArray.data_append, Array.toList_append]
theorem jt_data (l : List ByteArray) : ∀ i, i ≤ l.length → (jt l i).data.toList = jl (l.take i)
  | 0, _ => rfl
  | 1, h => by
    rw [jt, if_neg (by omega), app_list, List.take_add_one, List.getElem?_eq_getElem (by omega), at_nat l 0 (by omega)]
    rfl
  | i + 2, h => by
    have ih := jt_data l (i + 1) (by omega)
    rw [jt, if_pos (by omega), app_list, app_list, ih, List.take_add_one (i := i + 1), List.getElem?_eq_getElem (by omega), Option.toList_some, jl_snoc _ _ (fun e => by have := congrArg List.length e; rw [List.length_take, List.length_nil] at this; omega), at_nat l (i + 1) (by omega)]
    simp
theorem jt_size (l : List ByteArray) (h : ∀ w ∈ l, w.size ≤ 255) : ∀ i, i ≤ l.length → (jt l i).size ≤ i * 256
  | 0, _ => Nat.le_refl _
  | i + 1, hi => by
    have ih := jt_size l h i (by omega)
    have hw := h _ (List.getElem_mem (show i < l.length by omega))
    rw [← at_nat l i (by omega)] at hw
    rw [jt]
    split
    · rw [ByteArray.size_append, ByteArray.size_append]
      have : (⟨#[32]⟩ : ByteArray).size = 1 := rfl
      omega
    · rw [ByteArray.size_append]; omega
theorem Join_tr {a : SV} {l : List ByteArray} {L : List HP} {w0 : World} {I : Foot} [ha : RdS I L a ByteArray inferInstance l] (hn : l.length ≤ 60) (hz : ∀ w ∈ l, w.size ≤ 255) : TrP Try.prog 88 #[.slice a.a a.n a.cap] (SL w0 I L) (.string (jt l l.length)) := by
  refine TrP.ofD fun u => Tr.intro Try.func88 rfl Try.ntmps88 rfl ?_
  repeat' (first | ((first | refine WLA.m rfl rfl ?_ ?_ | refine WLA.st rfl ?_ ?_ | refine WLA.x rfl rfl ?_ (fun x => ?_) | refine WLA.x0 rfl ?_ (fun x => ?_)); first | exact trivial | exact rfl | assumption | omega | (refine ⟨?_, ?_⟩ <;> omega) | (simp only [Room, List.length_set, List.length_append, List.length_cons, List.length_nil, List.length_replicate]; omega) | decide | skip) | (refine Stp.go ?_) | (refine WPA.ifT ?_) | (refine WPA.ifF ?_) | ((first | refine WPA.dec ?_); first | refine .inl ⟨by first | assumption | omega | with_reducible rfl | (refine fun h => h ?_; first | assumption | with_reducible rfl) | (simp only [List.length_append, List.length_cons, List.length_nil, List.length_set] <;> omega) | decide, ?_⟩ | refine .inr ⟨by first | assumption | omega | with_reducible rfl | (refine fun h => h ?_; first | assumption | with_reducible rfl) | (simp only [List.length_append, List.length_cons, List.length_nil, List.length_set] <;> omega) | decide, ?_⟩) | ((first | refine WPA.ifBt ?_ ?_ | refine WPA.ifBnf ?_ ?_); assumption) | ((first | refine WPA.ifBnt ?_ ?_ | refine WPA.ifBf ?_ ?_); assumption) | ((first | refine WPA.ifs ?_ ?_ | refine WPA.ifB ?_ ?_) <;> intro hc))
  refine WPA.loopS (σ := Nat) (fun i => [(0, .slice a.a a.n a.cap), (3, .string (jt l i)), (4, .int .i64 i)]) (fun i => i ≤ l.length)
    (fun i => SLd w0 I L u) (fun i => l.length - i) 0 ⟨rfl, rfl, rfl, trivial⟩ (Nat.zero_le _) (fun w h => h) ?_
  intro i ρ hi
  by_cases hlt : i < l.length
  · have hlt' : (i : Int) < l.length := by omega
    have hjs := jt_size l hz i hi
    have hw := hz _ (List.getElem_mem hlt)
    rw [← at_nat l i hlt] at hw
    have h32 : (⟨#[32]⟩ : ByteArray).size = 1 := rfl
    have hcat : (jt l i ++ (⟨#[32]⟩ : ByteArray)).size = (jt l i).size + 1 := by rw [ByteArray.size_append]; rfl
    by_cases h0 : 0 < i
    · have h0' : (0 : Int) < i := by omega
      repeat' (first | ((first | refine WLA.m rfl rfl ?_ ?_ | refine WLA.st rfl ?_ ?_ | refine WLA.x rfl rfl ?_ (fun x => ?_) | refine WLA.x0 rfl ?_ (fun x => ?_)); first | exact trivial | exact rfl | assumption | omega | (refine ⟨?_, ?_⟩ <;> omega) | (simp only [Room, List.length_set, List.length_append, List.length_cons, List.length_nil, List.length_replicate]; omega) | decide | skip) | (refine Stp.go ?_) | (refine WPA.ifT ?_) | (refine WPA.ifF ?_) | ((first | refine WPA.dec ?_); first | refine .inl ⟨by first | assumption | omega | with_reducible rfl | (refine fun h => h ?_; first | assumption | with_reducible rfl) | (simp only [List.length_append, List.length_cons, List.length_nil, List.length_set] <;> omega) | decide, ?_⟩ | refine .inr ⟨by first | assumption | omega | with_reducible rfl | (refine fun h => h ?_; first | assumption | with_reducible rfl) | (simp only [List.length_append, List.length_cons, List.length_nil, List.length_set] <;> omega) | decide, ?_⟩) | ((first | refine WPA.ifBt ?_ ?_ | refine WPA.ifBnf ?_ ?_); assumption) | ((first | refine WPA.ifBnt ?_ ?_ | refine WPA.ifBf ?_ ?_); assumption) | ((first | refine WPA.ifs ?_ ?_ | refine WPA.ifB ?_ ?_) <;> intro hc))
      have e : jt l (i + 1) = jt l i ++ ⟨#[32]⟩ ++ at_ l i := by rw [jt, if_pos h0]
      exact QQ.loopS (i + 1) ⟨rfl, by rw [e]; rfl, rfl, trivial⟩ hlt (by omega) (fun w h => h)
    · have h0' : ¬ (0 : Int) < i := by omega
      repeat' (first | ((first | refine WLA.m rfl rfl ?_ ?_ | refine WLA.st rfl ?_ ?_ | refine WLA.x rfl rfl ?_ (fun x => ?_) | refine WLA.x0 rfl ?_ (fun x => ?_)); first | exact trivial | exact rfl | assumption | omega | (refine ⟨?_, ?_⟩ <;> omega) | (simp only [Room, List.length_set, List.length_append, List.length_cons, List.length_nil, List.length_replicate]; omega) | decide | skip) | (refine Stp.go ?_) | (refine WPA.ifT ?_) | (refine WPA.ifF ?_) | ((first | refine WPA.dec ?_); first | refine .inl ⟨by first | assumption | omega | with_reducible rfl | (refine fun h => h ?_; first | assumption | with_reducible rfl) | (simp only [List.length_append, List.length_cons, List.length_nil, List.length_set] <;> omega) | decide, ?_⟩ | refine .inr ⟨by first | assumption | omega | with_reducible rfl | (refine fun h => h ?_; first | assumption | with_reducible rfl) | (simp only [List.length_append, List.length_cons, List.length_nil, List.length_set] <;> omega) | decide, ?_⟩) | ((first | refine WPA.ifBt ?_ ?_ | refine WPA.ifBnf ?_ ?_); assumption) | ((first | refine WPA.ifBnt ?_ ?_ | refine WPA.ifBf ?_ ?_); assumption) | ((first | refine WPA.ifs ?_ ?_ | refine WPA.ifB ?_ ?_) <;> intro hc))
      have e : jt l (i + 1) = jt l i ++ at_ l i := by rw [jt, if_neg h0]
      exact QQ.loopS (i + 1) ⟨rfl, by rw [e]; rfl, rfl, trivial⟩ hlt (by omega) (fun w h => h)
  · have hlt' : ¬ (i : Int) < l.length := by omega
    have e : i = l.length := by omega
    subst e
    repeat' (first | ((first | refine WLA.m rfl rfl ?_ ?_ | refine WLA.st rfl ?_ ?_ | refine WLA.x rfl rfl ?_ (fun x => ?_) | refine WLA.x0 rfl ?_ (fun x => ?_)); first | exact trivial | exact rfl | assumption | omega | (refine ⟨?_, ?_⟩ <;> omega) | (simp only [Room, List.length_set, List.length_append, List.length_cons, List.length_nil, List.length_replicate]; omega) | decide | skip) | (refine Stp.go ?_) | (refine WPA.ifT ?_) | (refine WPA.ifF ?_) | ((first | refine WPA.dec ?_); first | refine .inl ⟨by first | assumption | omega | with_reducible rfl | (refine fun h => h ?_; first | assumption | with_reducible rfl) | (simp only [List.length_append, List.length_cons, List.length_nil, List.length_set] <;> omega) | decide, ?_⟩ | refine .inr ⟨by first | assumption | omega | with_reducible rfl | (refine fun h => h ?_; first | assumption | with_reducible rfl) | (simp only [List.length_append, List.length_cons, List.length_nil, List.length_set] <;> omega) | decide, ?_⟩) | ((first | refine WPA.ifBt ?_ ?_ | refine WPA.ifBnf ?_ ?_); assumption) | ((first | refine WPA.ifBnt ?_ ?_ | refine WPA.ifBf ?_ ?_); assumption) | ((first | refine WPA.ifs ?_ ?_ | refine WPA.ifB ?_ ?_) <;> intro hc))
    exact QQ.end_ rfl () rfl fun w h => h
end Go.Proofs.Ytlodbajaoadhdaa
