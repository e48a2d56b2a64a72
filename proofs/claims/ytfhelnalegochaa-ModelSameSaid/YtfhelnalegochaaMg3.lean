/- Copies of lists of numbers. Conditions: none. -/
import Derived.Test.YtfhelnalegochaaMg2
namespace Go.Proofs.Ytfhelnalegochaa
open Go Go.Fw Go.RowKit
set_option linter.unusedVariables false
set_option linter.unusedSimpArgs false
set_option maxRecDepth 100000
set_option maxHeartbeats 16000000
set_option synthInstance.maxHeartbeats 200000
set_option synthInstance.maxSize 100000
attribute [local irreducible] WPA WLA WDA WDQ WDE QQ seqQ blockQ loopQ fnQ OpP OpT Tr TrP SL SLd OwnS LitS Bk BkE Ob
theorem Clone_tr {a : SV} {xs : List Int} {L : List HP} {w0 : World} {I : Foot} [ha : RdS I L a Int inferInstance xs] (hn : xs.length ≤ 1000000) : Tr Try.prog 72 #[.slice a.a a.n a.cap] (SL w0 I L) (fun r : SV => .slice r.a r.n r.cap) (fun r => SL w0 I (OwnS 3 r xs :: L)) := by
  refine Tr.intro Try.func72 rfl Try.ntmps72 rfl ?_
  repeat' (first | ((first | refine WLA.m rfl rfl ?_ ?_ | refine WLA.st rfl ?_ ?_ | refine WLA.x rfl rfl ?_ (fun x => ?_) | refine WLA.x0 rfl ?_ (fun x => ?_)); first | exact trivial | exact rfl | assumption | omega | (refine ⟨?_, ?_⟩ <;> omega) | (simp only [Room, List.length_set, List.length_append, List.length_cons, List.length_nil, List.length_replicate]; omega) | decide | skip) | (refine Stp.go ?_) | (refine WPA.ifT ?_) | (refine WPA.ifF ?_) | ((first | refine WPA.dec ?_); first | refine .inl ⟨by first | assumption | omega | with_reducible rfl | (refine fun h => h ?_; assumption) | (simp only [List.length_append, List.length_cons, List.length_nil, List.length_set] <;> omega) | decide, ?_⟩ | refine .inr ⟨by first | assumption | omega | with_reducible rfl | (refine fun h => h ?_; assumption) | (simp only [List.length_append, List.length_cons, List.length_nil, List.length_set] <;> omega) | decide, ?_⟩) | ((first | refine WPA.ifBt ?_ ?_ | refine WPA.ifBnf ?_ ?_); assumption) | ((first | refine WPA.ifBnt ?_ ?_ | refine WPA.ifBf ?_ ?_); assumption) | ((first | refine WPA.ifs ?_ ?_ | refine WPA.ifB ?_ ?_) <;> intro hc))
  · refine QQ.end_ rfl SV.nil rfl fun w h => ?_
    have hr := ha.out w0 w h
    have h0 : xs = [] := by
      have hn := hr.len
      rcases hr.plain with h0 | ⟨b, o, e⟩
      · exact List.eq_nil_of_length_eq_zero (by omega)
      · rw [e] at hc; cases hc
    rw [h0]
    exact h.to
  · exact QQ.end_ rfl x rfl fun w h => h.to
end Go.Proofs.Ytfhelnalegochaa
