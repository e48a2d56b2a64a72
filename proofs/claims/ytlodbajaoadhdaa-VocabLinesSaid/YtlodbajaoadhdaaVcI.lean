/- The numbers of words. Conditions: none. -/
import Derived.Test.YtlodbajaoadhdaaVc4
namespace Go.Proofs.Ytlodbajaoadhdaa
open Go Go.Fw Go.RowKit
set_option linter.unusedVariables false
set_option linter.unusedSimpArgs false
set_option maxRecDepth 100000
set_option maxHeartbeats 16000000
set_option synthInstance.maxHeartbeats 200000
set_option synthInstance.maxSize 100000
attribute [local irreducible] WPA WLA WDA WDQ WDE QQ seqQ blockQ loopQ fnQ OpP OpT Tr TrP SL SLd OwnS LitS Bk BkE Ob
attribute [local irreducible] TblH VocH
section
variable {L L' : List HP} {w0 : World} {I : Foot}
/-- The numbers of words. -/
def idsL (texts ws : List ByteArray) : List Int := ws.map fun s => max (findT texts s) 0
theorem IDs_trV {V : Nat} {texts : List ByteArray} {a : SV} {ws : List ByteArray} [h : FindK L VocH V texts L'] [ha : RdS I L a ByteArray inferInstance ws] (hn : ws.length ≤ 1000000) (hz : ∀ s ∈ ws, s.size ≤ 140737488355328) :
    Tr Try.prog 25 #[.pointer (some ⟨V, 0, none⟩), .slice a.a a.n a.cap] (SL w0 I L) (fun r : SV => .slice r.a r.n r.cap) (fun r => SL w0 I (OwnS 3 r (idsL texts ws) :: L)) := by
  refine Tr.intro Try.func25 rfl Try.ntmps25 rfl ?_
  repeat' (first | ((first | refine WLA.m rfl rfl ?_ ?_ | refine WLA.st rfl ?_ ?_ | refine WLA.x rfl rfl ?_ (fun x => ?_) | refine WLA.x0 rfl ?_ (fun x => ?_)); first | exact trivial | exact rfl | assumption | omega | (refine ⟨?_, ?_⟩ <;> omega) | (simp only [Room, List.length_set, List.length_append, List.length_cons, List.length_nil, List.length_replicate]; omega) | decide | skip) | (refine Stp.go ?_) | (refine WPA.ifT ?_) | (refine WPA.ifF ?_) | ((first | refine WPA.dec ?_); first | refine .inl ⟨by first | assumption | omega | with_reducible rfl | (refine fun h => h ?_; first | assumption | with_reducible rfl) | (simp only [List.length_append, List.length_cons, List.length_nil, List.length_set] <;> omega) | decide, ?_⟩ | refine .inr ⟨by first | assumption | omega | with_reducible rfl | (refine fun h => h ?_; first | assumption | with_reducible rfl) | (simp only [List.length_append, List.length_cons, List.length_nil, List.length_set] <;> omega) | decide, ?_⟩) | ((first | refine WPA.ifBt ?_ ?_ | refine WPA.ifBnf ?_ ?_); assumption) | ((first | refine WPA.ifBnt ?_ ?_ | refine WPA.ifBf ?_ ?_); assumption) | ((first | refine WPA.ifs ?_ ?_ | refine WPA.ifB ?_ ?_) <;> intro hc))
  refine WPA.loopS (σ := Nat × SV) (fun y => [(0, .pointer (some ⟨V, 0, none⟩)), (5, .slice y.2.a y.2.n y.2.cap), (11, .slice a.a a.n a.cap), (12, .int .i64 ws.length), (13, .int .i64 y.1)]) (fun y => y.1 ≤ ws.length)
    (fun y => SL w0 I (OwnS 3 y.2 (idsL texts (ws.take y.1)) :: L)) (fun y => ws.length - y.1) (0, x) ⟨rfl, rfl, rfl, rfl, rfl, trivial⟩ (Nat.zero_le _) (fun w h => by
      have e : List.replicate (Int.toNat 0) (0 : Int) = [] := rfl
      rw [e] at h
      show SL w0 I (OwnS 3 x ([] : List Int) :: L) w
      exact h.to) ?_
  rintro ⟨i, r⟩ ρ hi
  dsimp only at hi ⊢
  have hil : (idsL texts (ws.take i)).length = i := by unfold idsL; rw [List.length_map, List.length_take]; omega
  by_cases hlt : i < ws.length
  · have hlt' : (i : Int) < ws.length := by omega
    have hat := at_nat ws i hlt
    have hsz := hz _ (List.getElem_mem hlt)
    rw [← hat] at hsz
    have e : idsL texts (ws.take (i + 1)) = idsL texts (ws.take i) ++ [max (findT texts (at_ ws (i : Int))) 0] := by
      unfold idsL
      rw [List.take_add_one, List.getElem?_eq_getElem hlt, hat, List.map_append]; rfl
    repeat' (first | ((first | refine WLA.m rfl rfl ?_ ?_ | refine WLA.st rfl ?_ ?_ | refine WLA.x rfl rfl ?_ (fun x => ?_) | refine WLA.x0 rfl ?_ (fun x => ?_)); first | exact trivial | exact rfl | assumption | omega | (refine ⟨?_, ?_⟩ <;> omega) | (simp only [Room, List.length_set, List.length_append, List.length_cons, List.length_nil, List.length_replicate]; omega) | decide | skip) | (refine Stp.go ?_) | (guard_target =~ WLA _ _ _ _ _ (⟨_, .call ⟨.value (.func 84), _, _⟩, _, _, _, _⟩ :: _) _ _; refine WLA.cq rfl rfl (ID_trV hsz) ?_) | (refine WPA.ifT ?_) | (refine WPA.ifF ?_) | ((first | refine WPA.dec ?_); first | refine .inl ⟨by first | assumption | omega | with_reducible rfl | (refine fun h => h ?_; first | assumption | with_reducible rfl) | (simp only [List.length_append, List.length_cons, List.length_nil, List.length_set] <;> omega) | decide, ?_⟩ | refine .inr ⟨by first | assumption | omega | with_reducible rfl | (refine fun h => h ?_; first | assumption | with_reducible rfl) | (simp only [List.length_append, List.length_cons, List.length_nil, List.length_set] <;> omega) | decide, ?_⟩) | ((first | refine WPA.ifBt ?_ ?_ | refine WPA.ifBnf ?_ ?_); assumption) | ((first | refine WPA.ifBnt ?_ ?_ | refine WPA.ifBf ?_ ?_); assumption) | ((first | refine WPA.ifs ?_ ?_ | refine WPA.ifB ?_ ?_) <;> intro hc))
    refine QQ.loopS (i + 1, _) ⟨rfl, rfl, rfl, rfl, rfl, trivial⟩ hlt (by dsimp only; omega) (fun w h => ?_)
    dsimp only
    rw [e]
    exact h.to
  · have hlt' : ¬ (i : Int) < ws.length := by omega
    rw [List.take_of_length_le (by omega)]
    repeat' (first | ((first | refine WLA.m rfl rfl ?_ ?_ | refine WLA.st rfl ?_ ?_ | refine WLA.x rfl rfl ?_ (fun x => ?_) | refine WLA.x0 rfl ?_ (fun x => ?_)); first | exact trivial | exact rfl | assumption | omega | (refine ⟨?_, ?_⟩ <;> omega) | (simp only [Room, List.length_set, List.length_append, List.length_cons, List.length_nil, List.length_replicate]; omega) | decide | skip) | (refine Stp.go ?_) | (refine WPA.ifT ?_) | (refine WPA.ifF ?_) | ((first | refine WPA.dec ?_); first | refine .inl ⟨by first | assumption | omega | with_reducible rfl | (refine fun h => h ?_; first | assumption | with_reducible rfl) | (simp only [List.length_append, List.length_cons, List.length_nil, List.length_set] <;> omega) | decide, ?_⟩ | refine .inr ⟨by first | assumption | omega | with_reducible rfl | (refine fun h => h ?_; first | assumption | with_reducible rfl) | (simp only [List.length_append, List.length_cons, List.length_nil, List.length_set] <;> omega) | decide, ?_⟩) | ((first | refine WPA.ifBt ?_ ?_ | refine WPA.ifBnf ?_ ?_); assumption) | ((first | refine WPA.ifBnt ?_ ?_ | refine WPA.ifBf ?_ ?_); assumption) | ((first | refine WPA.ifs ?_ ?_ | refine WPA.ifB ?_ ?_) <;> intro hc))
    exact QQ.end_ rfl r rfl fun w h => h.to
theorem rIDs_tr {v a : SV} {texts ws : List ByteArray} [hv : RdS I L v ByteArray inferInstance texts] [ha : RdS I L a ByteArray inferInstance ws] (hn : texts.length ≤ 1000000000) (hw : ws.length ≤ 1000000) :
    Tr Try.prog 26 #[.slice v.a v.n v.cap, .slice a.a a.n a.cap] (SL w0 I L) (fun r : SV => .slice r.a r.n r.cap) (fun r => SL w0 I (OwnS 3 r (idsL texts ws) :: L)) := by
  refine Tr.intro Try.func26 rfl Try.ntmps26 rfl ?_
  repeat' (first | ((first | refine WLA.m rfl rfl ?_ ?_ | refine WLA.st rfl ?_ ?_ | refine WLA.x rfl rfl ?_ (fun x => ?_) | refine WLA.x0 rfl ?_ (fun x => ?_)); first | exact trivial | exact rfl | assumption | omega | (refine ⟨?_, ?_⟩ <;> omega) | (simp only [Room, List.length_set, List.length_append, List.length_cons, List.length_nil, List.length_replicate]; omega) | decide | skip) | (refine Stp.go ?_) | (refine WPA.ifT ?_) | (refine WPA.ifF ?_) | ((first | refine WPA.dec ?_); first | refine .inl ⟨by first | assumption | omega | with_reducible rfl | (refine fun h => h ?_; first | assumption | with_reducible rfl) | (simp only [List.length_append, List.length_cons, List.length_nil, List.length_set] <;> omega) | decide, ?_⟩ | refine .inr ⟨by first | assumption | omega | with_reducible rfl | (refine fun h => h ?_; first | assumption | with_reducible rfl) | (simp only [List.length_append, List.length_cons, List.length_nil, List.length_set] <;> omega) | decide, ?_⟩) | ((first | refine WPA.ifBt ?_ ?_ | refine WPA.ifBnf ?_ ?_); assumption) | ((first | refine WPA.ifBnt ?_ ?_ | refine WPA.ifBf ?_ ?_); assumption) | ((first | refine WPA.ifs ?_ ?_ | refine WPA.ifB ?_ ?_) <;> intro hc))
  refine WPA.loopS (σ := Nat × SV) (fun y => [(0, .slice v.a v.n v.cap), (1, .slice a.a a.n a.cap), (5, .slice y.2.a y.2.n y.2.cap), (6, .int .i64 y.1)]) (fun y => y.1 ≤ ws.length)
    (fun y => SL w0 I (OwnS 3 y.2 (idsL texts (ws.take y.1)) :: L)) (fun y => ws.length - y.1) (0, SV.nil) ⟨rfl, rfl, rfl, rfl, trivial⟩ (Nat.zero_le _) (fun w h => by
      show SL w0 I (OwnS 3 SV.nil ([] : List Int) :: L) w
      exact h.to) ?_
  rintro ⟨i, r⟩ ρ hi
  dsimp only at hi ⊢
  have hil : (idsL texts (ws.take i)).length = i := by unfold idsL; rw [List.length_map, List.length_take]; omega
  by_cases hlt : i < ws.length
  · have hlt' : (i : Int) < ws.length := by omega
    have hat := at_nat ws i hlt
    have e : idsL texts (ws.take (i + 1)) = idsL texts (ws.take i) ++ [max (findT texts (at_ ws (i : Int))) 0] := by
      unfold idsL
      rw [List.take_add_one, List.getElem?_eq_getElem hlt, hat, List.map_append]; rfl
    repeat' (first | ((first | refine WLA.m rfl rfl ?_ ?_ | refine WLA.st rfl ?_ ?_ | refine WLA.x rfl rfl ?_ (fun x => ?_) | refine WLA.x0 rfl ?_ (fun x => ?_)); first | exact trivial | exact rfl | assumption | omega | (refine ⟨?_, ?_⟩ <;> omega) | (simp only [Room, List.length_set, List.length_append, List.length_cons, List.length_nil, List.length_replicate]; omega) | decide | skip) | (refine Stp.go ?_) | (guard_target =~ WLA _ _ _ _ _ (⟨_, .call ⟨.value (.func 85), _, _⟩, _, _, _, _⟩ :: _) _ _; refine WLA.cq rfl rfl (rID_tr hn) ?_) | (refine WPA.ifT ?_) | (refine WPA.ifF ?_) | ((first | refine WPA.dec ?_); first | refine .inl ⟨by first | assumption | omega | with_reducible rfl | (refine fun h => h ?_; first | assumption | with_reducible rfl) | (simp only [List.length_append, List.length_cons, List.length_nil, List.length_set] <;> omega) | decide, ?_⟩ | refine .inr ⟨by first | assumption | omega | with_reducible rfl | (refine fun h => h ?_; first | assumption | with_reducible rfl) | (simp only [List.length_append, List.length_cons, List.length_nil, List.length_set] <;> omega) | decide, ?_⟩) | ((first | refine WPA.ifBt ?_ ?_ | refine WPA.ifBnf ?_ ?_); assumption) | ((first | refine WPA.ifBnt ?_ ?_ | refine WPA.ifBf ?_ ?_); assumption) | ((first | refine WPA.ifs ?_ ?_ | refine WPA.ifB ?_ ?_) <;> intro hc))
    refine QQ.loopS (i + 1, _) ⟨rfl, rfl, rfl, rfl, trivial⟩ hlt (by dsimp only; omega) (fun w h => ?_)
    dsimp only
    rw [e]
    exact h.to
  · have hlt' : ¬ (i : Int) < ws.length := by omega
    rw [List.take_of_length_le (by omega)]
    repeat' (first | ((first | refine WLA.m rfl rfl ?_ ?_ | refine WLA.st rfl ?_ ?_ | refine WLA.x rfl rfl ?_ (fun x => ?_) | refine WLA.x0 rfl ?_ (fun x => ?_)); first | exact trivial | exact rfl | assumption | omega | (refine ⟨?_, ?_⟩ <;> omega) | (simp only [Room, List.length_set, List.length_append, List.length_cons, List.length_nil, List.length_replicate]; omega) | decide | skip) | (refine Stp.go ?_) | (refine WPA.ifT ?_) | (refine WPA.ifF ?_) | ((first | refine WPA.dec ?_); first | refine .inl ⟨by first | assumption | omega | with_reducible rfl | (refine fun h => h ?_; first | assumption | with_reducible rfl) | (simp only [List.length_append, List.length_cons, List.length_nil, List.length_set] <;> omega) | decide, ?_⟩ | refine .inr ⟨by first | assumption | omega | with_reducible rfl | (refine fun h => h ?_; first | assumption | with_reducible rfl) | (simp only [List.length_append, List.length_cons, List.length_nil, List.length_set] <;> omega) | decide, ?_⟩) | ((first | refine WPA.ifBt ?_ ?_ | refine WPA.ifBnf ?_ ?_); assumption) | ((first | refine WPA.ifBnt ?_ ?_ | refine WPA.ifBf ?_ ?_); assumption) | ((first | refine WPA.ifs ?_ ?_ | refine WPA.ifB ?_ ?_) <;> intro hc))
    exact QQ.end_ rfl r rfl fun w h => h.to
end
end Go.Proofs.Ytlodbajaoadhdaa
