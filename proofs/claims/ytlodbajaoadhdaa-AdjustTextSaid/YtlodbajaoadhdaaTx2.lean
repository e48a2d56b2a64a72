/- Sentences as numbers: the reference. Conditions: none. -/
import Derived.Test.YtlodbajaoadhdaaTx1
namespace Go.Proofs.Ytlodbajaoadhdaa
open Go Go.Fw Go.RowKit
set_option linter.unusedVariables false
set_option linter.unusedSimpArgs false
set_option maxRecDepth 100000
set_option maxHeartbeats 16000000
set_option synthInstance.maxHeartbeats 200000
set_option synthInstance.maxSize 100000
attribute [local irreducible] WPA WLA WDA WDQ WDE QQ seqQ blockQ loopQ fnQ OpP OpT Tr TrP SL SLd OwnS LitS Bk BkE Ob
section
variable {L L' : List HP} {w0 : World} {I : Foot}
def padL (texts ws : List ByteArray) : List Int := [1] ++ idsL texts ws ++ [2]
end
section
theorem GsI.row {e : TypeId} {ss : List SV} {ts : List (List Int)} {R J : Foot} (h : RowH e ss ts R) (hl : ss.length = ts.length) [s : SubI J R] : GsI J ss ts :=
  ⟨hl, fun i hi => (RowH.frozen h i hi (by omega)).sub⟩
end
section
variable {L L' : List HP} {w0 : World} {I : Foot}
theorem rPad_tr {v a : SV} {texts ws : List ByteArray} [hv : RdS I L v ByteArray inferInstance texts] [ha : RdS I L a ByteArray inferInstance ws] (hn : texts.length ≤ 1000000000) (hw : ws.length ≤ 1000000) :
    Tr Try.prog 20 #[.slice v.a v.n v.cap, .slice a.a a.n a.cap] (SL w0 I L) (fun r : SV => .slice r.a r.n r.cap) (fun r => SL w0 I (OwnS 3 r (padL texts ws) :: L)) := by
  refine Tr.intro Try.func20 rfl Try.ntmps20 rfl ?_
  have hil : (idsL texts ws).length = ws.length := by unfold idsL; rw [List.length_map]
  repeat' (first | ((first | refine WLA.m rfl rfl ?_ ?_ | refine WLA.st rfl ?_ ?_ | refine WLA.x rfl rfl ?_ (fun x => ?_) | refine WLA.x0 rfl ?_ (fun x => ?_)); first | exact trivial | exact rfl | assumption | omega | (refine ⟨?_, ?_⟩ <;> omega) | (simp only [Room, List.length_set, List.length_append, List.length_cons, List.length_nil, List.length_replicate]; omega) | decide | skip) | (refine Stp.go ?_) | (guard_target =~ WLA _ _ _ _ _ (⟨_, .call ⟨.value (.func 26), _, _⟩, _, _, _, _⟩ :: _) _ _; first | (refine WLA.call rfl rfl (rIDs_tr (v := v) (a := a) (texts := texts) (ws := ws) hn hw) ?_; rintro r) | (refine WLA.call0 rfl (rIDs_tr (v := v) (a := a) (texts := texts) (ws := ws) hn hw) ?_; rintro r)) | (refine WPA.ifT ?_) | (refine WPA.ifF ?_) | ((first | refine WPA.dec ?_); first | refine .inl ⟨by first | assumption | omega | with_reducible rfl | (refine fun h => h ?_; first | assumption | with_reducible rfl) | (simp only [List.length_append, List.length_cons, List.length_nil, List.length_set] <;> omega) | decide, ?_⟩ | refine .inr ⟨by first | assumption | omega | with_reducible rfl | (refine fun h => h ?_; first | assumption | with_reducible rfl) | (simp only [List.length_append, List.length_cons, List.length_nil, List.length_set] <;> omega) | decide, ?_⟩) | ((first | refine WPA.ifBt ?_ ?_ | refine WPA.ifBnf ?_ ?_); assumption) | ((first | refine WPA.ifBnt ?_ ?_ | refine WPA.ifBf ?_ ?_); assumption) | ((first | refine WPA.ifs ?_ ?_ | refine WPA.ifB ?_ ?_) <;> intro hc))
  have e : padL texts ws = 1 :: (idsL texts ws ++ [2]) := rfl
  exact QQ.end_ rfl x rfl fun w h => by
    simp only [List.nil_append, List.append_assoc, List.cons_append] at h
    rw [e]
    exact h.to
end
section
variable {L L' : List HP} {w0 : World} {I : Foot}
theorem rAll_trW {v : SV} {texts : List ByteArray} {s : ByteArray} [hv : RdS I L v ByteArray inferInstance texts] (hn : texts.length ≤ 1000000000) (hs : s.size ≤ 100000) :
    Tr Try.prog 23 #[.slice v.a v.n v.cap, .string s] (SL w0 I L) (fun x : { y : SV × List SV // y.2.length = (allL s).length } => .slice x.1.1.a x.1.1.n x.1.1.cap) (fun x => SL w0 I (OwnS 30 x.1.1 x.1.2 :: RowH 3 x.1.2 ((allL s).map (padL texts)) :: L)) := by
  refine Tr.intro Try.func23 rfl Try.ntmps23 rfl ?_
  have hal := allL_len s
  have hgood := all_right (s := s)
  have hA : ∀ {L : List HP}, Tr Try.prog 82 #[.string s] (SL w0 I L) (fun x : SV × List SV => .slice x.1.a x.1.n x.1.cap) (fun x w => x.2.length = (allL s).length ∧ SL w0 I (OwnS 22 x.1 x.2 :: RowsH 9 x.2 (allL s) :: L) w) := rAll_tr (s := s) w0 I (by omega)
  generalize allL s = rows at hal hgood hA
  repeat' (first | ((first | refine WLA.m rfl rfl ?_ ?_ | refine WLA.st rfl ?_ ?_ | refine WLA.x rfl rfl ?_ (fun x => ?_) | refine WLA.x0 rfl ?_ (fun x => ?_)); first | exact trivial | exact rfl | assumption | omega | (refine ⟨?_, ?_⟩ <;> omega) | (simp only [Room, List.length_set, List.length_append, List.length_cons, List.length_nil, List.length_replicate]; omega) | decide | skip) | (refine Stp.go ?_) | (guard_target =~ WLA _ _ _ _ _ (⟨_, .call ⟨.value (.func 82), _, _⟩, _, _, _, _⟩ :: _) _ _; first | (refine WLA.call rfl rfl (hA) ?_; rintro ⟨r1, ss1⟩; refine WLA.pure fun hl1 => ?_; dsimp only at hl1 ⊢; refine WLA.ent Ent.swap ?_; refine WLA.freeze fun R1 hR1 => ?_) | (refine WLA.call0 rfl (hA) ?_; rintro ⟨r1, ss1⟩; refine WLA.pure fun hl1 => ?_; dsimp only at hl1 ⊢; refine WLA.ent Ent.swap ?_; refine WLA.freeze fun R1 hR1 => ?_)) | (refine WPA.ifT ?_) | (refine WPA.ifF ?_) | ((first | refine WPA.dec ?_); first | refine .inl ⟨by first | assumption | omega | with_reducible rfl | (refine fun h => h ?_; first | assumption | with_reducible rfl) | (simp only [List.length_append, List.length_cons, List.length_nil, List.length_set] <;> omega) | decide, ?_⟩ | refine .inr ⟨by first | assumption | omega | with_reducible rfl | (refine fun h => h ?_; first | assumption | with_reducible rfl) | (simp only [List.length_append, List.length_cons, List.length_nil, List.length_set] <;> omega) | decide, ?_⟩) | ((first | refine WPA.ifBt ?_ ?_ | refine WPA.ifBnf ?_ ?_); assumption) | ((first | refine WPA.ifBnt ?_ ?_ | refine WPA.ifBf ?_ ?_); assumption) | ((first | refine WPA.ifs ?_ ?_ | refine WPA.ifB ?_ ?_) <;> intro hc))
  refine WPA.loopS (σ := Nat × SV × List SV) (fun y => [(0, .slice v.a v.n v.cap), (5, .slice y.2.1.a y.2.1.n y.2.1.cap), (6, .slice r1.a r1.n r1.cap), (7, .int .i64 y.1)]) (fun y => y.1 ≤ ss1.length ∧ y.2.2.length = y.1)
    (fun y => SL w0 (R1 ++ I) (OwnS 30 y.2.1 y.2.2 :: RowH 3 y.2.2 ((rows.take y.1).map (padL texts)) :: OwnS 22 r1 ss1 :: L)) (fun y => ss1.length - y.1) (0, SV.nil, []) ⟨rfl, rfl, rfl, rfl, trivial⟩ ⟨Nat.zero_le _, rfl⟩ (fun w h => by
      show SL w0 (R1 ++ I) (OwnS 30 SV.nil ([] : List SV) :: RowH 3 [] ([] : List (List Int)) :: OwnS 22 r1 ss1 :: L) w
      exact ((RowH.nil (α := Int) (e := 3)).sl h).to) ?_
  rintro ⟨i, r, ss⟩ ρ ⟨hi, hsl⟩
  dsimp only at hi hsl ⊢
  by_cases hlt : i < ss1.length
  · have hlt' : (i : Int) < ss1.length := by omega
    have hri : i < rows.length := by omega
    have g1 : SlI R1 (at_ ss1 (i : Int)) ByteArray inferInstance (rows.getD i []) := RowsH.frozen hR1 i hlt hri
    have hrow : rows.getD i [] = rows[i] := by rw [List.getD_eq_getElem?_getD, List.getElem?_eq_getElem hri]; rfl
    have hg := hgood _ (List.getElem_mem hri)
    rw [← hrow] at hg
    have e : (rows.take (i + 1)).map (padL texts) = (rows.take i).map (padL texts) ++ [padL texts (rows.getD i [])] := by
      rw [List.take_add_one, List.getElem?_eq_getElem hri, List.map_append, hrow]; rfl
    have hsn : ss.length = ((rows.take i).map (padL texts)).length := by rw [List.length_map, List.length_take]; omega
    have hrl : (rows.getD i []).length ≤ 1000000 := by have := hg.2.1; omega
    repeat' (first | ((first | refine WLA.m rfl rfl ?_ ?_ | refine WLA.st rfl ?_ ?_ | refine WLA.x rfl rfl ?_ (fun x => ?_) | refine WLA.x0 rfl ?_ (fun x => ?_)); first | exact trivial | exact rfl | assumption | omega | (refine ⟨?_, ?_⟩ <;> omega) | (simp only [Room, List.length_set, List.length_append, List.length_cons, List.length_nil, List.length_replicate]; omega) | decide | skip) | (refine Stp.go ?_) | (guard_target =~ WLA _ _ _ _ _ (⟨_, .call ⟨.value (.func 20), _, _⟩, _, _, _, _⟩ :: _) _ _; first | (refine WLA.call rfl rfl (rPad_tr (v := v) (texts := texts) hn hrl) ?_; rintro p) | (refine WLA.call0 rfl (rPad_tr (v := v) (texts := texts) hn hrl) ?_; rintro p)) | (refine WPA.ifT ?_) | (refine WPA.ifF ?_) | ((first | refine WPA.dec ?_); first | refine .inl ⟨by first | assumption | omega | with_reducible rfl | (refine fun h => h ?_; first | assumption | with_reducible rfl) | (simp only [List.length_append, List.length_cons, List.length_nil, List.length_set] <;> omega) | decide, ?_⟩ | refine .inr ⟨by first | assumption | omega | with_reducible rfl | (refine fun h => h ?_; first | assumption | with_reducible rfl) | (simp only [List.length_append, List.length_cons, List.length_nil, List.length_set] <;> omega) | decide, ?_⟩) | ((first | refine WPA.ifBt ?_ ?_ | refine WPA.ifBnf ?_ ?_); assumption) | ((first | refine WPA.ifBnt ?_ ?_ | refine WPA.ifBf ?_ ?_); assumption) | ((first | refine WPA.ifs ?_ ?_ | refine WPA.ifB ?_ ?_) <;> intro hc))
    refine QQ.loopS (i + 1, x, ss ++ [p]) ⟨rfl, rfl, rfl, rfl, trivial⟩ ⟨hlt, by dsimp only; rw [List.length_append, hsl]; rfl⟩ (by dsimp only; omega) (fun w h => ?_)
    dsimp only
    rw [e]
    have h2 := (RowH.snoc hsn).sl ((EntC.out (L' := OwnS 3 p (padL texts (rows.getD i [])) :: RowH 3 ss ((rows.take i).map (padL texts)) :: OwnS 22 r1 ss1 :: OwnS 30 x (ss ++ [p]) :: L)).sl h)
    exact h2.to
  · have hlt' : ¬ (i : Int) < ss1.length := by omega
    rw [List.take_of_length_le (by omega)]
    repeat' (first | ((first | refine WLA.m rfl rfl ?_ ?_ | refine WLA.st rfl ?_ ?_ | refine WLA.x rfl rfl ?_ (fun x => ?_) | refine WLA.x0 rfl ?_ (fun x => ?_)); first | exact trivial | exact rfl | assumption | omega | (refine ⟨?_, ?_⟩ <;> omega) | (simp only [Room, List.length_set, List.length_append, List.length_cons, List.length_nil, List.length_replicate]; omega) | decide | skip) | (refine Stp.go ?_) | (refine WPA.ifT ?_) | (refine WPA.ifF ?_) | ((first | refine WPA.dec ?_); first | refine .inl ⟨by first | assumption | omega | with_reducible rfl | (refine fun h => h ?_; first | assumption | with_reducible rfl) | (simp only [List.length_append, List.length_cons, List.length_nil, List.length_set] <;> omega) | decide, ?_⟩ | refine .inr ⟨by first | assumption | omega | with_reducible rfl | (refine fun h => h ?_; first | assumption | with_reducible rfl) | (simp only [List.length_append, List.length_cons, List.length_nil, List.length_set] <;> omega) | decide, ?_⟩) | ((first | refine WPA.ifBt ?_ ?_ | refine WPA.ifBnf ?_ ?_); assumption) | ((first | refine WPA.ifBnt ?_ ?_ | refine WPA.ifBf ?_ ?_); assumption) | ((first | refine WPA.ifs ?_ ?_ | refine WPA.ifB ?_ ?_) <;> intro hc))
    exact QQ.end_ rfl ⟨(r, ss), by dsimp only; omega⟩ rfl fun w h => h.unI.to
end
end Go.Proofs.Ytlodbajaoadhdaa
