/- VocabLines: the words of numbers. Conditions: none. -/
import Derived.Test.YtlodbajaoadhdaaVcI
import Derived.Test.YtlodbajaoadhdaaVlJ
import Derived.Test.YtlodbajaoadhdaaVc3
namespace Go.Proofs.Ytlodbajaoadhdaa
open Go Go.Fw Go.RowKit
set_option linter.unusedVariables false
set_option linter.unusedSimpArgs false
set_option maxRecDepth 100000
set_option maxHeartbeats 16000000
set_option synthInstance.maxHeartbeats 200000
set_option synthInstance.maxSize 100000
attribute [local irreducible] WPA WLA WDA WDQ WDE QQ seqQ blockQ loopQ fnQ OpP OpT Tr TrP SL SLd OwnS LitS Bk BkE Ob
attribute [local irreducible] TblH Fz VocH RowsH
theorem join_jl : ∀ l : List ByteArray, Go.Lib.join (l.map (·.data.toList)) [32] = jl l
  | [] => rfl
  | [w] => by rw [List.map_cons, List.map_nil, Go.Lib.join_one]; rfl
  | w :: y :: l => by
    have ih := join_jl (y :: l)
    rw [List.map_cons] at ih ⊢
    rw [Go.Lib.join_cons] at ih ⊢
    rw [jl_cons (by simp), ← ih, List.map_cons]
    rfl
theorem joinB_jt (l : List ByteArray) : joinB l ⟨#[32]⟩ = jt l l.length := by
  have h := jt_data l l.length (Nat.le_refl _)
  rw [List.take_length] at h
  unfold joinB
  rw [show (⟨#[32]⟩ : ByteArray).data.toList = [32] from rfl, join_jl, ← h]
/-- The word of a number, in a line. -/
def lineW (texts : List ByteArray) (z : Int) : ByteArray := if 0 ≤ z ∧ z < texts.length then at_ texts z else ⟨#[60, 117, 110, 107, 62]⟩
def lineL (texts : List ByteArray) (zs : List Int) : List ByteArray := zs.map (lineW texts)
theorem lineL_ok {texts : List ByteArray} {zs : List Int} (h : ∀ w ∈ texts, w.size ≤ 255) : ∀ w ∈ lineL texts zs, w.size ≤ 255 := by
  intro w hw
  obtain ⟨z, hz, rfl⟩ := List.mem_map.1 hw
  unfold lineW
  split
  · rename_i hb
    rw [show z = ((z.toNat : Nat) : Int) by omega, at_nat texts z.toNat (by omega)]
    exact h _ (List.getElem_mem _)
  · exact Nat.le_of_ble_eq_true rfl
section
variable {L L' : List HP} {w0 : World} {I : Foot} {V : Nat} {texts : List ByteArray}
theorem sJoin_tr (h0 : w0.drawn = 0) {s : SV} {xs : List ByteArray} {sep : ByteArray} [hr : RdS I L s ByteArray inferInstance xs] (hlen : (joinB xs sep).size ≤ 140737488355328) (hn : xs.length ≤ 1000000000) :
    Tr Try.prog 87 #[.slice s.a s.n s.cap, .string sep] (SL w0 I L) (fun _ : Unit => .string (joinB xs sep)) (fun _ => SL w0 I L) := Join_trL (ρ := Try.join_ren) Try.join extraJ h0 hlen hn
theorem Word_nilL {z : Int} : TrP Try.prog 86 #[.pointer none, .int .i64 z] (SL w0 I L) (.string ⟨#[]⟩) := by
  refine TrP.ofD fun u => Tr.intro Try.func86 rfl Try.ntmps86 rfl ?_
  repeat' (first | ((first | refine WLA.m rfl rfl ?_ ?_ | refine WLA.st rfl ?_ ?_ | refine WLA.x rfl rfl ?_ (fun x => ?_) | refine WLA.x0 rfl ?_ (fun x => ?_)); first | exact trivial | exact rfl | assumption | omega | (refine ⟨?_, ?_⟩ <;> omega) | (simp only [Room, List.length_set, List.length_append, List.length_cons, List.length_nil, List.length_replicate]; omega) | decide | skip) | (refine Stp.go ?_) | (refine WPA.ifT ?_) | (refine WPA.ifF ?_) | ((first | refine WPA.dec ?_); first | refine .inl ⟨by first | assumption | omega | with_reducible rfl | (refine fun h => h ?_; first | assumption | with_reducible rfl) | (simp only [List.length_append, List.length_cons, List.length_nil, List.length_set] <;> omega) | decide, ?_⟩ | refine .inr ⟨by first | assumption | omega | with_reducible rfl | (refine fun h => h ?_; first | assumption | with_reducible rfl) | (simp only [List.length_append, List.length_cons, List.length_nil, List.length_set] <;> omega) | decide, ?_⟩) | ((first | refine WPA.ifBt ?_ ?_ | refine WPA.ifBnf ?_ ?_); assumption) | ((first | refine WPA.ifBnt ?_ ?_ | refine WPA.ifBf ?_ ?_); assumption) | ((first | refine WPA.ifs ?_ ?_ | refine WPA.ifB ?_ ?_) <;> intro hc))
  exact QQ.end_ rfl () rfl fun w h => h
theorem Has_nilL {s : ByteArray} : TrP Try.prog 126 #[.pointer none, .string s] (SL w0 I L) (.bool false) := by
  refine TrP.ofD fun u => Tr.intro Try.func126 rfl Try.ntmps126 rfl ?_
  repeat' (first | ((first | refine WLA.m rfl rfl ?_ ?_ | refine WLA.st rfl ?_ ?_ | refine WLA.x rfl rfl ?_ (fun x => ?_) | refine WLA.x0 rfl ?_ (fun x => ?_)); first | exact trivial | exact rfl | assumption | omega | (refine ⟨?_, ?_⟩ <;> omega) | (simp only [Room, List.length_set, List.length_append, List.length_cons, List.length_nil, List.length_replicate]; omega) | decide | skip) | (refine Stp.go ?_) | (refine WPA.ifT ?_) | (refine WPA.ifF ?_) | (refine WLA.no rfl rfl ?_) | ((first | refine WPA.dec ?_ | ((fail_if_success (guard_target =~ WLA _ _ _ _ _ _ (put1 _ _ (.bool true)) _)); (fail_if_success (guard_target =~ WLA _ _ _ _ _ _ (put1 _ _ (.bool false)) _)); refine WLA.dec rfl rfl ?_) | refine WLA.pk ?_); first | refine .inl ⟨by first | assumption | omega | with_reducible rfl | (refine fun h => h ?_; first | assumption | with_reducible rfl) | (simp only [List.length_append, List.length_cons, List.length_nil, List.length_set] <;> omega) | decide, ?_⟩ | refine .inr ⟨by first | assumption | omega | with_reducible rfl | (refine fun h => h ?_; first | assumption | with_reducible rfl) | (simp only [List.length_append, List.length_cons, List.length_nil, List.length_set] <;> omega) | decide, ?_⟩) | ((first | refine WPA.ifBt ?_ ?_ | refine WPA.ifBnf ?_ ?_); assumption) | ((first | refine WPA.ifBnt ?_ ?_ | refine WPA.ifBf ?_ ?_); assumption) | ((first | refine WPA.ifs ?_ ?_ | refine WPA.ifB ?_ ?_) <;> intro hc) | ((fail_if_success (guard_target =~ WLA _ _ _ _ _ _ (put1 _ _ (.bool true)) _)); (fail_if_success (guard_target =~ WLA _ _ _ _ _ _ (put1 _ _ (.bool false)) _)); (first | refine WLA.both rfl rfl ?_ ?_ | refine WLA.bothB rfl rfl ?_ ?_) <;> intro hg))
  exact QQ.end_ rfl () rfl fun w h => h
theorem ID_nilL {s : ByteArray} : TrP Try.prog 84 #[.pointer none, .string s] (SL w0 I L) (.int .i64 0) := by
  refine TrP.ofD fun u => Tr.intro Try.func84 rfl Try.ntmps84 rfl ?_
  repeat' (first | ((first | refine WLA.m rfl rfl ?_ ?_ | refine WLA.st rfl ?_ ?_ | refine WLA.x rfl rfl ?_ (fun x => ?_) | refine WLA.x0 rfl ?_ (fun x => ?_)); first | exact trivial | exact rfl | assumption | omega | (refine ⟨?_, ?_⟩ <;> omega) | (simp only [Room, List.length_set, List.length_append, List.length_cons, List.length_nil, List.length_replicate]; omega) | decide | skip) | (refine Stp.go ?_) | (guard_target =~ WLA _ _ _ _ _ (⟨_, .call ⟨.value (.func 126), _, _⟩, _, _, _, _⟩ :: _) _ _; refine WLA.cq rfl rfl (Has_nilL) ?_) | (refine WPA.ifT ?_) | (refine WPA.ifF ?_) | ((first | refine WPA.dec ?_); first | refine .inl ⟨by first | assumption | omega | with_reducible rfl | (refine fun h => h ?_; first | assumption | with_reducible rfl) | (simp only [List.length_append, List.length_cons, List.length_nil, List.length_set] <;> omega) | decide, ?_⟩ | refine .inr ⟨by first | assumption | omega | with_reducible rfl | (refine fun h => h ?_; first | assumption | with_reducible rfl) | (simp only [List.length_append, List.length_cons, List.length_nil, List.length_set] <;> omega) | decide, ?_⟩) | ((first | refine WPA.ifBt ?_ ?_ | refine WPA.ifBnf ?_ ?_); assumption) | ((first | refine WPA.ifBnt ?_ ?_ | refine WPA.ifBf ?_ ?_); assumption) | ((first | refine WPA.ifs ?_ ?_ | refine WPA.ifB ?_ ?_) <;> intro hc))
  exact QQ.end_ rfl () rfl fun w h => h
theorem IDs_nilL {a : SV} {ws : List ByteArray} [ha : RdS I L a ByteArray inferInstance ws] (hn : ws.length ≤ 1000000) :
    Tr Try.prog 25 #[.pointer none, .slice a.a a.n a.cap] (SL w0 I L) (fun r : SV => .slice r.a r.n r.cap) (fun r => SL w0 I (OwnS 3 r (idsL [] ws) :: L)) := by
  refine Tr.intro Try.func25 rfl Try.ntmps25 rfl ?_
  repeat' (first | ((first | refine WLA.m rfl rfl ?_ ?_ | refine WLA.st rfl ?_ ?_ | refine WLA.x rfl rfl ?_ (fun x => ?_) | refine WLA.x0 rfl ?_ (fun x => ?_)); first | exact trivial | exact rfl | assumption | omega | (refine ⟨?_, ?_⟩ <;> omega) | (simp only [Room, List.length_set, List.length_append, List.length_cons, List.length_nil, List.length_replicate]; omega) | decide | skip) | (refine Stp.go ?_) | (refine WPA.ifT ?_) | (refine WPA.ifF ?_) | ((first | refine WPA.dec ?_); first | refine .inl ⟨by first | assumption | omega | with_reducible rfl | (refine fun h => h ?_; first | assumption | with_reducible rfl) | (simp only [List.length_append, List.length_cons, List.length_nil, List.length_set] <;> omega) | decide, ?_⟩ | refine .inr ⟨by first | assumption | omega | with_reducible rfl | (refine fun h => h ?_; first | assumption | with_reducible rfl) | (simp only [List.length_append, List.length_cons, List.length_nil, List.length_set] <;> omega) | decide, ?_⟩) | ((first | refine WPA.ifBt ?_ ?_ | refine WPA.ifBnf ?_ ?_); assumption) | ((first | refine WPA.ifBnt ?_ ?_ | refine WPA.ifBf ?_ ?_); assumption) | ((first | refine WPA.ifs ?_ ?_ | refine WPA.ifB ?_ ?_) <;> intro hc))
  refine WPA.loopS (σ := Nat × SV) (fun y => [(0, .pointer none), (5, .slice y.2.a y.2.n y.2.cap), (11, .slice a.a a.n a.cap), (12, .int .i64 ws.length), (13, .int .i64 y.1)]) (fun y => y.1 ≤ ws.length)
    (fun y => SL w0 I (OwnS 3 y.2 (idsL [] (ws.take y.1)) :: L)) (fun y => ws.length - y.1) (0, x) ⟨rfl, rfl, rfl, rfl, rfl, trivial⟩ (Nat.zero_le _) (fun w h => by
      have e : List.replicate (Int.toNat 0) (0 : Int) = [] := rfl
      rw [e] at h
      show SL w0 I (OwnS 3 x ([] : List Int) :: L) w
      exact h.to) ?_
  rintro ⟨i, r⟩ ρ hi
  dsimp only at hi ⊢
  have hil : (idsL [] (ws.take i)).length = i := by unfold idsL; rw [List.length_map, List.length_take]; omega
  by_cases hlt : i < ws.length
  · have hlt' : (i : Int) < ws.length := by omega
    have hat := at_nat ws i hlt
    have e : idsL [] (ws.take (i + 1)) = idsL [] (ws.take i) ++ [0] := by
      unfold idsL
      rw [List.take_add_one, List.getElem?_eq_getElem hlt, List.map_append]; rfl
    repeat' (first | ((first | refine WLA.m rfl rfl ?_ ?_ | refine WLA.st rfl ?_ ?_ | refine WLA.x rfl rfl ?_ (fun x => ?_) | refine WLA.x0 rfl ?_ (fun x => ?_)); first | exact trivial | exact rfl | assumption | omega | (refine ⟨?_, ?_⟩ <;> omega) | (simp only [Room, List.length_set, List.length_append, List.length_cons, List.length_nil, List.length_replicate]; omega) | decide | skip) | (refine Stp.go ?_) | (guard_target =~ WLA _ _ _ _ _ (⟨_, .call ⟨.value (.func 84), _, _⟩, _, _, _, _⟩ :: _) _ _; refine WLA.cq rfl rfl (ID_nilL) ?_) | (refine WPA.ifT ?_) | (refine WPA.ifF ?_) | ((first | refine WPA.dec ?_); first | refine .inl ⟨by first | assumption | omega | with_reducible rfl | (refine fun h => h ?_; first | assumption | with_reducible rfl) | (simp only [List.length_append, List.length_cons, List.length_nil, List.length_set] <;> omega) | decide, ?_⟩ | refine .inr ⟨by first | assumption | omega | with_reducible rfl | (refine fun h => h ?_; first | assumption | with_reducible rfl) | (simp only [List.length_append, List.length_cons, List.length_nil, List.length_set] <;> omega) | decide, ?_⟩) | ((first | refine WPA.ifBt ?_ ?_ | refine WPA.ifBnf ?_ ?_); assumption) | ((first | refine WPA.ifBnt ?_ ?_ | refine WPA.ifBf ?_ ?_); assumption) | ((first | refine WPA.ifs ?_ ?_ | refine WPA.ifB ?_ ?_) <;> intro hc))
    refine QQ.loopS (i + 1, _) ⟨rfl, rfl, rfl, rfl, rfl, trivial⟩ hlt (by dsimp only; omega) (fun w h => ?_)
    dsimp only
    rw [e]
    exact h.to
  · have hlt' : ¬ (i : Int) < ws.length := by omega
    rw [List.take_of_length_le (by omega)]
    repeat' (first | ((first | refine WLA.m rfl rfl ?_ ?_ | refine WLA.st rfl ?_ ?_ | refine WLA.x rfl rfl ?_ (fun x => ?_) | refine WLA.x0 rfl ?_ (fun x => ?_)); first | exact trivial | exact rfl | assumption | omega | (refine ⟨?_, ?_⟩ <;> omega) | (simp only [Room, List.length_set, List.length_append, List.length_cons, List.length_nil, List.length_replicate]; omega) | decide | skip) | (refine Stp.go ?_) | (refine WPA.ifT ?_) | (refine WPA.ifF ?_) | ((first | refine WPA.dec ?_); first | refine .inl ⟨by first | assumption | omega | with_reducible rfl | (refine fun h => h ?_; first | assumption | with_reducible rfl) | (simp only [List.length_append, List.length_cons, List.length_nil, List.length_set] <;> omega) | decide, ?_⟩ | refine .inr ⟨by first | assumption | omega | with_reducible rfl | (refine fun h => h ?_; first | assumption | with_reducible rfl) | (simp only [List.length_append, List.length_cons, List.length_nil, List.length_set] <;> omega) | decide, ?_⟩) | ((first | refine WPA.ifBt ?_ ?_ | refine WPA.ifBnf ?_ ?_); assumption) | ((first | refine WPA.ifBnt ?_ ?_ | refine WPA.ifBf ?_ ?_); assumption) | ((first | refine WPA.ifs ?_ ?_ | refine WPA.ifB ?_ ?_) <;> intro hc))
    exact QQ.end_ rfl r rfl fun w h => h.to
theorem Line_trV (h0 : w0.drawn = 0) {a : SV} {zs : List Int} [h : FindK L VocH V texts L'] [ha : RdS I L a Int inferInstance zs] (hn : zs.length ≤ 60) (hz : ∀ w ∈ texts, w.size ≤ 255) (hne : ∀ w ∈ texts, w ≠ ⟨#[]⟩) :
    Tr Try.prog 27 #[.pointer (some ⟨V, 0, none⟩), .slice a.a a.n a.cap] (SL w0 I L) (fun _ : Unit => .string (jt (lineL texts zs) zs.length)) (fun _ => SL w0 I L) := by
  refine Tr.intro Try.func27 rfl Try.ntmps27 rfl ?_
  have hll : (lineL texts zs).length = zs.length := by unfold lineL; rw [List.length_map]
  have hjs : (joinB (lineL texts zs) ⟨#[32]⟩).size ≤ 140737488355328 := by
    rw [joinB_jt, hll]
    have := jt_size (lineL texts zs) (lineL_ok hz) zs.length (by omega)
    omega
  repeat' (first | ((first | refine WLA.m rfl rfl ?_ ?_ | refine WLA.st rfl ?_ ?_ | refine WLA.x rfl rfl ?_ (fun x => ?_) | refine WLA.x0 rfl ?_ (fun x => ?_)); first | exact trivial | exact rfl | assumption | omega | (refine ⟨?_, ?_⟩ <;> omega) | (simp only [Room, List.length_set, List.length_append, List.length_cons, List.length_nil, List.length_replicate]; omega) | decide | skip) | (refine Stp.go ?_) | (refine WPA.ifT ?_) | (refine WPA.ifF ?_) | ((first | refine WPA.dec ?_); first | refine .inl ⟨by first | assumption | omega | with_reducible rfl | (refine fun h => h ?_; first | assumption | with_reducible rfl) | (simp only [List.length_append, List.length_cons, List.length_nil, List.length_set] <;> omega) | decide, ?_⟩ | refine .inr ⟨by first | assumption | omega | with_reducible rfl | (refine fun h => h ?_; first | assumption | with_reducible rfl) | (simp only [List.length_append, List.length_cons, List.length_nil, List.length_set] <;> omega) | decide, ?_⟩) | ((first | refine WPA.ifBt ?_ ?_ | refine WPA.ifBnf ?_ ?_); assumption) | ((first | refine WPA.ifBnt ?_ ?_ | refine WPA.ifBf ?_ ?_); assumption) | ((first | refine WPA.ifs ?_ ?_ | refine WPA.ifB ?_ ?_) <;> intro hc))
  refine WPA.loopS (σ := Nat × SV) (fun y => [(0, .pointer (some ⟨V, 0, none⟩)), (5, .slice y.2.a y.2.n y.2.cap), (12, .slice a.a a.n a.cap), (13, .int .i64 zs.length), (14, .int .i64 y.1)]) (fun y => y.1 ≤ zs.length)
    (fun y => SL w0 I (OwnS 9 y.2 (lineL texts (zs.take y.1)) :: L)) (fun y => zs.length - y.1) (0, x) ⟨rfl, rfl, rfl, rfl, rfl, trivial⟩ (Nat.zero_le _) (fun w h => by
      have e : List.replicate (Int.toNat 0) (⟨#[]⟩ : ByteArray) = [] := rfl
      first | rw [e] at h | skip
      show SL w0 I (OwnS 9 x ([] : List ByteArray) :: L) w
      exact h.to) ?_
  rintro ⟨i, r⟩ ρ hi
  dsimp only at hi ⊢
  have hil : (lineL texts (zs.take i)).length = i := by unfold lineL; rw [List.length_map, List.length_take]; omega
  by_cases hlt : i < zs.length
  · have hlt' : (i : Int) < zs.length := by omega
    have hat := at_nat zs i hlt
    have e : lineL texts (zs.take (i + 1)) = lineL texts (zs.take i) ++ [lineW texts (at_ zs (i : Int))] := by
      unfold lineL
      rw [List.take_add_one, List.getElem?_eq_getElem hlt, hat, List.map_append]; rfl
    by_cases hb : 0 ≤ at_ zs (i : Int) ∧ at_ zs (i : Int) < texts.length
    · have hw : lineW texts (at_ zs (i : Int)) = at_ texts (at_ zs (i : Int)) := if_pos hb
      have hv : wordV texts (at_ zs (i : Int)) = at_ texts (at_ zs (i : Int)) := if_pos hb
      have hx : ¬ at_ texts (at_ zs (i : Int)) = ⟨#[]⟩ := by
        rw [show at_ zs (i : Int) = (((at_ zs (i : Int)).toNat : Nat) : Int) by omega, at_nat texts _ (by omega)]
        exact hne _ (List.getElem_mem _)
      have hW : ∀ {u : World} {L0 L0' : List HP} [h : FindK L0 VocH V texts L0'], TrP Try.prog 86 #[.pointer (some ⟨V, 0, none⟩), .int .i64 (at_ zs (i : Int))] (SL w0 I L0) (.string (at_ texts (at_ zs (i : Int)))) := by
        intro u L0 L0' h
        have := Word_trV (w0 := w0) (I := I) (V := V) (texts := texts) (z := at_ zs (i : Int)) (h := h)
        rwa [hv] at this
      repeat' (first | ((first | refine WLA.m rfl rfl ?_ ?_ | refine WLA.st rfl ?_ ?_ | refine WLA.x rfl rfl ?_ (fun x => ?_) | refine WLA.x0 rfl ?_ (fun x => ?_)); first | exact trivial | exact rfl | assumption | omega | (refine ⟨?_, ?_⟩ <;> omega) | (simp only [Room, List.length_set, List.length_append, List.length_cons, List.length_nil, List.length_replicate]; omega) | decide | skip) | (refine Stp.go ?_) | (guard_target =~ WLA _ _ _ _ _ (⟨_, .call ⟨.value (.func 86), _, _⟩, _, _, _, _⟩ :: _) _ _; refine WLA.cq rfl rfl (hW (u := w0)) ?_) | (refine WPA.ifT ?_) | (refine WPA.ifF ?_) | ((first | refine WPA.dec ?_); first | refine .inl ⟨by first | assumption | omega | with_reducible rfl | (refine fun h => h ?_; first | assumption | with_reducible rfl) | (simp only [List.length_append, List.length_cons, List.length_nil, List.length_set] <;> omega) | decide, ?_⟩ | refine .inr ⟨by first | assumption | omega | with_reducible rfl | (refine fun h => h ?_; first | assumption | with_reducible rfl) | (simp only [List.length_append, List.length_cons, List.length_nil, List.length_set] <;> omega) | decide, ?_⟩) | ((first | refine WPA.ifBt ?_ ?_ | refine WPA.ifBnf ?_ ?_); assumption) | ((first | refine WPA.ifBnt ?_ ?_ | refine WPA.ifBf ?_ ?_); assumption) | ((first | refine WPA.ifs ?_ ?_ | refine WPA.ifB ?_ ?_) <;> intro hc))
      refine QQ.loopS (i + 1, _) ⟨rfl, rfl, rfl, rfl, rfl, trivial⟩ hlt (by dsimp only; omega) (fun w h => ?_)
      dsimp only
      rw [e, hw]
      exact h.to
    · have hw : lineW texts (at_ zs (i : Int)) = ⟨#[60, 117, 110, 107, 62]⟩ := if_neg hb
      have hv : wordV texts (at_ zs (i : Int)) = ⟨#[]⟩ := if_neg hb
      have hW : ∀ {u : World} {L0 L0' : List HP} [h : FindK L0 VocH V texts L0'], TrP Try.prog 86 #[.pointer (some ⟨V, 0, none⟩), .int .i64 (at_ zs (i : Int))] (SL w0 I L0) (.string ⟨#[]⟩) := by
        intro u L0 L0' h
        have := Word_trV (w0 := w0) (I := I) (V := V) (texts := texts) (z := at_ zs (i : Int)) (h := h)
        rwa [hv] at this
      repeat' (first | ((first | refine WLA.m rfl rfl ?_ ?_ | refine WLA.st rfl ?_ ?_ | refine WLA.x rfl rfl ?_ (fun x => ?_) | refine WLA.x0 rfl ?_ (fun x => ?_)); first | exact trivial | exact rfl | assumption | omega | (refine ⟨?_, ?_⟩ <;> omega) | (simp only [Room, List.length_set, List.length_append, List.length_cons, List.length_nil, List.length_replicate]; omega) | decide | skip) | (refine Stp.go ?_) | (guard_target =~ WLA _ _ _ _ _ (⟨_, .call ⟨.value (.func 86), _, _⟩, _, _, _, _⟩ :: _) _ _; refine WLA.cq rfl rfl (hW (u := w0)) ?_) | (refine WPA.ifT ?_) | (refine WPA.ifF ?_) | ((first | refine WPA.dec ?_); first | refine .inl ⟨by first | assumption | omega | with_reducible rfl | (refine fun h => h ?_; first | assumption | with_reducible rfl) | (simp only [List.length_append, List.length_cons, List.length_nil, List.length_set] <;> omega) | decide, ?_⟩ | refine .inr ⟨by first | assumption | omega | with_reducible rfl | (refine fun h => h ?_; first | assumption | with_reducible rfl) | (simp only [List.length_append, List.length_cons, List.length_nil, List.length_set] <;> omega) | decide, ?_⟩) | ((first | refine WPA.ifBt ?_ ?_ | refine WPA.ifBnf ?_ ?_); assumption) | ((first | refine WPA.ifBnt ?_ ?_ | refine WPA.ifBf ?_ ?_); assumption) | ((first | refine WPA.ifs ?_ ?_ | refine WPA.ifB ?_ ?_) <;> intro hc))
      refine QQ.loopS (i + 1, _) ⟨rfl, rfl, rfl, rfl, rfl, trivial⟩ hlt (by dsimp only; omega) (fun w h => ?_)
      dsimp only
      rw [e, hw]
      exact h.to
  · have hlt' : ¬ (i : Int) < zs.length := by omega
    rw [List.take_of_length_le (by omega)]
    repeat' (first | ((first | refine WLA.m rfl rfl ?_ ?_ | refine WLA.st rfl ?_ ?_ | refine WLA.x rfl rfl ?_ (fun x => ?_) | refine WLA.x0 rfl ?_ (fun x => ?_)); first | exact trivial | exact rfl | assumption | omega | (refine ⟨?_, ?_⟩ <;> omega) | (simp only [Room, List.length_set, List.length_append, List.length_cons, List.length_nil, List.length_replicate]; omega) | decide | skip) | (refine Stp.go ?_) | (guard_target =~ WLA _ _ _ _ _ (⟨_, .call ⟨.value (.func 87), _, _⟩, _, _, _, _⟩ :: _) _ _; first | (refine WLA.call rfl rfl (sJoin_tr h0 hjs (by omega)) ?_; rintro ⟨⟩; rw [joinB_jt, hll]) | (refine WLA.call0 rfl (sJoin_tr h0 hjs (by omega)) ?_; rintro ⟨⟩; rw [joinB_jt, hll])) | (refine WPA.ifT ?_) | (refine WPA.ifF ?_) | ((first | refine WPA.dec ?_); first | refine .inl ⟨by first | assumption | omega | with_reducible rfl | (refine fun h => h ?_; first | assumption | with_reducible rfl) | (simp only [List.length_append, List.length_cons, List.length_nil, List.length_set] <;> omega) | decide, ?_⟩ | refine .inr ⟨by first | assumption | omega | with_reducible rfl | (refine fun h => h ?_; first | assumption | with_reducible rfl) | (simp only [List.length_append, List.length_cons, List.length_nil, List.length_set] <;> omega) | decide, ?_⟩) | ((first | refine WPA.ifBt ?_ ?_ | refine WPA.ifBnf ?_ ?_); assumption) | ((first | refine WPA.ifBnt ?_ ?_ | refine WPA.ifBf ?_ ?_); assumption) | ((first | refine WPA.ifs ?_ ?_ | refine WPA.ifB ?_ ?_) <;> intro hc))
    exact QQ.end_ rfl () rfl fun w h => h.to
theorem Line_nil (h0 : w0.drawn = 0) {a : SV} {zs : List Int} [ha : RdS I L a Int inferInstance zs] (hn : zs.length ≤ 60) :
    Tr Try.prog 27 #[.pointer none, .slice a.a a.n a.cap] (SL w0 I L) (fun _ : Unit => .string (jt (lineL [] zs) zs.length)) (fun _ => SL w0 I L) := by
  refine Tr.intro Try.func27 rfl Try.ntmps27 rfl ?_
  have hll : (lineL [] zs).length = zs.length := by unfold lineL; rw [List.length_map]
  have hjs : (joinB (lineL [] zs) ⟨#[32]⟩).size ≤ 140737488355328 := by
    rw [joinB_jt, hll]
    have := jt_size (lineL [] zs) (lineL_ok (by simp)) zs.length (by omega)
    omega
  repeat' (first | ((first | refine WLA.m rfl rfl ?_ ?_ | refine WLA.st rfl ?_ ?_ | refine WLA.x rfl rfl ?_ (fun x => ?_) | refine WLA.x0 rfl ?_ (fun x => ?_)); first | exact trivial | exact rfl | assumption | omega | (refine ⟨?_, ?_⟩ <;> omega) | (simp only [Room, List.length_set, List.length_append, List.length_cons, List.length_nil, List.length_replicate]; omega) | decide | skip) | (refine Stp.go ?_) | (refine WPA.ifT ?_) | (refine WPA.ifF ?_) | ((first | refine WPA.dec ?_); first | refine .inl ⟨by first | assumption | omega | with_reducible rfl | (refine fun h => h ?_; first | assumption | with_reducible rfl) | (simp only [List.length_append, List.length_cons, List.length_nil, List.length_set] <;> omega) | decide, ?_⟩ | refine .inr ⟨by first | assumption | omega | with_reducible rfl | (refine fun h => h ?_; first | assumption | with_reducible rfl) | (simp only [List.length_append, List.length_cons, List.length_nil, List.length_set] <;> omega) | decide, ?_⟩) | ((first | refine WPA.ifBt ?_ ?_ | refine WPA.ifBnf ?_ ?_); assumption) | ((first | refine WPA.ifBnt ?_ ?_ | refine WPA.ifBf ?_ ?_); assumption) | ((first | refine WPA.ifs ?_ ?_ | refine WPA.ifB ?_ ?_) <;> intro hc))
  refine WPA.loopS (σ := Nat × SV) (fun y => [(0, .pointer none), (5, .slice y.2.a y.2.n y.2.cap), (12, .slice a.a a.n a.cap), (13, .int .i64 zs.length), (14, .int .i64 y.1)]) (fun y => y.1 ≤ zs.length)
    (fun y => SL w0 I (OwnS 9 y.2 (lineL [] (zs.take y.1)) :: L)) (fun y => zs.length - y.1) (0, x) ⟨rfl, rfl, rfl, rfl, rfl, trivial⟩ (Nat.zero_le _) (fun w h => by
      have e : List.replicate (Int.toNat 0) (⟨#[]⟩ : ByteArray) = [] := rfl
      first | rw [e] at h | skip
      show SL w0 I (OwnS 9 x ([] : List ByteArray) :: L) w
      exact h.to) ?_
  rintro ⟨i, r⟩ ρ hi
  dsimp only at hi ⊢
  have hil : (lineL [] (zs.take i)).length = i := by unfold lineL; rw [List.length_map, List.length_take]; omega
  by_cases hlt : i < zs.length
  · have hlt' : (i : Int) < zs.length := by omega
    have hat := at_nat zs i hlt
    have e : lineL [] (zs.take (i + 1)) = lineL [] (zs.take i) ++ [lineW [] (at_ zs (i : Int))] := by
      unfold lineL
      rw [List.take_add_one, List.getElem?_eq_getElem hlt, hat, List.map_append]; rfl
    have hw : lineW [] (at_ zs (i : Int)) = ⟨#[60, 117, 110, 107, 62]⟩ := if_neg (fun h => by have := h.2; simp at this; omega)
    repeat' (first | ((first | refine WLA.m rfl rfl ?_ ?_ | refine WLA.st rfl ?_ ?_ | refine WLA.x rfl rfl ?_ (fun x => ?_) | refine WLA.x0 rfl ?_ (fun x => ?_)); first | exact trivial | exact rfl | assumption | omega | (refine ⟨?_, ?_⟩ <;> omega) | (simp only [Room, List.length_set, List.length_append, List.length_cons, List.length_nil, List.length_replicate]; omega) | decide | skip) | (refine Stp.go ?_) | (guard_target =~ WLA _ _ _ _ _ (⟨_, .call ⟨.value (.func 86), _, _⟩, _, _, _, _⟩ :: _) _ _; refine WLA.cq rfl rfl (Word_nilL) ?_) | (refine WPA.ifT ?_) | (refine WPA.ifF ?_) | ((first | refine WPA.dec ?_); first | refine .inl ⟨by first | assumption | omega | with_reducible rfl | (refine fun h => h ?_; first | assumption | with_reducible rfl) | (simp only [List.length_append, List.length_cons, List.length_nil, List.length_set] <;> omega) | decide, ?_⟩ | refine .inr ⟨by first | assumption | omega | with_reducible rfl | (refine fun h => h ?_; first | assumption | with_reducible rfl) | (simp only [List.length_append, List.length_cons, List.length_nil, List.length_set] <;> omega) | decide, ?_⟩) | ((first | refine WPA.ifBt ?_ ?_ | refine WPA.ifBnf ?_ ?_); assumption) | ((first | refine WPA.ifBnt ?_ ?_ | refine WPA.ifBf ?_ ?_); assumption) | ((first | refine WPA.ifs ?_ ?_ | refine WPA.ifB ?_ ?_) <;> intro hc))
    refine QQ.loopS (i + 1, _) ⟨rfl, rfl, rfl, rfl, rfl, trivial⟩ hlt (by dsimp only; omega) (fun w h => ?_)
    dsimp only
    rw [e, hw]
    exact h.to
  · have hlt' : ¬ (i : Int) < zs.length := by omega
    rw [List.take_of_length_le (by omega)]
    repeat' (first | ((first | refine WLA.m rfl rfl ?_ ?_ | refine WLA.st rfl ?_ ?_ | refine WLA.x rfl rfl ?_ (fun x => ?_) | refine WLA.x0 rfl ?_ (fun x => ?_)); first | exact trivial | exact rfl | assumption | omega | (refine ⟨?_, ?_⟩ <;> omega) | (simp only [Room, List.length_set, List.length_append, List.length_cons, List.length_nil, List.length_replicate]; omega) | decide | skip) | (refine Stp.go ?_) | (guard_target =~ WLA _ _ _ _ _ (⟨_, .call ⟨.value (.func 87), _, _⟩, _, _, _, _⟩ :: _) _ _; first | (refine WLA.call rfl rfl (sJoin_tr h0 hjs (by omega)) ?_; rintro ⟨⟩; rw [joinB_jt, hll]) | (refine WLA.call0 rfl (sJoin_tr h0 hjs (by omega)) ?_; rintro ⟨⟩; rw [joinB_jt, hll])) | (refine WPA.ifT ?_) | (refine WPA.ifF ?_) | ((first | refine WPA.dec ?_); first | refine .inl ⟨by first | assumption | omega | with_reducible rfl | (refine fun h => h ?_; first | assumption | with_reducible rfl) | (simp only [List.length_append, List.length_cons, List.length_nil, List.length_set] <;> omega) | decide, ?_⟩ | refine .inr ⟨by first | assumption | omega | with_reducible rfl | (refine fun h => h ?_; first | assumption | with_reducible rfl) | (simp only [List.length_append, List.length_cons, List.length_nil, List.length_set] <;> omega) | decide, ?_⟩) | ((first | refine WPA.ifBt ?_ ?_ | refine WPA.ifBnf ?_ ?_); assumption) | ((first | refine WPA.ifBnt ?_ ?_ | refine WPA.ifBf ?_ ?_); assumption) | ((first | refine WPA.ifs ?_ ?_ | refine WPA.ifB ?_ ?_) <;> intro hc))
    exact QQ.end_ rfl () rfl fun w h => h.to
theorem rLine_tr {v a : SV} {zs : List Int} [hv : RdS I L v ByteArray inferInstance texts] [ha : RdS I L a Int inferInstance zs] (hn : zs.length ≤ 60) (hz : ∀ w ∈ texts, w.size ≤ 255) :
    Tr Try.prog 28 #[.slice v.a v.n v.cap, .slice a.a a.n a.cap] (SL w0 I L) (fun _ : Unit => .string (jt (lineL texts zs) zs.length)) (fun _ => SL w0 I L) := by
  refine Tr.intro Try.func28 rfl Try.ntmps28 rfl ?_
  have hll : (lineL texts zs).length = zs.length := by unfold lineL; rw [List.length_map]
  repeat' (first | ((first | refine WLA.m rfl rfl ?_ ?_ | refine WLA.st rfl ?_ ?_ | refine WLA.x rfl rfl ?_ (fun x => ?_) | refine WLA.x0 rfl ?_ (fun x => ?_)); first | exact trivial | exact rfl | assumption | omega | (refine ⟨?_, ?_⟩ <;> omega) | (simp only [Room, List.length_set, List.length_append, List.length_cons, List.length_nil, List.length_replicate]; omega) | decide | skip) | (refine Stp.go ?_) | (refine WPA.ifT ?_) | (refine WPA.ifF ?_) | ((first | refine WPA.dec ?_); first | refine .inl ⟨by first | assumption | omega | with_reducible rfl | (refine fun h => h ?_; first | assumption | with_reducible rfl) | (simp only [List.length_append, List.length_cons, List.length_nil, List.length_set] <;> omega) | decide, ?_⟩ | refine .inr ⟨by first | assumption | omega | with_reducible rfl | (refine fun h => h ?_; first | assumption | with_reducible rfl) | (simp only [List.length_append, List.length_cons, List.length_nil, List.length_set] <;> omega) | decide, ?_⟩) | ((first | refine WPA.ifBt ?_ ?_ | refine WPA.ifBnf ?_ ?_); assumption) | ((first | refine WPA.ifBnt ?_ ?_ | refine WPA.ifBf ?_ ?_); assumption) | ((first | refine WPA.ifs ?_ ?_ | refine WPA.ifB ?_ ?_) <;> intro hc))
  refine WPA.loopS (σ := Nat × SV) (fun y => [(0, .slice v.a v.n v.cap), (1, .slice a.a a.n a.cap), (5, .slice y.2.a y.2.n y.2.cap), (6, .int .i64 y.1)]) (fun y => y.1 ≤ zs.length)
    (fun y => SL w0 I (OwnS 9 y.2 (lineL texts (zs.take y.1)) :: L)) (fun y => zs.length - y.1) (0, SV.nil) ⟨rfl, rfl, rfl, rfl, trivial⟩ (Nat.zero_le _) (fun w h => by
      show SL w0 I (OwnS 9 SV.nil ([] : List ByteArray) :: L) w
      exact h.to) ?_
  rintro ⟨i, r⟩ ρ hi
  dsimp only at hi ⊢
  have hil : (lineL texts (zs.take i)).length = i := by unfold lineL; rw [List.length_map, List.length_take]; omega
  by_cases hlt : i < zs.length
  · have hlt' : (i : Int) < zs.length := by omega
    have hat := at_nat zs i hlt
    have e : lineL texts (zs.take (i + 1)) = lineL texts (zs.take i) ++ [lineW texts (at_ zs (i : Int))] := by
      unfold lineL
      rw [List.take_add_one, List.getElem?_eq_getElem hlt, hat, List.map_append]; rfl
    by_cases hb : 0 ≤ at_ zs (i : Int)
    · by_cases hb2 : at_ zs (i : Int) < texts.length
      · have hw : lineW texts (at_ zs (i : Int)) = at_ texts (at_ zs (i : Int)) := if_pos ⟨hb, hb2⟩
        repeat' (first | ((first | refine WLA.m rfl rfl ?_ ?_ | refine WLA.st rfl ?_ ?_ | refine WLA.x rfl rfl ?_ (fun x => ?_) | refine WLA.x0 rfl ?_ (fun x => ?_)); first | exact trivial | exact rfl | assumption | omega | (refine ⟨?_, ?_⟩ <;> omega) | (simp only [Room, List.length_set, List.length_append, List.length_cons, List.length_nil, List.length_replicate]; omega) | decide | skip) | (refine Stp.go ?_) | (refine WPA.ifT ?_) | (refine WPA.ifF ?_) | (refine WLA.no rfl rfl ?_) | ((first | refine WPA.dec ?_ | ((fail_if_success (guard_target =~ WLA _ _ _ _ _ _ (put1 _ _ (.bool true)) _)); (fail_if_success (guard_target =~ WLA _ _ _ _ _ _ (put1 _ _ (.bool false)) _)); refine WLA.dec rfl rfl ?_) | refine WLA.pk ?_); first | refine .inl ⟨by first | assumption | omega | with_reducible rfl | (refine fun h => h ?_; first | assumption | with_reducible rfl) | (simp only [List.length_append, List.length_cons, List.length_nil, List.length_set] <;> omega) | decide, ?_⟩ | refine .inr ⟨by first | assumption | omega | with_reducible rfl | (refine fun h => h ?_; first | assumption | with_reducible rfl) | (simp only [List.length_append, List.length_cons, List.length_nil, List.length_set] <;> omega) | decide, ?_⟩) | ((first | refine WPA.ifBt ?_ ?_ | refine WPA.ifBnf ?_ ?_); assumption) | ((first | refine WPA.ifBnt ?_ ?_ | refine WPA.ifBf ?_ ?_); assumption) | ((first | refine WPA.ifs ?_ ?_ | refine WPA.ifB ?_ ?_) <;> intro hc) | ((fail_if_success (guard_target =~ WLA _ _ _ _ _ _ (put1 _ _ (.bool true)) _)); (fail_if_success (guard_target =~ WLA _ _ _ _ _ _ (put1 _ _ (.bool false)) _)); (first | refine WLA.both rfl rfl ?_ ?_ | refine WLA.bothB rfl rfl ?_ ?_) <;> intro hg))
        refine QQ.loopS (i + 1, _) ⟨rfl, rfl, rfl, rfl, trivial⟩ hlt (by dsimp only; omega) (fun w h => ?_)
        dsimp only
        rw [e, hw]
        exact h.to
      · have hw : lineW texts (at_ zs (i : Int)) = ⟨#[60, 117, 110, 107, 62]⟩ := if_neg (fun h => hb2 h.2)
        repeat' (first | ((first | refine WLA.m rfl rfl ?_ ?_ | refine WLA.st rfl ?_ ?_ | refine WLA.x rfl rfl ?_ (fun x => ?_) | refine WLA.x0 rfl ?_ (fun x => ?_)); first | exact trivial | exact rfl | assumption | omega | (refine ⟨?_, ?_⟩ <;> omega) | (simp only [Room, List.length_set, List.length_append, List.length_cons, List.length_nil, List.length_replicate]; omega) | decide | skip) | (refine Stp.go ?_) | (refine WPA.ifT ?_) | (refine WPA.ifF ?_) | (refine WLA.no rfl rfl ?_) | ((first | refine WPA.dec ?_ | ((fail_if_success (guard_target =~ WLA _ _ _ _ _ _ (put1 _ _ (.bool true)) _)); (fail_if_success (guard_target =~ WLA _ _ _ _ _ _ (put1 _ _ (.bool false)) _)); refine WLA.dec rfl rfl ?_) | refine WLA.pk ?_); first | refine .inl ⟨by first | assumption | omega | with_reducible rfl | (refine fun h => h ?_; first | assumption | with_reducible rfl) | (simp only [List.length_append, List.length_cons, List.length_nil, List.length_set] <;> omega) | decide, ?_⟩ | refine .inr ⟨by first | assumption | omega | with_reducible rfl | (refine fun h => h ?_; first | assumption | with_reducible rfl) | (simp only [List.length_append, List.length_cons, List.length_nil, List.length_set] <;> omega) | decide, ?_⟩) | ((first | refine WPA.ifBt ?_ ?_ | refine WPA.ifBnf ?_ ?_); assumption) | ((first | refine WPA.ifBnt ?_ ?_ | refine WPA.ifBf ?_ ?_); assumption) | ((first | refine WPA.ifs ?_ ?_ | refine WPA.ifB ?_ ?_) <;> intro hc) | ((fail_if_success (guard_target =~ WLA _ _ _ _ _ _ (put1 _ _ (.bool true)) _)); (fail_if_success (guard_target =~ WLA _ _ _ _ _ _ (put1 _ _ (.bool false)) _)); (first | refine WLA.both rfl rfl ?_ ?_ | refine WLA.bothB rfl rfl ?_ ?_) <;> intro hg))
        refine QQ.loopS (i + 1, _) ⟨rfl, rfl, rfl, rfl, trivial⟩ hlt (by dsimp only; omega) (fun w h => ?_)
        dsimp only
        rw [e, hw]
        exact h.to
    · have hw : lineW texts (at_ zs (i : Int)) = ⟨#[60, 117, 110, 107, 62]⟩ := if_neg (fun h => hb h.1)
      repeat' (first | ((first | refine WLA.m rfl rfl ?_ ?_ | refine WLA.st rfl ?_ ?_ | refine WLA.x rfl rfl ?_ (fun x => ?_) | refine WLA.x0 rfl ?_ (fun x => ?_)); first | exact trivial | exact rfl | assumption | omega | (refine ⟨?_, ?_⟩ <;> omega) | (simp only [Room, List.length_set, List.length_append, List.length_cons, List.length_nil, List.length_replicate]; omega) | decide | skip) | (refine Stp.go ?_) | (refine WPA.ifT ?_) | (refine WPA.ifF ?_) | (refine WLA.no rfl rfl ?_) | ((first | refine WPA.dec ?_ | ((fail_if_success (guard_target =~ WLA _ _ _ _ _ _ (put1 _ _ (.bool true)) _)); (fail_if_success (guard_target =~ WLA _ _ _ _ _ _ (put1 _ _ (.bool false)) _)); refine WLA.dec rfl rfl ?_) | refine WLA.pk ?_); first | refine .inl ⟨by first | assumption | omega | with_reducible rfl | (refine fun h => h ?_; first | assumption | with_reducible rfl) | (simp only [List.length_append, List.length_cons, List.length_nil, List.length_set] <;> omega) | decide, ?_⟩ | refine .inr ⟨by first | assumption | omega | with_reducible rfl | (refine fun h => h ?_; first | assumption | with_reducible rfl) | (simp only [List.length_append, List.length_cons, List.length_nil, List.length_set] <;> omega) | decide, ?_⟩) | ((first | refine WPA.ifBt ?_ ?_ | refine WPA.ifBnf ?_ ?_); assumption) | ((first | refine WPA.ifBnt ?_ ?_ | refine WPA.ifBf ?_ ?_); assumption) | ((first | refine WPA.ifs ?_ ?_ | refine WPA.ifB ?_ ?_) <;> intro hc) | ((fail_if_success (guard_target =~ WLA _ _ _ _ _ _ (put1 _ _ (.bool true)) _)); (fail_if_success (guard_target =~ WLA _ _ _ _ _ _ (put1 _ _ (.bool false)) _)); (first | refine WLA.both rfl rfl ?_ ?_ | refine WLA.bothB rfl rfl ?_ ?_) <;> intro hg))
      refine QQ.loopS (i + 1, _) ⟨rfl, rfl, rfl, rfl, trivial⟩ hlt (by dsimp only; omega) (fun w h => ?_)
      dsimp only
      rw [e, hw]
      exact h.to
  · have hlt' : ¬ (i : Int) < zs.length := by omega
    rw [List.take_of_length_le (by omega)]
    repeat' (first | ((first | refine WLA.m rfl rfl ?_ ?_ | refine WLA.st rfl ?_ ?_ | refine WLA.x rfl rfl ?_ (fun x => ?_) | refine WLA.x0 rfl ?_ (fun x => ?_)); first | exact trivial | exact rfl | assumption | omega | (refine ⟨?_, ?_⟩ <;> omega) | (simp only [Room, List.length_set, List.length_append, List.length_cons, List.length_nil, List.length_replicate]; omega) | decide | skip) | (refine Stp.go ?_) | (guard_target =~ WLA _ _ _ _ _ (⟨_, .call ⟨.value (.func 88), _, _⟩, _, _, _, _⟩ :: _) _ _; refine WLA.cq rfl rfl (Join_tr (by omega) (lineL_ok hz)) ?_) | (refine WPA.ifT ?_) | (refine WPA.ifF ?_) | ((first | refine WPA.dec ?_); first | refine .inl ⟨by first | assumption | omega | with_reducible rfl | (refine fun h => h ?_; first | assumption | with_reducible rfl) | (simp only [List.length_append, List.length_cons, List.length_nil, List.length_set] <;> omega) | decide, ?_⟩ | refine .inr ⟨by first | assumption | omega | with_reducible rfl | (refine fun h => h ?_; first | assumption | with_reducible rfl) | (simp only [List.length_append, List.length_cons, List.length_nil, List.length_set] <;> omega) | decide, ?_⟩) | ((first | refine WPA.ifBt ?_ ?_ | refine WPA.ifBnf ?_ ?_); assumption) | ((first | refine WPA.ifBnt ?_ ?_ | refine WPA.ifBf ?_ ?_); assumption) | ((first | refine WPA.ifs ?_ ?_ | refine WPA.ifB ?_ ?_) <;> intro hc))
    exact QQ.end_ rfl () (by rw [hll]) fun w h => h.to
end
end Go.Proofs.Ytlodbajaoadhdaa
