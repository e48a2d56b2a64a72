/- Few n-grams; the example of a model; ModelChecks. Conditions: none. -/
import Derived.Test.YtfhelnalegochaaMo8
namespace Go.Proofs.Ytfhelnalegochaa
open Go Go.Fw Go.RowKit
set_option linter.unusedVariables false
set_option linter.unusedSimpArgs false
set_option maxRecDepth 100000
set_option maxHeartbeats 16000000
set_option synthInstance.maxHeartbeats 200000
set_option synthInstance.maxSize 100000
attribute [local irreducible] WPA WLA WDA WDQ WDE QQ seqQ blockQ loopQ fnQ OpP OpT Tr TrP SL SLd OwnS LitS Bk BkE Ob
attribute [local irreducible] TblH VocH
/-- A model's memory. -/
structure MdR (I : Foot) (kg : SV → List Int) (re : SV → List En) (w g : SV) (ws : List ByteArray) (gr : List SV) : Prop where
  words : SlI I w ByteArray inferInstance ws
  grams : SlI I g SV inferInstance gr
  rows : ∀ h ∈ gr, SlI I h En inferInstance (re h)
  elems : ∀ h ∈ gr, EnG I kg (re h)
  wsz : ∀ s ∈ ws, s.size ≤ 140737488351232
def FewP (kg : SV → List Int) (re : SV → List En) (ws : List ByteArray) (gr : List SV) : Prop := (ws.length ≤ 30 ∧ gr.length ≤ 10) ∧ ∀ h ∈ gr, (re h).length ≤ 100 ∧ ∀ p ∈ re h, (kg p.1).length ≤ 12
theorem MdR.few {I : Foot} {kg : SV → List Int} {re : SV → List En} {w g : SV} {ws : List ByteArray} {gr : List SV} (h : MdR I kg re w g ws gr) (f : FewP kg re ws gr) : MdI I kg re w g ws gr :=
  ⟨h.words, h.grams, h.rows, h.elems, h.wsz, by have := f.1.1; omega, by have := f.1.2; omega, fun x hx => by have := (f.2 x hx).1; omega, fun x hx p hp => by have := (f.2 x hx).2 p hp; omega⟩
section
variable {kg : SV → List Int} {re : SV → List En} {L : List HP} {w0 : World} {I : Foot}
theorem Small_tr31 {fr : Int} {w g : SV} {ws : List ByteArray} {gr : List SV} (hM : MdR I kg re w g ws gr) :
    Tr Try.prog 37 #[.agg #[.int .i64 fr, .slice w.a w.n w.cap, .slice g.a g.n g.cap]] (SL w0 I L) (fun b : { b : Bool // b = true → FewP kg re ws gr } => .bool b.1) (fun _ => SL w0 I L) := by
  refine Tr.intro Try.func37 rfl Try.ntmps37 rfl ?_
  obtain ⟨hW, hg, hR, hE, hz⟩ := hM
  by_cases h1 : (30 : Int) < ws.length
  · skip
    repeat' (first | ((first | refine WLA.m rfl rfl ?_ ?_ | refine WLA.st rfl ?_ ?_ | refine WLA.x rfl rfl ?_ (fun x => ?_) | refine WLA.x0 rfl ?_ (fun x => ?_)); first | exact trivial | exact rfl | assumption | omega | (refine ⟨?_, ?_⟩ <;> omega) | (simp only [Room, List.length_set, List.length_append, List.length_cons, List.length_nil, List.length_replicate]; omega) | decide | skip) | (refine Stp.go ?_) | (refine WPA.ifT ?_) | (refine WPA.ifF ?_) | (refine WLA.no rfl rfl ?_) | ((first | refine WPA.dec ?_ | ((fail_if_success (guard_target =~ WLA _ _ _ _ _ _ (put1 _ _ (.bool true)) _)); (fail_if_success (guard_target =~ WLA _ _ _ _ _ _ (put1 _ _ (.bool false)) _)); refine WLA.dec rfl rfl ?_) | refine WLA.pk ?_); first | refine .inl ⟨by first | assumption | omega | with_reducible rfl | (refine fun h => h ?_; assumption) | (simp only [List.length_append, List.length_cons, List.length_nil, List.length_set] <;> omega) | decide, ?_⟩ | refine .inr ⟨by first | assumption | omega | with_reducible rfl | (refine fun h => h ?_; assumption) | (simp only [List.length_append, List.length_cons, List.length_nil, List.length_set] <;> omega) | decide, ?_⟩) | ((first | refine WPA.ifBt ?_ ?_ | refine WPA.ifBnf ?_ ?_); assumption) | ((first | refine WPA.ifBnt ?_ ?_ | refine WPA.ifBf ?_ ?_); assumption) | ((first | refine WPA.ifs ?_ ?_ | refine WPA.ifB ?_ ?_) <;> intro hc) | ((fail_if_success (guard_target =~ WLA _ _ _ _ _ _ (put1 _ _ (.bool true)) _)); (fail_if_success (guard_target =~ WLA _ _ _ _ _ _ (put1 _ _ (.bool false)) _)); (first | refine WLA.both rfl rfl ?_ ?_ | refine WLA.bothB rfl rfl ?_ ?_) <;> intro hg))
    exact QQ.end_ rfl ⟨false, by simp⟩ rfl fun w h => h.to
  by_cases h2 : (10 : Int) < gr.length
  · skip
    repeat' (first | ((first | refine WLA.m rfl rfl ?_ ?_ | refine WLA.st rfl ?_ ?_ | refine WLA.x rfl rfl ?_ (fun x => ?_) | refine WLA.x0 rfl ?_ (fun x => ?_)); first | exact trivial | exact rfl | assumption | omega | (refine ⟨?_, ?_⟩ <;> omega) | (simp only [Room, List.length_set, List.length_append, List.length_cons, List.length_nil, List.length_replicate]; omega) | decide | skip) | (refine Stp.go ?_) | (refine WPA.ifT ?_) | (refine WPA.ifF ?_) | (refine WLA.no rfl rfl ?_) | ((first | refine WPA.dec ?_ | ((fail_if_success (guard_target =~ WLA _ _ _ _ _ _ (put1 _ _ (.bool true)) _)); (fail_if_success (guard_target =~ WLA _ _ _ _ _ _ (put1 _ _ (.bool false)) _)); refine WLA.dec rfl rfl ?_) | refine WLA.pk ?_); first | refine .inl ⟨by first | assumption | omega | with_reducible rfl | (refine fun h => h ?_; assumption) | (simp only [List.length_append, List.length_cons, List.length_nil, List.length_set] <;> omega) | decide, ?_⟩ | refine .inr ⟨by first | assumption | omega | with_reducible rfl | (refine fun h => h ?_; assumption) | (simp only [List.length_append, List.length_cons, List.length_nil, List.length_set] <;> omega) | decide, ?_⟩) | ((first | refine WPA.ifBt ?_ ?_ | refine WPA.ifBnf ?_ ?_); assumption) | ((first | refine WPA.ifBnt ?_ ?_ | refine WPA.ifBf ?_ ?_); assumption) | ((first | refine WPA.ifs ?_ ?_ | refine WPA.ifB ?_ ?_) <;> intro hc) | ((fail_if_success (guard_target =~ WLA _ _ _ _ _ _ (put1 _ _ (.bool true)) _)); (fail_if_success (guard_target =~ WLA _ _ _ _ _ _ (put1 _ _ (.bool false)) _)); (first | refine WLA.both rfl rfl ?_ ?_ | refine WLA.bothB rfl rfl ?_ ?_) <;> intro hg))
    exact QQ.end_ rfl ⟨false, by simp⟩ rfl fun w h => h.to
  repeat' (first | ((first | refine WLA.m rfl rfl ?_ ?_ | refine WLA.st rfl ?_ ?_ | refine WLA.x rfl rfl ?_ (fun x => ?_) | refine WLA.x0 rfl ?_ (fun x => ?_)); first | exact trivial | exact rfl | assumption | omega | (refine ⟨?_, ?_⟩ <;> omega) | (simp only [Room, List.length_set, List.length_append, List.length_cons, List.length_nil, List.length_replicate]; omega) | decide | skip) | (refine Stp.go ?_) | (refine WPA.ifT ?_) | (refine WPA.ifF ?_) | (refine WLA.no rfl rfl ?_) | ((first | refine WPA.dec ?_ | ((fail_if_success (guard_target =~ WLA _ _ _ _ _ _ (put1 _ _ (.bool true)) _)); (fail_if_success (guard_target =~ WLA _ _ _ _ _ _ (put1 _ _ (.bool false)) _)); refine WLA.dec rfl rfl ?_) | refine WLA.pk ?_); first | refine .inl ⟨by first | assumption | omega | with_reducible rfl | (refine fun h => h ?_; assumption) | (simp only [List.length_append, List.length_cons, List.length_nil, List.length_set] <;> omega) | decide, ?_⟩ | refine .inr ⟨by first | assumption | omega | with_reducible rfl | (refine fun h => h ?_; assumption) | (simp only [List.length_append, List.length_cons, List.length_nil, List.length_set] <;> omega) | decide, ?_⟩) | ((first | refine WPA.ifBt ?_ ?_ | refine WPA.ifBnf ?_ ?_); assumption) | ((first | refine WPA.ifBnt ?_ ?_ | refine WPA.ifBf ?_ ?_); assumption) | ((first | refine WPA.ifs ?_ ?_ | refine WPA.ifB ?_ ?_) <;> intro hc) | ((fail_if_success (guard_target =~ WLA _ _ _ _ _ _ (put1 _ _ (.bool true)) _)); (fail_if_success (guard_target =~ WLA _ _ _ _ _ _ (put1 _ _ (.bool false)) _)); (first | refine WLA.both rfl rfl ?_ ?_ | refine WLA.bothB rfl rfl ?_ ?_) <;> intro hg))
  revert x; intro t1
  refine WPA.loopS (σ := Nat × Nat) (fun y => [(1, .pointer (some ⟨t1, 0, none⟩)), (3, .int .i64 y.2), (4, .int .i64 y.1)]) (fun y => (y.1 ≤ gr.length ∧ y.2 ≤ 100 * y.1) ∧ ∀ h ∈ gr.take y.1, (re h).length ≤ 100 ∧ ∀ p ∈ re h, (kg p.1).length ≤ 12)
    (fun _ => SL w0 I (Bk t1 58 [.int .i64 fr, .slice w.a w.n w.cap, .slice g.a g.n g.cap] :: L)) (fun y => gr.length - y.1) (0, 0) ⟨rfl, rfl, rfl, trivial⟩ ⟨⟨Nat.zero_le _, Nat.zero_le _⟩, by simp⟩ (fun w h => h.to) ?_
  rintro ⟨k, n⟩ ρ ⟨⟨hk, hn⟩, hf⟩
  dsimp only at hk hn hf ⊢
  by_cases hkl : k < gr.length
  · have hkl' : (k : Int) < gr.length := by omega
    have hme : at_ gr (k : Int) ∈ gr := by rw [at_nat gr k hkl]; exact List.getElem_mem _
    have hRk := hR _ hme
    have hEk := hE _ hme
    have hnx : ∀ h ∈ gr.take (k + 1), h ∈ gr.take k ∨ h = at_ gr (k : Int) := by
      intro h hh
      rw [List.take_add_one, List.getElem?_eq_getElem hkl, ← at_nat gr k hkl] at hh
      rcases List.mem_append.1 hh with hh | hh
      · exact .inl hh
      · simp only [Option.toList_some, List.mem_singleton] at hh; exact .inr hh
    generalize hes : re (at_ gr (k : Int)) = es at hRk hEk
    by_cases h3 : (100 : Int) < es.length
    · skip
      repeat' (first | ((first | refine WLA.m rfl rfl ?_ ?_ | refine WLA.st rfl ?_ ?_ | refine WLA.x rfl rfl ?_ (fun x => ?_) | refine WLA.x0 rfl ?_ (fun x => ?_)); first | exact trivial | exact rfl | assumption | omega | (refine ⟨?_, ?_⟩ <;> omega) | (simp only [Room, List.length_set, List.length_append, List.length_cons, List.length_nil, List.length_replicate]; omega) | decide | skip) | (refine Stp.go ?_) | (refine WPA.ifT ?_) | (refine WPA.ifF ?_) | ((first | refine WPA.dec ?_); first | refine .inl ⟨by first | assumption | omega | with_reducible rfl | (refine fun h => h ?_; assumption) | (simp only [List.length_append, List.length_cons, List.length_nil, List.length_set] <;> omega) | decide, ?_⟩ | refine .inr ⟨by first | assumption | omega | with_reducible rfl | (refine fun h => h ?_; assumption) | (simp only [List.length_append, List.length_cons, List.length_nil, List.length_set] <;> omega) | decide, ?_⟩) | ((first | refine WPA.ifBt ?_ ?_ | refine WPA.ifBnf ?_ ?_); assumption) | ((first | refine WPA.ifBnt ?_ ?_ | refine WPA.ifBf ?_ ?_); assumption) | ((first | refine WPA.ifs ?_ ?_ | refine WPA.ifB ?_ ?_) <;> intro hc))
      exact QQ.end_ rfl ⟨false, by simp⟩ rfl fun w h => h.to
    · have hsm : -9223372036854775808 ≤ (n : Int) + es.length ∧ (n : Int) + es.length ≤ 9223372036854775807 := by omega
      repeat' (first | ((first | refine WLA.m rfl rfl ?_ ?_ | refine WLA.st rfl ?_ ?_ | refine WLA.x rfl rfl ?_ (fun x => ?_) | refine WLA.x0 rfl ?_ (fun x => ?_)); first | exact trivial | exact rfl | assumption | omega | (refine ⟨?_, ?_⟩ <;> omega) | (simp only [Room, List.length_set, List.length_append, List.length_cons, List.length_nil, List.length_replicate]; omega) | decide | skip) | (refine Stp.go ?_) | (refine WPA.ifT ?_) | (refine WPA.ifF ?_) | ((first | refine WPA.dec ?_); first | refine .inl ⟨by first | assumption | omega | with_reducible rfl | (refine fun h => h ?_; assumption) | (simp only [List.length_append, List.length_cons, List.length_nil, List.length_set] <;> omega) | decide, ?_⟩ | refine .inr ⟨by first | assumption | omega | with_reducible rfl | (refine fun h => h ?_; assumption) | (simp only [List.length_append, List.length_cons, List.length_nil, List.length_set] <;> omega) | decide, ?_⟩) | ((first | refine WPA.ifBt ?_ ?_ | refine WPA.ifBnf ?_ ?_); assumption) | ((first | refine WPA.ifBnt ?_ ?_ | refine WPA.ifBf ?_ ?_); assumption) | ((first | refine WPA.ifs ?_ ?_ | refine WPA.ifB ?_ ?_) <;> intro hc))
      refine WPA.loopS (σ := Nat) (fun i => [(1, .pointer (some ⟨t1, 0, none⟩)), (3, .int .i64 ((n : Int) + es.length)), (4, .int .i64 k), (5, .int .i64 i)]) (fun i => i ≤ es.length ∧ ∀ p ∈ es.take i, (kg p.1).length ≤ 12)
        (fun _ => SL w0 I (Bk t1 58 [.int .i64 fr, .slice w.a w.n w.cap, .slice g.a g.n g.cap] :: L)) (fun i => es.length - i) 0 ⟨rfl, rfl, rfl, rfl, trivial⟩ ⟨Nat.zero_le _, by simp⟩ (fun w h => h.to) ?_
      rintro i ρ2 ⟨hi, hfi⟩
      by_cases hil : i < es.length
      · have hil' : (i : Int) < es.length := by omega
        have hxg := hEk.at hil
        by_cases h4 : (12 : Int) < (kg (at_ es (i : Int)).1).length
        · skip
          repeat' (first | ((first | refine WLA.m rfl rfl ?_ ?_ | refine WLA.st rfl ?_ ?_ | refine WLA.x rfl rfl ?_ (fun x => ?_) | refine WLA.x0 rfl ?_ (fun x => ?_)); first | exact trivial | exact rfl | assumption | omega | (refine ⟨?_, ?_⟩ <;> omega) | (simp only [Room, List.length_set, List.length_append, List.length_cons, List.length_nil, List.length_replicate]; omega) | decide | skip) | (refine Stp.go ?_) | (refine WPA.ifT ?_) | (refine WPA.ifF ?_) | ((first | refine WPA.dec ?_); first | refine .inl ⟨by first | assumption | omega | with_reducible rfl | (refine fun h => h ?_; assumption) | (simp only [List.length_append, List.length_cons, List.length_nil, List.length_set] <;> omega) | decide, ?_⟩ | refine .inr ⟨by first | assumption | omega | with_reducible rfl | (refine fun h => h ?_; assumption) | (simp only [List.length_append, List.length_cons, List.length_nil, List.length_set] <;> omega) | decide, ?_⟩) | ((first | refine WPA.ifBt ?_ ?_ | refine WPA.ifBnf ?_ ?_); assumption) | ((first | refine WPA.ifBnt ?_ ?_ | refine WPA.ifBf ?_ ?_); assumption) | ((first | refine WPA.ifs ?_ ?_ | refine WPA.ifB ?_ ?_) <;> intro hc))
          exact QQ.end_ rfl ⟨false, by simp⟩ rfl fun w h => h.to
        · skip
          repeat' (first | ((first | refine WLA.m rfl rfl ?_ ?_ | refine WLA.st rfl ?_ ?_ | refine WLA.x rfl rfl ?_ (fun x => ?_) | refine WLA.x0 rfl ?_ (fun x => ?_)); first | exact trivial | exact rfl | assumption | omega | (refine ⟨?_, ?_⟩ <;> omega) | (simp only [Room, List.length_set, List.length_append, List.length_cons, List.length_nil, List.length_replicate]; omega) | decide | skip) | (refine Stp.go ?_) | (refine WPA.ifT ?_) | (refine WPA.ifF ?_) | ((first | refine WPA.dec ?_); first | refine .inl ⟨by first | assumption | omega | with_reducible rfl | (refine fun h => h ?_; assumption) | (simp only [List.length_append, List.length_cons, List.length_nil, List.length_set] <;> omega) | decide, ?_⟩ | refine .inr ⟨by first | assumption | omega | with_reducible rfl | (refine fun h => h ?_; assumption) | (simp only [List.length_append, List.length_cons, List.length_nil, List.length_set] <;> omega) | decide, ?_⟩) | ((first | refine WPA.ifBt ?_ ?_ | refine WPA.ifBnf ?_ ?_); assumption) | ((first | refine WPA.ifBnt ?_ ?_ | refine WPA.ifBf ?_ ?_); assumption) | ((first | refine WPA.ifs ?_ ?_ | refine WPA.ifB ?_ ?_) <;> intro hc))
          refine QQ.loopS (i + 1) ⟨rfl, rfl, rfl, rfl, trivial⟩ ⟨hil, ?_⟩ (by omega) (fun w h => h.to)
          intro p hp
          rw [List.take_add_one, List.getElem?_eq_getElem hil, ← at_nat es i hil] at hp
          rcases List.mem_append.1 hp with hp | hp
          · exact hfi p hp
          · simp only [Option.toList_some, List.mem_singleton] at hp; subst hp; omega
      · have hil' : ¬ (i : Int) < es.length := by omega
        rw [List.take_of_length_le (by omega)] at hfi
        repeat' (first | ((first | refine WLA.m rfl rfl ?_ ?_ | refine WLA.st rfl ?_ ?_ | refine WLA.x rfl rfl ?_ (fun x => ?_) | refine WLA.x0 rfl ?_ (fun x => ?_)); first | exact trivial | exact rfl | assumption | omega | (refine ⟨?_, ?_⟩ <;> omega) | (simp only [Room, List.length_set, List.length_append, List.length_cons, List.length_nil, List.length_replicate]; omega) | decide | skip) | (refine Stp.go ?_) | (refine WPA.ifT ?_) | (refine WPA.ifF ?_) | ((first | refine WPA.dec ?_); first | refine .inl ⟨by first | assumption | omega | with_reducible rfl | (refine fun h => h ?_; assumption) | (simp only [List.length_append, List.length_cons, List.length_nil, List.length_set] <;> omega) | decide, ?_⟩ | refine .inr ⟨by first | assumption | omega | with_reducible rfl | (refine fun h => h ?_; assumption) | (simp only [List.length_append, List.length_cons, List.length_nil, List.length_set] <;> omega) | decide, ?_⟩) | ((first | refine WPA.ifBt ?_ ?_ | refine WPA.ifBnf ?_ ?_); assumption) | ((first | refine WPA.ifBnt ?_ ?_ | refine WPA.ifBf ?_ ?_); assumption) | ((first | refine WPA.ifs ?_ ?_ | refine WPA.ifB ?_ ?_) <;> intro hc))
        refine QQ.loopS (k + 1, n + es.length) ⟨rfl, rfl, rfl, trivial⟩ ⟨⟨hkl, by dsimp only; omega⟩, fun h hh => ?_⟩ (by dsimp only; omega) (fun w h => h.to)
        rcases hnx h hh with hh | rfl
        · exact hf h hh
        · rw [hes]; exact ⟨by omega, hfi⟩
  · have hkl' : ¬ (k : Int) < gr.length := by omega
    rw [List.take_of_length_le (by omega)] at hf
    repeat' ((fail_if_success (guard_target =~ WPA _ _ _ (.region 15 _ _) _ _ _)); first | ((first | refine WLA.m rfl rfl ?_ ?_ | refine WLA.st rfl ?_ ?_ | refine WLA.x rfl rfl ?_ (fun x => ?_) | refine WLA.x0 rfl ?_ (fun x => ?_)); first | exact trivial | exact rfl | assumption | omega | (refine ⟨?_, ?_⟩ <;> omega) | (simp only [Room, List.length_set, List.length_append, List.length_cons, List.length_nil, List.length_replicate]; omega) | decide | skip) | (refine Stp.go ?_) | (refine WPA.ifT ?_) | (refine WPA.ifF ?_) | ((first | refine WPA.dec ?_); first | refine .inl ⟨by first | assumption | omega | with_reducible rfl | (refine fun h => h ?_; assumption) | (simp only [List.length_append, List.length_cons, List.length_nil, List.length_set] <;> omega) | decide, ?_⟩ | refine .inr ⟨by first | assumption | omega | with_reducible rfl | (refine fun h => h ?_; assumption) | (simp only [List.length_append, List.length_cons, List.length_nil, List.length_set] <;> omega) | decide, ?_⟩) | ((first | refine WPA.ifBt ?_ ?_ | refine WPA.ifBnf ?_ ?_); assumption) | ((first | refine WPA.ifBnt ?_ ?_ | refine WPA.ifBf ?_ ?_); assumption) | ((first | refine WPA.ifs ?_ ?_ | refine WPA.ifB ?_ ?_) <;> intro hc))
    repeat' (first | ((first | refine WLA.m rfl rfl ?_ ?_ | refine WLA.st rfl ?_ ?_ | refine WLA.x rfl rfl ?_ (fun x => ?_) | refine WLA.x0 rfl ?_ (fun x => ?_)); first | exact trivial | exact rfl | assumption | omega | (refine ⟨?_, ?_⟩ <;> omega) | (simp only [Room, List.length_set, List.length_append, List.length_cons, List.length_nil, List.length_replicate]; omega) | decide | skip) | (refine Stp.go ?_) | (refine WPA.ifT ?_) | (refine WPA.ifF ?_) | ((first | refine WPA.dec ?_); first | refine .inl ⟨by first | assumption | omega | with_reducible rfl | (refine fun h => h ?_; assumption) | (simp only [List.length_append, List.length_cons, List.length_nil, List.length_set] <;> omega) | decide, ?_⟩ | refine .inr ⟨by first | assumption | omega | with_reducible rfl | (refine fun h => h ?_; assumption) | (simp only [List.length_append, List.length_cons, List.length_nil, List.length_set] <;> omega) | decide, ?_⟩) | ((first | refine WPA.ifBt ?_ ?_ | refine WPA.ifBnf ?_ ?_); assumption) | ((first | refine WPA.ifBnt ?_ ?_ | refine WPA.ifBf ?_ ?_); assumption) | ((first | refine WPA.ifs ?_ ?_ | refine WPA.ifB ?_ ?_) <;> intro hc))
    exact QQ.end_ rfl ⟨decide ((n : Int) ≤ 200), fun _ => ⟨⟨by omega, by omega⟩, hf⟩⟩ rfl fun w h => h.to
end
structure OneQ where
  ws : SV
  e0 : SV
  e1 : SV
  e2 : SV
  e3 : SV
  l0 : SV
  l1 : SV
  g : SV
structure OneP (kg : SV → List Int) (re : SV → List En) (q : OneQ) : Prop where
  k0 : kg q.e0 = [0]
  k1 : kg q.e1 = [1]
  k2 : kg q.e2 = [2]
  k3 : kg q.e3 = [1, 0]
  r0 : re q.l0 = [(q.e0, -5, 0), (q.e1, -9, -3), (q.e2, -1, 0)]
  r1 : re q.l1 = [(q.e3, -2, 0)]
section
variable {kg : SV → List Int} {re : SV → List En} {q : OneQ}
theorem one_ok3 : OfOk mk3 := ⟨⟨by decide, by decide⟩, by decide, fun j h1 h2 => by have h2 : j < 3 := h2; omega⟩
theorem one_l0 (h : OneP kg re q) (ps : List En) : chkLs kg 3 false 0 [(q.e0, -5, 0), (q.e1, -9, -3), (q.e2, -1, 0)] ps = 0 := by
  have a0 : chkE kg 3 false 0 [(q.e0, -5, 0), (q.e1, -9, -3), (q.e2, -1, 0)] ps 0 = 0 := by
    show chkE kg 3 false 0 [(q.e0, -5, 0), (q.e1, -9, -3), (q.e2, -1, 0)] ps 0 = 0
    unfold chkE
    rw [show at_ [(q.e0, -5, 0), (q.e1, -9, -3), (q.e2, -1, 0)] ((0 : Nat) : Int) = (q.e0, -5, 0) from rfl, h.k0, show entE [0] (-5) 0 (((0 : Nat) : Int) + 1) ((3 : Nat) : Int) false = 0 from by decide]
    simp
  have a1 : chkE kg 3 false 0 [(q.e0, -5, 0), (q.e1, -9, -3), (q.e2, -1, 0)] ps 1 = 0 := by
    unfold chkE
    rw [show at_ [(q.e0, -5, 0), (q.e1, -9, -3), (q.e2, -1, 0)] ((1 : Nat) : Int) = (q.e1, -9, -3) from rfl, show at_ [(q.e0, -5, 0), (q.e1, -9, -3), (q.e2, -1, 0)] (((1 : Nat) : Int) - 1) = (q.e0, -5, 0) from rfl, h.k0, h.k1, show entE [1] (-9) (-3) (((0 : Nat) : Int) + 1) ((3 : Nat) : Int) false = 0 from by decide]
    simp [cmpL]
  have a2 : chkE kg 3 false 0 [(q.e0, -5, 0), (q.e1, -9, -3), (q.e2, -1, 0)] ps 2 = 0 := by
    unfold chkE
    rw [show at_ [(q.e0, -5, 0), (q.e1, -9, -3), (q.e2, -1, 0)] ((2 : Nat) : Int) = (q.e2, -1, 0) from rfl, show at_ [(q.e0, -5, 0), (q.e1, -9, -3), (q.e2, -1, 0)] (((2 : Nat) : Int) - 1) = (q.e1, -9, -3) from rfl, h.k1, h.k2, show entE [2] (-1) 0 (((0 : Nat) : Int) + 1) ((3 : Nat) : Int) false = 0 from by decide]
    simp [cmpL]
  have e : firstN (chkE kg 3 false 0 [(q.e0, -5, 0), (q.e1, -9, -3), (q.e2, -1, 0)] ps) 3 = 0 := by
    simp only [firstN, a0, a1, a2]; decide
  unfold chkLs
  rw [show ([(q.e0, -5, 0), (q.e1, -9, -3), (q.e2, -1, 0)] : List En).length = 3 from rfl, e]; simp
theorem one_l1 (h : OneP kg re q) : chkLs kg 3 true 1 [(q.e3, -2, 0)] [(q.e0, -5, 0), (q.e1, -9, -3), (q.e2, -1, 0)] = 0 := by
  have a0 : chkE kg 3 true 1 [(q.e3, -2, 0)] [(q.e0, -5, 0), (q.e1, -9, -3), (q.e2, -1, 0)] 0 = 0 := by
    unfold chkE
    rw [show at_ ([(q.e3, -2, 0)] : List En) ((0 : Nat) : Int) = (q.e3, -2, 0) from rfl, h.k3, show entE [1, 0] (-2) 0 (((1 : Nat) : Int) + 1) ((3 : Nat) : Int) true = 0 from by decide]
    simp only [List.map_cons, List.map_nil, h.k0, h.k1, h.k2]
    rw [if_neg (fun h => h rfl), if_neg (fun h => absurd h.1 (by decide)), if_neg (fun h => h.2 (by decide))]
  have e : firstN (chkE kg 3 true 1 [(q.e3, -2, 0)] [(q.e0, -5, 0), (q.e1, -9, -3), (q.e2, -1, 0)]) 1 = 0 := by simp only [firstN, a0]; decide
  unfold chkLs
  rw [show ([(q.e3, -2, 0)] : List En).length = 1 from rfl, e]; simp
theorem one_chk (h : OneP kg re q) : chkM kg re 4 mk3 [q.l0, q.l1] = 0 := by
  have e : firstN (chkL kg re mk3.length [q.l0, q.l1]) 2 = 0 := by
    have b0 : chkL kg re mk3.length [q.l0, q.l1] 0 = 0 := by
      unfold chkL
      rw [show at_ [q.l0, q.l1] ((0 : Nat) : Int) = q.l0 from rfl, h.r0]
      exact one_l0 h _
    have b1 : chkL kg re mk3.length [q.l0, q.l1] 1 = 0 := by
      unfold chkL
      rw [show at_ [q.l0, q.l1] ((1 : Nat) : Int) = q.l1 from rfl, show at_ [q.l0, q.l1] (((1 : Nat) : Int) - 1) = q.l0 from rfl, h.r0, h.r1]
      exact one_l1 h
    simp only [firstN, b0, b1]; decide
  unfold chkM
  rw [ofE_ok one_ok3, show ([q.l0, q.l1] : List SV).length = 2 from rfl, e]
  decide
theorem one_fnd1 (h : OneP kg re q) (x : Int) : FndP kg re [q.l0, q.l1] [x] ↔ x = 0 ∨ x = 1 ∨ x = 2 := by
  unfold FndP
  rw [show at_ [q.l0, q.l1] ((([x] : List Int).length : Int) - 1) = q.l0 from rfl, h.r0]
  simp only [List.map_cons, List.map_nil, h.k0, h.k1, h.k2]
  simp
theorem one_fnd2 (h : OneP kg re q) (x y : Int) : FndP kg re [q.l0, q.l1] [x, y] ↔ x = 1 ∧ y = 0 := by
  unfold FndP
  rw [show at_ [q.l0, q.l1] ((([x, y] : List Int).length : Int) - 1) = q.l1 from rfl, h.r1]
  simp only [List.map_cons, List.map_nil, h.k3]
  simp
theorem one_p2 (h : OneP kg re q) : prbN kg re [q.l0, q.l1] 2 [] = -1 := by
  rw [prbN, if_pos ((one_fnd1 h 2).2 (by decide))]
  unfold cdsG entG hasN
  rw [show at_ [q.l0, q.l1] ((([2] : List Int).length : Int) - 1) = q.l0 from rfl, h.r0]
  simp only [List.map_cons, List.map_nil, h.k0, h.k1, h.k2]
  rfl
theorem one_p1 (h : OneP kg re q) : prbN kg re [q.l0, q.l1] 2 [1] = -4 := by
  rw [prbN, one_p2 h, if_neg (fun k => by have := (one_fnd2 h 1 2).1 k; omega)]
  unfold bckN
  rw [if_pos ((one_fnd1 h 1).2 (by decide))]
  unfold cdsG entG hasN
  rw [show at_ [q.l0, q.l1] ((([1] : List Int).length : Int) - 1) = q.l0 from rfl, h.r0]
  simp only [List.map_cons, List.map_nil, h.k0, h.k1, h.k2]
  rfl
theorem one_p3 (h : OneP kg re q) : prbN kg re [q.l0, q.l1] 0 [1] = -2 := by
  rw [prbN, show ([1] ++ [0] : List Int) = [1, 0] from rfl, if_pos ((one_fnd2 h 1 0).2 (by decide))]
  unfold cdsG entG hasN
  rw [show at_ [q.l0, q.l1] ((([1, 0] : List Int).length : Int) - 1) = q.l1 from rfl, h.r1]
  simp only [List.map_cons, List.map_nil, h.k3]
  rfl
end
section
variable {L : List HP} {w0 : World} {I : Foot}
theorem one_tr : Tr Try.prog 82 #[] (SL w0 I L) (fun q : OneQ => .agg #[.int .i64 4, .slice q.ws.a q.ws.n q.ws.cap, .slice q.g.a q.g.n q.g.cap])
    (fun q => SL w0 I (LitS 68 q.g [q.l0, q.l1] :: LitS 65 q.l1 ([(q.e3, -2, 0)] : List En) :: LitS 3 q.e3 ([1, 0] : List Int) :: LitS 65 q.l0 ([(q.e0, -5, 0), (q.e1, -9, -3), (q.e2, -1, 0)] : List En) :: LitS 3 q.e2 ([2] : List Int) :: LitS 3 q.e1 ([1] : List Int) :: LitS 3 q.e0 ([0] : List Int) :: LitS 9 q.ws mk3 :: L)) := by
  refine Tr.intro Try.func82 rfl Try.ntmps82 rfl ?_
  repeat' (first | ((first | refine WLA.m rfl rfl ?_ ?_ | refine WLA.st rfl ?_ ?_ | refine WLA.x rfl rfl ?_ (fun x => ?_) | refine WLA.x0 rfl ?_ (fun x => ?_)); first | exact trivial | exact rfl | assumption | omega | (refine ⟨?_, ?_⟩ <;> omega) | (simp only [Room, List.length_set, List.length_append, List.length_cons, List.length_nil, List.length_replicate]; omega) | decide | skip) | (refine Stp.go ?_) | (refine WPA.ifT ?_) | (refine WPA.ifF ?_) | ((first | refine WPA.dec ?_); first | refine .inl ⟨by first | assumption | omega | with_reducible rfl | (refine fun h => h ?_; assumption) | (simp only [List.length_append, List.length_cons, List.length_nil, List.length_set] <;> omega) | decide, ?_⟩ | refine .inr ⟨by first | assumption | omega | with_reducible rfl | (refine fun h => h ?_; assumption) | (simp only [List.length_append, List.length_cons, List.length_nil, List.length_set] <;> omega) | decide, ?_⟩) | ((first | refine WPA.ifBt ?_ ?_ | refine WPA.ifBnf ?_ ?_); assumption) | ((first | refine WPA.ifBnt ?_ ?_ | refine WPA.ifBf ?_ ?_); assumption) | ((first | refine WPA.ifs ?_ ?_ | refine WPA.ifB ?_ ?_) <;> intro hc))
  rename_i b ws e0 e1 e2 l0 e3 l1
  exact QQ.endc rfl ⟨ws, e0, e1, e2, e3, l0, l1, x⟩ rfl fun w h => by dsimp only [mk3]; exact h.to
theorem live_tr31 (w0 : World) (I : Foot) (L : List HP) : Tr Try.prog 38 #[] (SL w0 I L) (fun _ : Unit => .bool true) (fun _ => SL w0 I L) := by
  refine Tr.intro Try.func38 rfl Try.ntmps38 rfl ?_
  repeat' ((fail_if_success (guard_target =~ WPA _ _ _ (.region 2 _ _) _ _ _)); first | ((first | refine WLA.m rfl rfl ?_ ?_ | refine WLA.st rfl ?_ ?_ | refine WLA.x rfl rfl ?_ (fun x => ?_) | refine WLA.x0 rfl ?_ (fun x => ?_)); first | exact trivial | exact rfl | assumption | omega | (refine ⟨?_, ?_⟩ <;> omega) | (simp only [Room, List.length_set, List.length_append, List.length_cons, List.length_nil, List.length_replicate]; omega) | decide | skip) | (refine Stp.go ?_) | (guard_target =~ WLA _ _ _ _ _ (⟨_, .call ⟨.value (.func 82), _, _⟩, _, _, _, _⟩ :: _) _ _; first | (refine WLA.call rfl rfl (one_tr) ?_; rintro q; refine WLA.freeze fun R1 h1 => ?_; refine WLA.freeze fun R2 h2 => ?_; refine WLA.freeze fun R3 h3 => ?_; refine WLA.freeze fun R4 h4 => ?_; refine WLA.freeze fun R5 h5 => ?_; refine WLA.freeze fun R6 h6 => ?_; refine WLA.freeze fun R7 h7 => ?_; refine WLA.freeze fun R8 h8 => ?_) | (refine WLA.call0 rfl (one_tr) ?_; rintro q; refine WLA.freeze fun R1 h1 => ?_; refine WLA.freeze fun R2 h2 => ?_; refine WLA.freeze fun R3 h3 => ?_; refine WLA.freeze fun R4 h4 => ?_; refine WLA.freeze fun R5 h5 => ?_; refine WLA.freeze fun R6 h6 => ?_; refine WLA.freeze fun R7 h7 => ?_; refine WLA.freeze fun R8 h8 => ?_)) | (refine WPA.ifT ?_) | (refine WPA.ifF ?_) | ((first | refine WPA.dec ?_); first | refine .inl ⟨by first | assumption | omega | with_reducible rfl | (refine fun h => h ?_; assumption) | (simp only [List.length_append, List.length_cons, List.length_nil, List.length_set] <;> omega) | decide, ?_⟩ | refine .inr ⟨by first | assumption | omega | with_reducible rfl | (refine fun h => h ?_; assumption) | (simp only [List.length_append, List.length_cons, List.length_nil, List.length_set] <;> omega) | decide, ?_⟩) | ((first | refine WPA.ifBt ?_ ?_ | refine WPA.ifBnf ?_ ?_); assumption) | ((first | refine WPA.ifBnt ?_ ?_ | refine WPA.ifBf ?_ ?_); assumption) | ((first | refine WPA.ifs ?_ ?_ | refine WPA.ifB ?_ ?_) <;> intro hc))
  revert x; intro t1
  have g1 := SlI.ofLit h1
  have g2 := SlI.ofLit h2
  have g3 := SlI.ofLit h3
  have g4 := SlI.ofLit h4
  have g5 := SlI.ofLit h5
  have g6 := SlI.ofLit h6
  have g7 := SlI.ofLit h7
  have g8 := SlI.ofLit h8
  clear h1 h2 h3 h4 h5 h6 h7 h8
  have hsub : SubI (R8 ++ (R7 ++ (R6 ++ (R5 ++ (R4 ++ (R3 ++ (R2 ++ (R1 ++ I)))))))) I := inferInstance
  have j1 : SlI (R8 ++ (R7 ++ (R6 ++ (R5 ++ (R4 ++ (R3 ++ (R2 ++ (R1 ++ I)))))))) q.g SV inferInstance [q.l0, q.l1] := inferInstance
  have j2 : SlI (R8 ++ (R7 ++ (R6 ++ (R5 ++ (R4 ++ (R3 ++ (R2 ++ (R1 ++ I)))))))) q.l1 En inferInstance [(q.e3, -2, 0)] := inferInstance
  have j3 : SlI (R8 ++ (R7 ++ (R6 ++ (R5 ++ (R4 ++ (R3 ++ (R2 ++ (R1 ++ I)))))))) q.e3 Int inferInstance [1, 0] := inferInstance
  have j4 : SlI (R8 ++ (R7 ++ (R6 ++ (R5 ++ (R4 ++ (R3 ++ (R2 ++ (R1 ++ I)))))))) q.l0 En inferInstance [(q.e0, -5, 0), (q.e1, -9, -3), (q.e2, -1, 0)] := inferInstance
  have j5 : SlI (R8 ++ (R7 ++ (R6 ++ (R5 ++ (R4 ++ (R3 ++ (R2 ++ (R1 ++ I)))))))) q.e2 Int inferInstance [2] := inferInstance
  have j6 : SlI (R8 ++ (R7 ++ (R6 ++ (R5 ++ (R4 ++ (R3 ++ (R2 ++ (R1 ++ I)))))))) q.e1 Int inferInstance [1] := inferInstance
  have j7 : SlI (R8 ++ (R7 ++ (R6 ++ (R5 ++ (R4 ++ (R3 ++ (R2 ++ (R1 ++ I)))))))) q.e0 Int inferInstance [0] := inferInstance
  have j8 : SlI (R8 ++ (R7 ++ (R6 ++ (R5 ++ (R4 ++ (R3 ++ (R2 ++ (R1 ++ I)))))))) q.ws ByteArray inferInstance mk3 := inferInstance
  clear g1 g2 g3 g4 g5 g6 g7 g8
  generalize R8 ++ (R7 ++ (R6 ++ (R5 ++ (R4 ++ (R3 ++ (R2 ++ (R1 ++ I))))))) = J at hsub j1 j2 j3 j4 j5 j6 j7 j8
  refine WPA.rd j3 fun e3 => WPA.rd j5 fun e2 => WPA.rd j6 fun e1 => WPA.rd j7 fun e0 => WPA.rd j2 fun r1 => WPA.rd j4 fun r0 => ?_
  have hP : OneP (rd Int J) (rd En J) q := ⟨e0, e1, e2, e3, r0, r1⟩
  have hM : MdI J (rd Int J) (rd En J) q.ws q.g mk3 [q.l0, q.l1] := by
    refine ⟨j8, j1, ?_, ?_, by decide, by decide, by simp, ?_, ?_⟩
    · intro h hm
      simp only [List.mem_cons, List.not_mem_nil, or_false] at hm
      rcases hm with rfl | rfl
      · rw [r0]; exact j4
      · rw [r1]; exact j2
    · intro h hm
      simp only [List.mem_cons, List.not_mem_nil, or_false] at hm
      rcases hm with rfl | rfl
      · rw [r0]; intro p hp
        simp only [List.mem_cons, List.not_mem_nil, or_false] at hp
        rcases hp with rfl | rfl | rfl
        · dsimp only; rw [e0]; exact j7
        · dsimp only; rw [e1]; exact j6
        · dsimp only; rw [e2]; exact j5
      · rw [r1]; intro p hp
        simp only [List.mem_cons, List.not_mem_nil, or_false] at hp
        subst hp
        dsimp only; rw [e3]; exact j3
    · intro h hm
      simp only [List.mem_cons, List.not_mem_nil, or_false] at hm
      rcases hm with rfl | rfl
      · rw [r0]; simp
      · rw [r1]; simp
    · intro h hm
      simp only [List.mem_cons, List.not_mem_nil, or_false] at hm
      rcases hm with rfl | rfl
      · rw [r0]; intro p hp
        simp only [List.mem_cons, List.not_mem_nil, or_false] at hp
        rcases hp with rfl | rfl | rfl
        · dsimp only; rw [e0]; decide
        · dsimp only; rw [e1]; decide
        · dsimp only; rw [e2]; decide
      · rw [r1]; intro p hp
        simp only [List.mem_cons, List.not_mem_nil, or_false] at hp
        subst hp
        dsimp only; rw [e3]; decide
  have hS : ∀ h ∈ [q.l0, q.l1], RisE (rd Int J) (rd En J h) := by
    intro h hm
    simp only [List.mem_cons, List.not_mem_nil, or_false] at hm
    unfold RisE
    rcases hm with rfl | rfl
    · rw [r0]; simp only [List.map_cons, List.map_nil, e0, e1, e2]; simp [ltL, cmpL]
    · rw [r1]; simp
  have hC : CodesP (rd En J) [q.l0, q.l1] := by
    intro h hm
    simp only [List.mem_cons, List.not_mem_nil, or_false] at hm
    rcases hm with rfl | rfl
    · rw [r0]; intro p hp
      simp only [List.mem_cons, List.not_mem_nil, or_false] at hp
      rcases hp with rfl | rfl | rfl <;> dsimp only <;> decide
    · rw [r1]; intro p hp
      simp only [List.mem_cons, List.not_mem_nil, or_false] at hp
      subst hp; dsimp only; decide
  have hCk : ∀ {L : List HP}, Tr Try.prog 39 #[.agg #[.int .i64 4, .slice q.ws.a q.ws.n q.ws.cap, .slice q.g.a q.g.n q.g.cap]] (SL w0 J L) (fun _ : Unit => .int .i64 0) (fun _ => SL w0 J L) := by
    intro L
    have := Check_tr (L := L) (w0 := w0) (fr := 4) hM
    rwa [one_chk hP] at this
  have hPr : ∀ {J' : Foot} [SubI J' J] {L : List HP} {s : SV} {hs : List Int} {w : Int} [SlI J' s Int inferInstance hs], hs.length ≤ 1 → Tr Try.prog 41 #[.agg #[.int .i64 4, .slice q.ws.a q.ws.n q.ws.cap, .slice q.g.a q.g.n q.g.cap], .slice s.a s.n s.cap, .int .i64 w] (SL w0 J' L) (fun _ : Unit => .int .i64 (prbN (rd Int J) (rd En J) [q.l0, q.l1] w hs)) (fun _ => SL w0 J' L) := by
    intro J' _ L s hs w _ hl
    have := Prob_tr (L := L) (w0 := w0) (s := s) (w := w) (fr := 4) (hM.sub (J := J')) hS hC (by omega : hs.length ≤ 1000) (by simp)
    rwa [show truL ([q.l0, q.l1] : List SV).length hs = hs from if_neg (by simp only [List.length_cons, List.length_nil]; omega)] at this
  haveI hnil : SlI J SV.nil Int inferInstance [] := ⟨fun w _ => ⟨rfl, Nat.le_refl _, .inl rfl, fun i k v hi => by simp at hi⟩⟩
  have hP0 : ∀ {L : List HP}, Tr Try.prog 41 #[.agg #[.int .i64 4, .slice q.ws.a q.ws.n q.ws.cap, .slice q.g.a q.g.n q.g.cap], .slice none 0 0, .int .i64 2] (SL w0 J L) (fun _ : Unit => .int .i64 (-1)) (fun _ => SL w0 J L) := by
    intro L
    have := hPr (L := L) (J' := J) (s := SV.nil) (hs := []) (w := 2) (by simp)
    rwa [one_p2 hP] at this
  have hP1 : ∀ {J' : Foot} [SubI J' J] {L : List HP} {s : SV} [SlI J' s Int inferInstance [1]], Tr Try.prog 41 #[.agg #[.int .i64 4, .slice q.ws.a q.ws.n q.ws.cap, .slice q.g.a q.g.n q.g.cap], .slice s.a s.n s.cap, .int .i64 2] (SL w0 J' L) (fun _ : Unit => .int .i64 (-4)) (fun _ => SL w0 J' L) := by
    intro J' _ L s _
    have := hPr (L := L) (J' := J') (s := s) (hs := [1]) (w := 2) (by simp)
    rwa [one_p1 hP] at this
  have hP3 : ∀ {J' : Foot} [SubI J' J] {L : List HP} {s : SV} [SlI J' s Int inferInstance [1]], Tr Try.prog 41 #[.agg #[.int .i64 4, .slice q.ws.a q.ws.n q.ws.cap, .slice q.g.a q.g.n q.g.cap], .slice s.a s.n s.cap, .int .i64 0] (SL w0 J' L) (fun _ : Unit => .int .i64 (-2)) (fun _ => SL w0 J' L) := by
    intro J' _ L s _
    have := hPr (L := L) (J' := J') (s := s) (hs := [1]) (w := 0) (by simp)
    rwa [one_p3 hP] at this
  repeat' (first | (guard_target =~ WLA _ _ _ _ _ (⟨_, .call ⟨.value (.func 41), _, _⟩, _, _, _, _⟩ :: _) _ _; refine WLA.call rfl rfl hP0 ?_; rintro ⟨⟩) | (guard_target =~ WLA _ _ _ _ _ (⟨_, .call ⟨.value (.func 41), _, _⟩, _, _, _, _⟩ :: _) _ _; refine WLA.freeze fun R hR => ?_; have hq := SlI.ofLit hR; clear hR; first | (refine WLA.call rfl rfl hP1 ?_; rintro ⟨⟩) | (refine WLA.call rfl rfl hP3 ?_; rintro ⟨⟩)) | ((first | refine WLA.m rfl rfl ?_ ?_ | refine WLA.st rfl ?_ ?_ | refine WLA.x rfl rfl ?_ (fun x => ?_) | refine WLA.x0 rfl ?_ (fun x => ?_)); first | exact trivial | exact rfl | assumption | omega | (refine ⟨?_, ?_⟩ <;> omega) | (simp only [Room, List.length_set, List.length_append, List.length_cons, List.length_nil, List.length_replicate]; omega) | decide | skip) | (refine Stp.go ?_) | (guard_target =~ WLA _ _ _ _ _ (⟨_, .call ⟨.value (.func 39), _, _⟩, _, _, _, _⟩ :: _) _ _; first | (refine WLA.call rfl rfl (hCk) ?_; rintro ⟨⟩) | (refine WLA.call0 rfl (hCk) ?_; rintro ⟨⟩)) | (refine WPA.ifT ?_) | (refine WPA.ifF ?_) | (refine WLA.no rfl rfl ?_) | ((first | refine WPA.dec ?_ | ((fail_if_success (guard_target =~ WLA _ _ _ _ _ _ (put1 _ _ (.bool true)) _)); (fail_if_success (guard_target =~ WLA _ _ _ _ _ _ (put1 _ _ (.bool false)) _)); refine WLA.dec rfl rfl ?_) | refine WLA.pk ?_); first | refine .inl ⟨by first | assumption | omega | with_reducible rfl | (refine fun h => h ?_; assumption) | (simp only [List.length_append, List.length_cons, List.length_nil, List.length_set] <;> omega) | decide, ?_⟩ | refine .inr ⟨by first | assumption | omega | with_reducible rfl | (refine fun h => h ?_; assumption) | (simp only [List.length_append, List.length_cons, List.length_nil, List.length_set] <;> omega) | decide, ?_⟩) | ((first | refine WPA.ifBt ?_ ?_ | refine WPA.ifBnf ?_ ?_); assumption) | ((first | refine WPA.ifBnt ?_ ?_ | refine WPA.ifBf ?_ ?_); assumption) | ((first | refine WPA.ifs ?_ ?_ | refine WPA.ifB ?_ ?_) <;> intro hc) | ((fail_if_success (guard_target =~ WLA _ _ _ _ _ _ (put1 _ _ (.bool true)) _)); (fail_if_success (guard_target =~ WLA _ _ _ _ _ _ (put1 _ _ (.bool false)) _)); (first | refine WLA.both rfl rfl ?_ ?_ | refine WLA.bothB rfl rfl ?_ ?_) <;> intro hg))
  exact QQ.end_ rfl () rfl fun w h => (h.unI.unI.sub hsub.out).to
end
theorem ModelChecks_tr {kg : SV → List Int} {re : SV → List En} {w0 : World} {I : Foot} {fr : Int} {w g : SV} {ws : List ByteArray} {gr : List SV} (hM : MdR I kg re w g ws gr) :
    Tr Try.prog 9 #[.agg #[.int .i64 fr, .slice w.a w.n w.cap, .slice g.a g.n g.cap]] (SL w0 I []) (fun _ : Unit => .bool true) (fun _ => SL w0 I []) := by
  refine Tr.intro Try.func9 rfl Try.ntmps9 rfl ?_
  repeat' ((fail_if_success (guard_target =~ WPA _ _ _ (.region 2 _ _) _ _ _)); first | ((first | refine WLA.m rfl rfl ?_ ?_ | refine WLA.st rfl ?_ ?_ | refine WLA.x rfl rfl ?_ (fun x => ?_) | refine WLA.x0 rfl ?_ (fun x => ?_)); first | exact trivial | exact rfl | assumption | omega | (refine ⟨?_, ?_⟩ <;> omega) | (simp only [Room, List.length_set, List.length_append, List.length_cons, List.length_nil, List.length_replicate]; omega) | decide | skip) | (refine Stp.go ?_) | (guard_target =~ WLA _ _ _ _ _ (⟨_, .call ⟨.value (.func 37), _, _⟩, _, _, _, _⟩ :: _) _ _; first | (refine WLA.call rfl rfl (Small_tr31 hM) ?_; rintro ⟨b, hb⟩; dsimp only) | (refine WLA.call0 rfl (Small_tr31 hM) ?_; rintro ⟨b, hb⟩; dsimp only)) | (refine WPA.ifT ?_) | (refine WPA.ifF ?_) | ((first | refine WPA.dec ?_); first | refine .inl ⟨by first | assumption | omega | with_reducible rfl | (refine fun h => h ?_; assumption) | (simp only [List.length_append, List.length_cons, List.length_nil, List.length_set] <;> omega) | decide, ?_⟩ | refine .inr ⟨by first | assumption | omega | with_reducible rfl | (refine fun h => h ?_; assumption) | (simp only [List.length_append, List.length_cons, List.length_nil, List.length_set] <;> omega) | decide, ?_⟩) | ((first | refine WPA.ifBt ?_ ?_ | refine WPA.ifBnf ?_ ?_); assumption) | ((first | refine WPA.ifBnt ?_ ?_ | refine WPA.ifBf ?_ ?_); assumption) | ((first | refine WPA.ifs ?_ ?_ | refine WPA.ifB ?_ ?_) <;> intro hc))
  · skip
    repeat' ((fail_if_success (guard_target =~ WPA _ _ _ (.region 3 _ _) _ _ _)); first | ((first | refine WLA.m rfl rfl ?_ ?_ | refine WLA.st rfl ?_ ?_ | refine WLA.x rfl rfl ?_ (fun x => ?_) | refine WLA.x0 rfl ?_ (fun x => ?_)); first | exact trivial | exact rfl | assumption | omega | (refine ⟨?_, ?_⟩ <;> omega) | (simp only [Room, List.length_set, List.length_append, List.length_cons, List.length_nil, List.length_replicate]; omega) | decide | skip) | (refine Stp.go ?_) | (guard_target =~ WLA _ _ _ _ _ (⟨_, .call ⟨.value (.func 38), _, _⟩, _, _, _, _⟩ :: _) _ _; first | (refine WLA.call rfl rfl (live_tr31 _ _ _) ?_; rintro ⟨⟩) | (refine WLA.call0 rfl (live_tr31 _ _ _) ?_; rintro ⟨⟩)) | (refine WPA.ifT ?_) | (refine WPA.ifF ?_) | ((first | refine WPA.dec ?_); first | refine .inl ⟨by first | assumption | omega | with_reducible rfl | (refine fun h => h ?_; assumption) | (simp only [List.length_append, List.length_cons, List.length_nil, List.length_set] <;> omega) | decide, ?_⟩ | refine .inr ⟨by first | assumption | omega | with_reducible rfl | (refine fun h => h ?_; assumption) | (simp only [List.length_append, List.length_cons, List.length_nil, List.length_set] <;> omega) | decide, ?_⟩) | ((first | refine WPA.ifBt ?_ ?_ | refine WPA.ifBnf ?_ ?_); assumption) | ((first | refine WPA.ifBnt ?_ ?_ | refine WPA.ifBf ?_ ?_); assumption) | ((first | refine WPA.ifs ?_ ?_ | refine WPA.ifB ?_ ?_) <;> intro hc))
    exact QQ.end_ rfl () rfl fun w h => h.to
  · have hM2 := hM.few (hb (by cases b <;> simp_all))
    have hcc : chkM kg re fr ws gr = chkM kg re fr ws gr := rfl
    repeat' (first | ((first | refine WLA.m rfl rfl ?_ ?_ | refine WDQ.m rfl rfl ?_ ?_ | refine WLA.st rfl ?_ ?_ | refine WLA.x rfl rfl ?_ (fun x => ?_) | refine WLA.x0 rfl ?_ (fun x => ?_)); first | exact trivial | exact rfl | assumption | omega | (refine ⟨?_, ?_⟩ <;> omega) | (simp only [Room, List.length_set, List.length_append, List.length_cons, List.length_nil, List.length_replicate]; omega) | decide | skip) | (refine Stp.go ?_) | (guard_target =~ WLA _ _ _ _ _ (⟨_, .call ⟨.value (.func 39), _, _⟩, _, _, _, _⟩ :: _) _ _; first | (refine WLA.call rfl rfl (Check_tr hM2) ?_; rintro ⟨⟩) | (refine WLA.call0 rfl (Check_tr hM2) ?_; rintro ⟨⟩)) | (guard_target =~ WLA _ _ _ _ _ (⟨_, .call ⟨.value (.func 40), _, _⟩, _, _, _, _⟩ :: _) _ _; first | (refine WLA.call rfl rfl (rCheck_tr hM2) ?_; rintro ⟨⟩) | (refine WLA.call0 rfl (rCheck_tr hM2) ?_; rintro ⟨⟩)) | (guard_target =~ WLA _ _ _ _ _ (⟨_, .call ⟨.value (.func 38), _, _⟩, _, _, _, _⟩ :: _) _ _; first | (refine WLA.call rfl rfl (live_tr31 _ _ _) ?_; rintro ⟨⟩) | (refine WLA.call0 rfl (live_tr31 _ _ _) ?_; rintro ⟨⟩)) | (refine WPA.ifT ?_) | (refine WPA.ifF ?_) | (refine WLA.no rfl rfl ?_) | (refine WDQ.no rfl rfl ?_) | ((first | refine WPA.dec ?_ | ((fail_if_success (guard_target =~ WLA _ _ _ _ _ _ (put1 _ _ (.bool true)) _)); (fail_if_success (guard_target =~ WLA _ _ _ _ _ _ (put1 _ _ (.bool false)) _)); refine WLA.dec rfl rfl ?_) | refine WLA.pk ?_ | refine WDQ.dec rfl rfl ?_); first | refine .inl ⟨by first | assumption | omega | with_reducible rfl | (refine fun h => h ?_; assumption) | (simp only [List.length_append, List.length_cons, List.length_nil, List.length_set] <;> omega) | decide, ?_⟩ | refine .inr ⟨by first | assumption | omega | with_reducible rfl | (refine fun h => h ?_; assumption) | (simp only [List.length_append, List.length_cons, List.length_nil, List.length_set] <;> omega) | decide, ?_⟩) | ((first | refine WPA.ifBt ?_ ?_ | refine WPA.ifBnf ?_ ?_); assumption) | ((first | refine WPA.ifBnt ?_ ?_ | refine WPA.ifBf ?_ ?_); assumption) | ((first | refine WPA.ifs ?_ ?_ | refine WPA.ifB ?_ ?_) <;> intro hc) | ((fail_if_success (guard_target =~ WLA _ _ _ _ _ _ (put1 _ _ (.bool true)) _)); (fail_if_success (guard_target =~ WLA _ _ _ _ _ _ (put1 _ _ (.bool false)) _)); (first | refine WLA.both rfl rfl ?_ ?_ | refine WLA.bothB rfl rfl ?_ ?_) <;> intro hg) | (guard_target =~ WPA _ _ _ (.region 3 _ true) _ _ _; refine WPA.drawT 3 (.q 0 (.q 2 (.e 1 .fin))) mixed ?_ ?_; kernel_rfl) | (refine WDA.finish (tl := [⟨_, _, _, _, _, _⟩, ⟨_, _, _, _, _, _⟩, ⟨_, _, _, _, _, _⟩, ⟨_, _, _, _, _, _⟩, ⟨_, _, _, _, _, _⟩, ⟨_, _, _, _, _, _⟩]) rfl ?_) | (refine WDQ.see rfl ?_) | (refine WDE.see rfl ?_) | (refine WDE.alloc rfl rfl (fun w h => h) (fun x => ?_)) | (refine WDE.stE rfl ?_) | (refine WDE.x rfl rfl ?_ ?_ (fun x => ?_); rotate_left 1; (intro x w h; first | exact h | exact Ent.drop1.sl h | exact SL.unI h | exact SL.to h); rotate_left 1; first | exact trivial | exact rfl | assumption | omega | (refine ⟨?_, ?_⟩ <;> omega) | (simp only [Room, List.length_set, List.length_append, List.length_cons, List.length_nil, List.length_replicate]; omega) | decide | skip) | (guard_target =~ WDE _ _ _ _ _ _ _ ⟨_, .call ⟨.value (.func 39), _, _⟩, _, _, _, _⟩ _ _ _; refine WDE.call rfl rfl (Check_tr hM2) ?_ ?_; (intro x w h; first | exact h | exact Ent.drop1.sl h | exact SL.unI h | exact SL.to h); rintro ⟨⟩) | (guard_target =~ WDW _ _ _ _ _ _ _ ⟨_, .call ⟨.value (.func 39), _, _⟩, _, _, _, _⟩ _ _ _; refine WDW.call rfl rfl (Check_tr hM2) ?_; rintro ⟨⟩) | (guard_target =~ WDE _ _ _ _ _ _ _ ⟨_, .call ⟨.value (.func 40), _, _⟩, _, _, _, _⟩ _ _ _; refine WDE.call rfl rfl (rCheck_tr hM2) ?_ ?_; (intro x w h; first | exact h | exact Ent.drop1.sl h | exact SL.unI h | exact SL.to h); rintro ⟨⟩) | (guard_target =~ WDW _ _ _ _ _ _ _ ⟨_, .call ⟨.value (.func 40), _, _⟩, _, _, _, _⟩ _ _ _; refine WDW.call rfl rfl (rCheck_tr hM2) ?_; rintro ⟨⟩) | (guard_target =~ WDE _ _ _ _ _ _ _ ⟨_, .call ⟨.value (.func 38), _, _⟩, _, _, _, _⟩ _ _ _; refine WDE.call rfl rfl (live_tr31 _ _ _) ?_ ?_; (intro x w h; first | exact h | exact Ent.drop1.sl h | exact SL.unI h | exact SL.to h); rintro ⟨⟩) | (guard_target =~ WDW _ _ _ _ _ _ _ ⟨_, .call ⟨.value (.func 38), _, _⟩, _, _, _, _⟩ _ _ _; refine WDW.call rfl rfl (live_tr31 _ _ _) ?_; rintro ⟨⟩) | ((first | refine WDQ.both rfl rfl ?_ ?_) <;> intro hg))
    all_goals exact QQ.end_ rfl () rfl fun w h => h.to
/-- A model's memory out of what lies there at the call. -/
theorem mdR_all {W : World} {w g : SV} (hw : gSl gStr 16 W w) (hg : gSl (gSl (gPair (gSl gInt 8) (gPair gInt gInt)) 40) 24 W g) : ∃ (ws : List ByteArray) (gr : List SV), MdR (allB W) (rd Int (allB W)) (rd En (allB W)) w g ws gr := by
  obtain ⟨ws, a1, a2, a3⟩ := hw
  obtain ⟨gr, b1, b2, b3⟩ := hg
  refine ⟨ws, gr, SlI.all a1, SlI.all b1, fun h hm => ?_, fun h hm p hp => ?_, fun s hs => ?_⟩
  · obtain ⟨es, c1, c2, c3⟩ := b2 h hm
    exact (SlI.all c1).rd
  · obtain ⟨es, c1, c2, c3⟩ := b2 h hm
    have e : rd En (allB W) h = es := (SlI.all c1).rd.det (SlI.all c1) (SL.all W)
    rw [e] at hp
    obtain ⟨xs, q1, q2, q3⟩ := (c2 p hp).1
    exact (SlI.all q1).rd
  · have := a2 s hs; unfold gStr at this; omega
theorem ModelChecks_law (W : World) (m : Int × SV × SV) (hm : gInt W m.1 ∧ gSl gStr 16 W m.2.1 ∧ gSl (gSl (gPair (gSl gInt 8) (gPair gInt gInt)) 40) 24 W m.2.2) : Calls Try.prog 9 #[.agg #[.int .i64 m.1, .slice m.2.1.a m.2.1.n m.2.1.cap, .slice m.2.2.a m.2.2.n m.2.2.cap]] W fun e w' => e = .returned (.bool true) ∧ Below W.heap.size W w' := by
  obtain ⟨ws, gr, hM⟩ := mdR_all hm.2.1 hm.2.2
  exact Calls.below (ModelChecks_tr hM)
end Go.Proofs.Ytfhelnalegochaa
