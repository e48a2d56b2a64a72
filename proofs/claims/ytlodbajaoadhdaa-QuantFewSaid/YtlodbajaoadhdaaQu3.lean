/- Books of levels: the reference. Conditions: none. -/
import Derived.Test.YtlodbajaoadhdaaQu2
namespace Go.Proofs.Ytlodbajaoadhdaa
open Go Go.Fw Go.RowKit
set_option linter.unusedVariables false
set_option linter.unusedSimpArgs false
set_option maxRecDepth 100000
set_option maxHeartbeats 16000000
set_option synthInstance.maxHeartbeats 200000
set_option synthInstance.maxSize 100000
attribute [local irreducible] WPA WLA WDA WDQ WDE QQ seqQ blockQ loopQ fnQ OpP OpT Tr TrP SL SLd OwnS LitS Bk BkE Ob
section
variable {L : List HP} {w0 : World} {I : Foot}
theorem insF_cons {once : Bool} {v x : Int} {l : List Int} : insF once v (x :: l) = if v ≤ x then (if v < x ∨ once = false then v :: x :: l else x :: l) else x :: insF once v l := rfl
theorem insF_nil {once : Bool} {v : Int} : insF once v [] = [v] := rfl
structure IS where
  i : Nat
  r : SV
  o : List Int
  laid : Bool
theorem insert_tr {s : SV} {l : List Int} {v : Int} {once : Bool} [hr : RdS I L s Int inferInstance l] (hn : l.length ≤ 1000000) :
    Tr Try.prog 96 #[.slice s.a s.n s.cap, .int .i64 v, .bool once] (SL w0 I L) (fun r : SV => .slice r.a r.n r.cap) (fun r => SL w0 I (OwnS 3 r (insF once v l) :: L)) := by
  refine Tr.intro Try.func96 rfl Try.ntmps96 rfl ?_
  repeat' (first | ((first | refine WLA.m rfl rfl ?_ ?_ | refine WLA.st rfl ?_ ?_ | refine WLA.x rfl rfl ?_ (fun x => ?_) | refine WLA.x0 rfl ?_ (fun x => ?_)); first | exact trivial | exact rfl | assumption | omega | (refine ⟨?_, ?_⟩ <;> omega) | (simp only [Room, List.length_set, List.length_append, List.length_cons, List.length_nil, List.length_replicate]; omega) | decide | skip) | (refine Stp.go ?_) | (refine WPA.ifT ?_) | (refine WPA.ifF ?_) | ((first | refine WPA.dec ?_); first | refine .inl ⟨by first | assumption | omega | with_reducible rfl | (refine fun h => h ?_; first | assumption | with_reducible rfl) | (simp only [List.length_append, List.length_cons, List.length_nil, List.length_set] <;> omega) | decide, ?_⟩ | refine .inr ⟨by first | assumption | omega | with_reducible rfl | (refine fun h => h ?_; first | assumption | with_reducible rfl) | (simp only [List.length_append, List.length_cons, List.length_nil, List.length_set] <;> omega) | decide, ?_⟩) | ((first | refine WPA.ifBt ?_ ?_ | refine WPA.ifBnf ?_ ?_); assumption) | ((first | refine WPA.ifBnt ?_ ?_ | refine WPA.ifBf ?_ ?_); assumption) | ((first | refine WPA.ifs ?_ ?_ | refine WPA.ifB ?_ ?_) <;> intro hc))
  refine WPA.loopS (σ := IS) (fun y => [(0, .slice s.a s.n s.cap), (1, .int .i64 v), (2, .bool once), (7, .slice y.r.a y.r.n y.r.cap), (8, .bool y.laid), (9, .int .i64 y.i)])
    (fun y => (y.i ≤ l.length ∧ y.o.length ≤ y.i + y.laid.toNat) ∧ (y.laid = true → y.o ++ l.drop y.i = insF once v l) ∧ (y.laid = false → y.o ++ insF once v (l.drop y.i) = insF once v l))
    (fun y => SL w0 I (OwnS 3 y.r y.o :: L)) (fun y => l.length - y.i) ⟨0, SV.nil, [], false⟩ ⟨rfl, rfl, rfl, rfl, rfl, rfl, trivial⟩ ⟨⟨Nat.zero_le _, Nat.zero_le _⟩, (fun h => by cases h), fun _ => rfl⟩ (fun w h => h.to) ?_
  rintro ⟨i, r, o, laid⟩ ρ ⟨⟨hi, ho⟩, h1, h2⟩
  dsimp only at hi ho h1 h2 ⊢
  by_cases hlt : i < l.length
  · have hlt' : (i : Int) < l.length := by omega
    have hd : l.drop i = at_ l (i : Int) :: l.drop (i + 1) := by rw [at_nat l i hlt]; exact List.drop_eq_getElem_cons hlt
    rw [hd] at h1 h2
    cases laid with
    | true =>
      have h1 := h1 rfl
      have ho : o.length ≤ i + 1 := ho
      repeat' (first | ((first | refine WLA.m rfl rfl ?_ ?_ | refine WLA.st rfl ?_ ?_ | refine WLA.x rfl rfl ?_ (fun x => ?_) | refine WLA.x0 rfl ?_ (fun x => ?_)); first | exact trivial | exact rfl | assumption | omega | (refine ⟨?_, ?_⟩ <;> omega) | (simp only [Room, List.length_set, List.length_append, List.length_cons, List.length_nil, List.length_replicate]; omega) | decide | skip) | (refine Stp.go ?_) | (refine WPA.ifT ?_) | (refine WPA.ifF ?_) | (refine WLA.no rfl rfl ?_) | ((first | refine WPA.dec ?_ | ((fail_if_success (guard_target =~ WLA _ _ _ _ _ _ (put1 _ _ (.bool true)) _)); (fail_if_success (guard_target =~ WLA _ _ _ _ _ _ (put1 _ _ (.bool false)) _)); refine WLA.dec rfl rfl ?_) | refine WLA.pk ?_); first | refine .inl ⟨by first | assumption | omega | with_reducible rfl | (refine fun h => h ?_; first | assumption | with_reducible rfl) | (simp only [List.length_append, List.length_cons, List.length_nil, List.length_set] <;> omega) | decide, ?_⟩ | refine .inr ⟨by first | assumption | omega | with_reducible rfl | (refine fun h => h ?_; first | assumption | with_reducible rfl) | (simp only [List.length_append, List.length_cons, List.length_nil, List.length_set] <;> omega) | decide, ?_⟩) | ((first | refine WPA.ifBt ?_ ?_ | refine WPA.ifBnf ?_ ?_); assumption) | ((first | refine WPA.ifBnt ?_ ?_ | refine WPA.ifBf ?_ ?_); assumption) | ((first | refine WPA.ifs ?_ ?_ | refine WPA.ifB ?_ ?_) <;> intro hc) | ((fail_if_success (guard_target =~ WLA _ _ _ _ _ _ (put1 _ _ (.bool true)) _)); (fail_if_success (guard_target =~ WLA _ _ _ _ _ _ (put1 _ _ (.bool false)) _)); (first | refine WLA.both rfl rfl ?_ ?_ | refine WLA.bothB rfl rfl ?_ ?_) <;> intro hg))
      exact QQ.loopS ⟨i + 1, x, o ++ [at_ l (i : Int)], true⟩ ⟨rfl, rfl, rfl, rfl, rfl, rfl, trivial⟩ ⟨⟨hlt, by simp [Bool.toNat]; omega⟩, (fun _ => by rw [List.append_assoc]; exact h1), fun h => by cases h⟩ (by dsimp only; omega) (fun w h => h.to)
    | false =>
      have h2 := h2 rfl
      have ho : o.length ≤ i := ho
      rw [insF_cons] at h2
      by_cases hv : v ≤ at_ l (i : Int)
      · rw [if_pos hv] at h2
        by_cases hc : v < at_ l (i : Int)
        · rw [if_pos (.inl hc)] at h2
          repeat' (first | ((first | refine WLA.m rfl rfl ?_ ?_ | refine WLA.st rfl ?_ ?_ | refine WLA.x rfl rfl ?_ (fun x => ?_) | refine WLA.x0 rfl ?_ (fun x => ?_)); first | exact trivial | exact rfl | assumption | omega | (refine ⟨?_, ?_⟩ <;> omega) | (simp only [Room, List.length_set, List.length_append, List.length_cons, List.length_nil, List.length_replicate]; omega) | decide | skip) | (refine Stp.go ?_) | (refine WPA.ifT ?_) | (refine WPA.ifF ?_) | (refine WLA.no rfl rfl ?_) | ((first | refine WPA.dec ?_ | ((fail_if_success (guard_target =~ WLA _ _ _ _ _ _ (put1 _ _ (.bool true)) _)); (fail_if_success (guard_target =~ WLA _ _ _ _ _ _ (put1 _ _ (.bool false)) _)); refine WLA.dec rfl rfl ?_) | refine WLA.pk ?_); first | refine .inl ⟨by first | assumption | omega | with_reducible rfl | (refine fun h => h ?_; first | assumption | with_reducible rfl) | (simp only [List.length_append, List.length_cons, List.length_nil, List.length_set] <;> omega) | decide, ?_⟩ | refine .inr ⟨by first | assumption | omega | with_reducible rfl | (refine fun h => h ?_; first | assumption | with_reducible rfl) | (simp only [List.length_append, List.length_cons, List.length_nil, List.length_set] <;> omega) | decide, ?_⟩) | ((first | refine WPA.ifBt ?_ ?_ | refine WPA.ifBnf ?_ ?_); assumption) | ((first | refine WPA.ifBnt ?_ ?_ | refine WPA.ifBf ?_ ?_); assumption) | ((first | refine WPA.ifs ?_ ?_ | refine WPA.ifB ?_ ?_) <;> intro hc) | ((fail_if_success (guard_target =~ WLA _ _ _ _ _ _ (put1 _ _ (.bool true)) _)); (fail_if_success (guard_target =~ WLA _ _ _ _ _ _ (put1 _ _ (.bool false)) _)); (first | refine WLA.both rfl rfl ?_ ?_ | refine WLA.bothB rfl rfl ?_ ?_) <;> intro hg))
          exact QQ.loopS ⟨i + 1, x, o ++ [v] ++ [at_ l (i : Int)], true⟩ ⟨rfl, rfl, rfl, rfl, rfl, rfl, trivial⟩ ⟨⟨hlt, by simp [Bool.toNat]; omega⟩, (fun _ => by rw [List.append_assoc, List.append_assoc]; exact h2), fun h => by cases h⟩ (by dsimp only; omega) (fun w h => h.to)
        · cases once with
          | true =>
            rw [if_neg (fun h => h.elim hc (by decide))] at h2
            repeat' (first | ((first | refine WLA.m rfl rfl ?_ ?_ | refine WLA.st rfl ?_ ?_ | refine WLA.x rfl rfl ?_ (fun x => ?_) | refine WLA.x0 rfl ?_ (fun x => ?_)); first | exact trivial | exact rfl | assumption | omega | (refine ⟨?_, ?_⟩ <;> omega) | (simp only [Room, List.length_set, List.length_append, List.length_cons, List.length_nil, List.length_replicate]; omega) | decide | skip) | (refine Stp.go ?_) | (refine WPA.ifT ?_) | (refine WPA.ifF ?_) | (refine WLA.no rfl rfl ?_) | ((first | refine WPA.dec ?_ | ((fail_if_success (guard_target =~ WLA _ _ _ _ _ _ (put1 _ _ (.bool true)) _)); (fail_if_success (guard_target =~ WLA _ _ _ _ _ _ (put1 _ _ (.bool false)) _)); refine WLA.dec rfl rfl ?_) | refine WLA.pk ?_); first | refine .inl ⟨by first | assumption | omega | with_reducible rfl | (refine fun h => h ?_; first | assumption | with_reducible rfl) | (simp only [List.length_append, List.length_cons, List.length_nil, List.length_set] <;> omega) | decide, ?_⟩ | refine .inr ⟨by first | assumption | omega | with_reducible rfl | (refine fun h => h ?_; first | assumption | with_reducible rfl) | (simp only [List.length_append, List.length_cons, List.length_nil, List.length_set] <;> omega) | decide, ?_⟩) | ((first | refine WPA.ifBt ?_ ?_ | refine WPA.ifBnf ?_ ?_); assumption) | ((first | refine WPA.ifBnt ?_ ?_ | refine WPA.ifBf ?_ ?_); assumption) | ((first | refine WPA.ifs ?_ ?_ | refine WPA.ifB ?_ ?_) <;> intro hc) | ((fail_if_success (guard_target =~ WLA _ _ _ _ _ _ (put1 _ _ (.bool true)) _)); (fail_if_success (guard_target =~ WLA _ _ _ _ _ _ (put1 _ _ (.bool false)) _)); (first | refine WLA.both rfl rfl ?_ ?_ | refine WLA.bothB rfl rfl ?_ ?_) <;> intro hg))
            exact QQ.loopS ⟨i + 1, x, o ++ [at_ l (i : Int)], true⟩ ⟨rfl, rfl, rfl, rfl, rfl, rfl, trivial⟩ ⟨⟨hlt, by simp [Bool.toNat]; omega⟩, (fun _ => by rw [List.append_assoc]; exact h2), fun h => by cases h⟩ (by dsimp only; omega) (fun w h => h.to)
          | false =>
            rw [if_pos (.inr rfl)] at h2
            repeat' (first | ((first | refine WLA.m rfl rfl ?_ ?_ | refine WLA.st rfl ?_ ?_ | refine WLA.x rfl rfl ?_ (fun x => ?_) | refine WLA.x0 rfl ?_ (fun x => ?_)); first | exact trivial | exact rfl | assumption | omega | (refine ⟨?_, ?_⟩ <;> omega) | (simp only [Room, List.length_set, List.length_append, List.length_cons, List.length_nil, List.length_replicate]; omega) | decide | skip) | (refine Stp.go ?_) | (refine WPA.ifT ?_) | (refine WPA.ifF ?_) | (refine WLA.no rfl rfl ?_) | ((first | refine WPA.dec ?_ | ((fail_if_success (guard_target =~ WLA _ _ _ _ _ _ (put1 _ _ (.bool true)) _)); (fail_if_success (guard_target =~ WLA _ _ _ _ _ _ (put1 _ _ (.bool false)) _)); refine WLA.dec rfl rfl ?_) | refine WLA.pk ?_); first | refine .inl ⟨by first | assumption | omega | with_reducible rfl | (refine fun h => h ?_; first | assumption | with_reducible rfl) | (simp only [List.length_append, List.length_cons, List.length_nil, List.length_set] <;> omega) | decide, ?_⟩ | refine .inr ⟨by first | assumption | omega | with_reducible rfl | (refine fun h => h ?_; first | assumption | with_reducible rfl) | (simp only [List.length_append, List.length_cons, List.length_nil, List.length_set] <;> omega) | decide, ?_⟩) | ((first | refine WPA.ifBt ?_ ?_ | refine WPA.ifBnf ?_ ?_); assumption) | ((first | refine WPA.ifBnt ?_ ?_ | refine WPA.ifBf ?_ ?_); assumption) | ((first | refine WPA.ifs ?_ ?_ | refine WPA.ifB ?_ ?_) <;> intro hc) | ((fail_if_success (guard_target =~ WLA _ _ _ _ _ _ (put1 _ _ (.bool true)) _)); (fail_if_success (guard_target =~ WLA _ _ _ _ _ _ (put1 _ _ (.bool false)) _)); (first | refine WLA.both rfl rfl ?_ ?_ | refine WLA.bothB rfl rfl ?_ ?_) <;> intro hg))
            exact QQ.loopS ⟨i + 1, x, o ++ [v] ++ [at_ l (i : Int)], true⟩ ⟨rfl, rfl, rfl, rfl, rfl, rfl, trivial⟩ ⟨⟨hlt, by simp [Bool.toNat]; omega⟩, (fun _ => by rw [List.append_assoc, List.append_assoc]; exact h2), fun h => by cases h⟩ (by dsimp only; omega) (fun w h => h.to)
      · rw [if_neg hv] at h2
        repeat' (first | ((first | refine WLA.m rfl rfl ?_ ?_ | refine WLA.st rfl ?_ ?_ | refine WLA.x rfl rfl ?_ (fun x => ?_) | refine WLA.x0 rfl ?_ (fun x => ?_)); first | exact trivial | exact rfl | assumption | omega | (refine ⟨?_, ?_⟩ <;> omega) | (simp only [Room, List.length_set, List.length_append, List.length_cons, List.length_nil, List.length_replicate]; omega) | decide | skip) | (refine Stp.go ?_) | (refine WPA.ifT ?_) | (refine WPA.ifF ?_) | (refine WLA.no rfl rfl ?_) | ((first | refine WPA.dec ?_ | ((fail_if_success (guard_target =~ WLA _ _ _ _ _ _ (put1 _ _ (.bool true)) _)); (fail_if_success (guard_target =~ WLA _ _ _ _ _ _ (put1 _ _ (.bool false)) _)); refine WLA.dec rfl rfl ?_) | refine WLA.pk ?_); first | refine .inl ⟨by first | assumption | omega | with_reducible rfl | (refine fun h => h ?_; first | assumption | with_reducible rfl) | (simp only [List.length_append, List.length_cons, List.length_nil, List.length_set] <;> omega) | decide, ?_⟩ | refine .inr ⟨by first | assumption | omega | with_reducible rfl | (refine fun h => h ?_; first | assumption | with_reducible rfl) | (simp only [List.length_append, List.length_cons, List.length_nil, List.length_set] <;> omega) | decide, ?_⟩) | ((first | refine WPA.ifBt ?_ ?_ | refine WPA.ifBnf ?_ ?_); assumption) | ((first | refine WPA.ifBnt ?_ ?_ | refine WPA.ifBf ?_ ?_); assumption) | ((first | refine WPA.ifs ?_ ?_ | refine WPA.ifB ?_ ?_) <;> intro hc) | ((fail_if_success (guard_target =~ WLA _ _ _ _ _ _ (put1 _ _ (.bool true)) _)); (fail_if_success (guard_target =~ WLA _ _ _ _ _ _ (put1 _ _ (.bool false)) _)); (first | refine WLA.both rfl rfl ?_ ?_ | refine WLA.bothB rfl rfl ?_ ?_) <;> intro hg))
        exact QQ.loopS ⟨i + 1, x, o ++ [at_ l (i : Int)], false⟩ ⟨rfl, rfl, rfl, rfl, rfl, rfl, trivial⟩ ⟨⟨hlt, by simp [Bool.toNat]; omega⟩, (fun h => by cases h), fun _ => by rw [List.append_assoc]; exact h2⟩ (by dsimp only; omega) (fun w h => h.to)
  · have hlt' : ¬ (i : Int) < l.length := by omega
    rw [List.drop_of_length_le (by omega)] at h1 h2
    cases laid with
    | true =>
      have h1 := h1 rfl
      have ho : o.length ≤ i + 1 := ho
      rw [List.append_nil] at h1
      rw [← h1]
      repeat' (first | ((first | refine WLA.m rfl rfl ?_ ?_ | refine WLA.st rfl ?_ ?_ | refine WLA.x rfl rfl ?_ (fun x => ?_) | refine WLA.x0 rfl ?_ (fun x => ?_)); first | exact trivial | exact rfl | assumption | omega | (refine ⟨?_, ?_⟩ <;> omega) | (simp only [Room, List.length_set, List.length_append, List.length_cons, List.length_nil, List.length_replicate]; omega) | decide | skip) | (refine Stp.go ?_) | (refine WPA.ifT ?_) | (refine WPA.ifF ?_) | ((first | refine WPA.dec ?_); first | refine .inl ⟨by first | assumption | omega | with_reducible rfl | (refine fun h => h ?_; first | assumption | with_reducible rfl) | (simp only [List.length_append, List.length_cons, List.length_nil, List.length_set] <;> omega) | decide, ?_⟩ | refine .inr ⟨by first | assumption | omega | with_reducible rfl | (refine fun h => h ?_; first | assumption | with_reducible rfl) | (simp only [List.length_append, List.length_cons, List.length_nil, List.length_set] <;> omega) | decide, ?_⟩) | ((first | refine WPA.ifBt ?_ ?_ | refine WPA.ifBnf ?_ ?_); assumption) | ((first | refine WPA.ifBnt ?_ ?_ | refine WPA.ifBf ?_ ?_); assumption) | ((first | refine WPA.ifs ?_ ?_ | refine WPA.ifB ?_ ?_) <;> intro hc))
      exact QQ.end_ rfl r rfl fun w h => h.to
    | false =>
      have h2 := h2 rfl
      have ho : o.length ≤ i := ho
      rw [insF_nil] at h2
      rw [← h2]
      repeat' (first | ((first | refine WLA.m rfl rfl ?_ ?_ | refine WLA.st rfl ?_ ?_ | refine WLA.x rfl rfl ?_ (fun x => ?_) | refine WLA.x0 rfl ?_ (fun x => ?_)); first | exact trivial | exact rfl | assumption | omega | (refine ⟨?_, ?_⟩ <;> omega) | (simp only [Room, List.length_set, List.length_append, List.length_cons, List.length_nil, List.length_replicate]; omega) | decide | skip) | (refine Stp.go ?_) | (refine WPA.ifT ?_) | (refine WPA.ifF ?_) | ((first | refine WPA.dec ?_); first | refine .inl ⟨by first | assumption | omega | with_reducible rfl | (refine fun h => h ?_; first | assumption | with_reducible rfl) | (simp only [List.length_append, List.length_cons, List.length_nil, List.length_set] <;> omega) | decide, ?_⟩ | refine .inr ⟨by first | assumption | omega | with_reducible rfl | (refine fun h => h ?_; first | assumption | with_reducible rfl) | (simp only [List.length_append, List.length_cons, List.length_nil, List.length_set] <;> omega) | decide, ?_⟩) | ((first | refine WPA.ifBt ?_ ?_ | refine WPA.ifBnf ?_ ?_); assumption) | ((first | refine WPA.ifBnt ?_ ?_ | refine WPA.ifBf ?_ ?_); assumption) | ((first | refine WPA.ifs ?_ ?_ | refine WPA.ifB ?_ ?_) <;> intro hc))
      exact QQ.end_ rfl x rfl fun w h => h.to
structure TS where
  i : Nat
  a : SV
  f : SV
theorem rTrain_tr {s : SV} {xs : List Int} {bits : Int} {M : Nat} [hr : RdS I L s Int inferInstance xs] (hn : xs.length ≤ 100000) (hb : 1 ≤ bits ∧ bits ≤ 16) (hM : M = 2 ^ bits.toNat) :
    Tr Try.prog 39 #[.slice s.a s.n s.cap, .int .i64 bits] (SL w0 I L) (fun r : SV => .slice r.a r.n r.cap) (fun r => SL w0 I (OwnS 3 r (trainN xs M) :: L)) := by
  refine Tr.intro Try.func39 rfl Try.ntmps39 rfl ?_
  have hMb : 0 < M ∧ M ≤ 65536 := by
    rw [hM]
    exact ⟨Nat.pow_pos (by decide), Nat.le_trans (Nat.pow_le_pow_right (by decide) (show bits.toNat ≤ 16 by omega)) (by decide)⟩
  repeat' (first | ((first | refine WLA.m rfl rfl ?_ ?_ | refine WLA.st rfl ?_ ?_ | refine WLA.x rfl rfl ?_ (fun x => ?_) | refine WLA.x0 rfl ?_ (fun x => ?_)); first | exact trivial | exact rfl | assumption | omega | (refine ⟨?_, ?_⟩ <;> omega) | (simp only [Room, List.length_set, List.length_append, List.length_cons, List.length_nil, List.length_replicate]; omega) | decide | skip) | (refine Stp.go ?_) | (refine WPA.ifT ?_) | (refine WPA.ifF ?_) | ((first | refine WPA.dec ?_); first | refine .inl ⟨by first | assumption | omega | with_reducible rfl | (refine fun h => h ?_; first | assumption | with_reducible rfl) | (simp only [List.length_append, List.length_cons, List.length_nil, List.length_set] <;> omega) | decide, ?_⟩ | refine .inr ⟨by first | assumption | omega | with_reducible rfl | (refine fun h => h ?_; first | assumption | with_reducible rfl) | (simp only [List.length_append, List.length_cons, List.length_nil, List.length_set] <;> omega) | decide, ?_⟩) | ((first | refine WPA.ifBt ?_ ?_ | refine WPA.ifBnf ?_ ?_); assumption) | ((first | refine WPA.ifBnt ?_ ?_ | refine WPA.ifBf ?_ ?_); assumption) | ((first | refine WPA.ifs ?_ ?_ | refine WPA.ifB ?_ ?_) <;> intro hc))
  refine WPA.loopS (σ := Nat) (fun i => [(0, .slice s.a s.n s.cap), (1, .int .i64 bits), (5, .int .i64 ((2 ^ i : Nat) : Int)), (6, .int .i64 i)]) (fun i => (i : Int) ≤ bits)
    (fun _ => SL w0 I L) (fun i => bits.toNat - i) 0 ⟨rfl, rfl, rfl, rfl, trivial⟩ (by show ((0 : Nat) : Int) ≤ bits; omega) (fun w h => h) ?_
  rintro i ρ hi
  by_cases hlt : (i : Int) < bits
  · have hp : 2 ^ i ≤ 65536 := Nat.le_trans (Nat.pow_le_pow_right (by decide) (show i ≤ 16 by omega)) (by decide)
    have hp2 : ((2 ^ i : Nat) : Int) ≤ ((65536 : Nat) : Int) := Int.ofNat_le.2 hp
    have hp0 : 0 ≤ ((2 ^ i : Nat) : Int) := Int.natCast_nonneg _
    have he : ((2 ^ (i + 1) : Nat) : Int) = ((2 ^ i : Nat) : Int) * 2 := by rw [Nat.pow_succ, Int.natCast_mul]; rfl
    generalize hP : ((2 ^ i : Nat) : Int) = Pw at hp2 hp0 he
    repeat' (first | ((first | refine WLA.m rfl rfl ?_ ?_ | refine WLA.st rfl ?_ ?_ | refine WLA.x rfl rfl ?_ (fun x => ?_) | refine WLA.x0 rfl ?_ (fun x => ?_)); first | exact trivial | exact rfl | assumption | omega | (refine ⟨?_, ?_⟩ <;> omega) | (simp only [Room, List.length_set, List.length_append, List.length_cons, List.length_nil, List.length_replicate]; omega) | decide | skip) | (refine Stp.go ?_) | (refine WPA.ifT ?_) | (refine WPA.ifF ?_) | ((first | refine WPA.dec ?_); first | refine .inl ⟨by first | assumption | omega | with_reducible rfl | (refine fun h => h ?_; first | assumption | with_reducible rfl) | (simp only [List.length_append, List.length_cons, List.length_nil, List.length_set] <;> omega) | decide, ?_⟩ | refine .inr ⟨by first | assumption | omega | with_reducible rfl | (refine fun h => h ?_; first | assumption | with_reducible rfl) | (simp only [List.length_append, List.length_cons, List.length_nil, List.length_set] <;> omega) | decide, ?_⟩) | ((first | refine WPA.ifBt ?_ ?_ | refine WPA.ifBnf ?_ ?_); assumption) | ((first | refine WPA.ifBnt ?_ ?_ | refine WPA.ifBf ?_ ?_); assumption) | ((first | refine WPA.ifs ?_ ?_ | refine WPA.ifB ?_ ?_) <;> intro hc))
    refine QQ.loopS (i + 1) ⟨rfl, rfl, ?_, rfl, trivial⟩ (by omega) (by omega) (fun w h => h)
    show Value.int .i64 _ = Value.int .i64 _
    rw [he]
  · have hib : i = bits.toNat := by omega
    subst hib
    rw [← hM]
    have h1 := insL_len (once := true) (l := xs)
    have hMI : (0 : Int) < M ∧ (M : Int) ≤ 65536 := by omega
    repeat' (first | ((first | refine WLA.m rfl rfl ?_ ?_ | refine WLA.st rfl ?_ ?_ | refine WLA.x rfl rfl ?_ (fun x => ?_) | refine WLA.x0 rfl ?_ (fun x => ?_)); first | exact trivial | exact rfl | assumption | omega | (refine ⟨?_, ?_⟩ <;> omega) | (simp only [Room, List.length_set, List.length_append, List.length_cons, List.length_nil, List.length_replicate]; omega) | decide | skip) | (refine Stp.go ?_) | (refine WPA.ifT ?_) | (refine WPA.ifF ?_) | ((first | refine WPA.dec ?_); first | refine .inl ⟨by first | assumption | omega | with_reducible rfl | (refine fun h => h ?_; first | assumption | with_reducible rfl) | (simp only [List.length_append, List.length_cons, List.length_nil, List.length_set] <;> omega) | decide, ?_⟩ | refine .inr ⟨by first | assumption | omega | with_reducible rfl | (refine fun h => h ?_; first | assumption | with_reducible rfl) | (simp only [List.length_append, List.length_cons, List.length_nil, List.length_set] <;> omega) | decide, ?_⟩) | ((first | refine WPA.ifBt ?_ ?_ | refine WPA.ifBnf ?_ ?_); assumption) | ((first | refine WPA.ifBnt ?_ ?_ | refine WPA.ifBf ?_ ?_); assumption) | ((first | refine WPA.ifs ?_ ?_ | refine WPA.ifB ?_ ?_) <;> intro hc))
    refine WPA.loopS (σ := TS) (fun y => [(0, .slice s.a s.n s.cap), (5, .int .i64 M), (7, .slice y.a.a y.a.n y.a.cap), (8, .slice y.f.a y.f.n y.f.cap), (9, .int .i64 y.i)]) (fun y => y.i ≤ xs.length)
      (fun y => SL w0 I (OwnS 3 y.a (insL false (xs.take y.i)) :: OwnS 3 y.f (insL true (xs.take y.i)) :: L)) (fun y => xs.length - y.i) ⟨0, SV.nil, SV.nil⟩ ⟨rfl, rfl, rfl, rfl, rfl, trivial⟩ (Nat.zero_le _) (fun w h => by
        show SL w0 I (OwnS 3 SV.nil ([] : List Int) :: OwnS 3 SV.nil ([] : List Int) :: L) w
        exact h.to) ?_
    rintro ⟨j, a, f⟩ ρ hj
    dsimp only at hj ⊢
    by_cases hjl : j < xs.length
    · have hjl' : (j : Int) < xs.length := by omega
      have ej := at_nat xs j hjl
      have et : ∀ once, insL once (xs.take (j + 1)) = insF once (at_ xs (j : Int)) (insL once (xs.take j)) := fun once => by
        rw [List.take_add_one, List.getElem?_eq_getElem hjl, ej]; unfold insL; rw [List.foldl_append]; rfl
      have l1 : (insL false (xs.take j)).length ≤ 1000000 := by rw [insL_alen, List.length_take]; omega
      have l2 : (insL true (xs.take j)).length ≤ 1000000 := by have := insL_len (once := true) (l := xs.take j); rw [List.length_take] at this; omega
      repeat' (first | ((first | refine WLA.m rfl rfl ?_ ?_ | refine WLA.st rfl ?_ ?_ | refine WLA.x rfl rfl ?_ (fun x => ?_) | refine WLA.x0 rfl ?_ (fun x => ?_)); first | exact trivial | exact rfl | assumption | omega | (refine ⟨?_, ?_⟩ <;> omega) | (simp only [Room, List.length_set, List.length_append, List.length_cons, List.length_nil, List.length_replicate]; omega) | decide | skip) | (refine Stp.go ?_) | (guard_target =~ WLA _ _ _ _ _ (⟨_, .call ⟨.value (.func 96), _, _⟩, _, _, _, _⟩ :: _) _ _; first | (refine WLA.call rfl rfl (insert_tr (by assumption)) ?_; rintro r) | (refine WLA.call0 rfl (insert_tr (by assumption)) ?_; rintro r)) | (refine WPA.ifT ?_) | (refine WPA.ifF ?_) | ((first | refine WPA.dec ?_); first | refine .inl ⟨by first | assumption | omega | with_reducible rfl | (refine fun h => h ?_; first | assumption | with_reducible rfl) | (simp only [List.length_append, List.length_cons, List.length_nil, List.length_set] <;> omega) | decide, ?_⟩ | refine .inr ⟨by first | assumption | omega | with_reducible rfl | (refine fun h => h ?_; first | assumption | with_reducible rfl) | (simp only [List.length_append, List.length_cons, List.length_nil, List.length_set] <;> omega) | decide, ?_⟩) | ((first | refine WPA.ifBt ?_ ?_ | refine WPA.ifBnf ?_ ?_); assumption) | ((first | refine WPA.ifBnt ?_ ?_ | refine WPA.ifBf ?_ ?_); assumption) | ((first | refine WPA.ifs ?_ ?_ | refine WPA.ifB ?_ ?_) <;> intro hc))
      rename_i ra
      refine QQ.loopS ⟨j + 1, ra, r⟩ ⟨rfl, rfl, rfl, rfl, rfl, trivial⟩ hjl (by dsimp only; omega) (fun w h => ?_)
      dsimp only
      rw [et, et]
      exact h.to
    · have hjl' : ¬ (j : Int) < xs.length := by omega
      rw [List.take_of_length_le (by omega)]
      have hal := insL_alen (l := xs)
      by_cases hf : (insL true xs).length ≤ M
      · have hf' : ((insL true xs).length : Int) ≤ (M : Int) := by omega
        have ht : trainN xs M = insL true xs := if_pos hf
        rw [ht]
        repeat' (first | ((first | refine WLA.m rfl rfl ?_ ?_ | refine WLA.st rfl ?_ ?_ | refine WLA.x rfl rfl ?_ (fun x => ?_) | refine WLA.x0 rfl ?_ (fun x => ?_)); first | exact trivial | exact rfl | assumption | omega | (refine ⟨?_, ?_⟩ <;> omega) | (simp only [Room, List.length_set, List.length_append, List.length_cons, List.length_nil, List.length_replicate]; omega) | decide | skip) | (refine Stp.go ?_) | (refine WPA.ifT ?_) | (refine WPA.ifF ?_) | ((first | refine WPA.dec ?_); first | refine .inl ⟨by first | assumption | omega | with_reducible rfl | (refine fun h => h ?_; first | assumption | with_reducible rfl) | (simp only [List.length_append, List.length_cons, List.length_nil, List.length_set] <;> omega) | decide, ?_⟩ | refine .inr ⟨by first | assumption | omega | with_reducible rfl | (refine fun h => h ?_; first | assumption | with_reducible rfl) | (simp only [List.length_append, List.length_cons, List.length_nil, List.length_set] <;> omega) | decide, ?_⟩) | ((first | refine WPA.ifBt ?_ ?_ | refine WPA.ifBnf ?_ ?_); assumption) | ((first | refine WPA.ifBnt ?_ ?_ | refine WPA.ifBf ?_ ?_); assumption) | ((first | refine WPA.ifs ?_ ?_ | refine WPA.ifB ?_ ?_) <;> intro hc))
        exact QQ.end_ rfl f rfl fun w h => h.to
      · have hf' : ¬ ((insL true xs).length : Int) ≤ (M : Int) := by omega
        have ht : trainN xs M = insL true (pickL (insL false xs) M) := if_neg hf
        have hpos := trainN_big hf
        rw [ht]
        generalize insL false xs = all at hal hpos
        repeat' (first | ((first | refine WLA.m rfl rfl ?_ ?_ | refine WLA.st rfl ?_ ?_ | refine WLA.x rfl rfl ?_ (fun x => ?_) | refine WLA.x0 rfl ?_ (fun x => ?_)); first | exact trivial | exact rfl | assumption | omega | (refine ⟨?_, ?_⟩ <;> omega) | (simp only [Room, List.length_set, List.length_append, List.length_cons, List.length_nil, List.length_replicate]; omega) | decide | skip) | (refine Stp.go ?_) | (refine WPA.ifT ?_) | (refine WPA.ifF ?_) | ((first | refine WPA.dec ?_); first | refine .inl ⟨by first | assumption | omega | with_reducible rfl | (refine fun h => h ?_; first | assumption | with_reducible rfl) | (simp only [List.length_append, List.length_cons, List.length_nil, List.length_set] <;> omega) | decide, ?_⟩ | refine .inr ⟨by first | assumption | omega | with_reducible rfl | (refine fun h => h ?_; first | assumption | with_reducible rfl) | (simp only [List.length_append, List.length_cons, List.length_nil, List.length_set] <;> omega) | decide, ?_⟩) | ((first | refine WPA.ifBt ?_ ?_ | refine WPA.ifBnf ?_ ?_); assumption) | ((first | refine WPA.ifBnt ?_ ?_ | refine WPA.ifBf ?_ ?_); assumption) | ((first | refine WPA.ifs ?_ ?_ | refine WPA.ifB ?_ ?_) <;> intro hc))
        refine WPA.loopS (σ := Nat × SV) (fun y => [(5, .int .i64 M), (7, .slice a.a a.n a.cap), (10, .slice y.2.a y.2.n y.2.cap), (11, .int .i64 y.1)]) (fun y => y.1 ≤ M)
          (fun y => SL w0 I (OwnS 3 y.2 (insL true ((List.range y.1).map fun i => at_ all (((i * all.length / M : Nat)) : Int))) :: OwnS 3 a all :: L)) (fun y => M - y.1) (0, SV.nil) ⟨rfl, rfl, rfl, rfl, trivial⟩ (Nat.zero_le _) (fun w h => by
            show SL w0 I (OwnS 3 SV.nil ([] : List Int) :: OwnS 3 a all :: L) w
            exact h.to) ?_
        rintro ⟨k, r⟩ ρ hk
        dsimp only at hk ⊢
        by_cases hkm : k < M
        · have hkm' : (k : Int) < M := by omega
          have hp := pick_lt hkm hpos
          have e1 : ((k * all.length / M : Nat) : Int) = (k : Int) * (all.length : Int) / (M : Int) := by rw [Int.natCast_ediv, Int.natCast_mul]
          have hmul : k * all.length ≤ 65536 * 1000000 := Nat.mul_le_mul (by omega) (by omega)
          have hmulI : 0 ≤ (k : Int) * (all.length : Int) ∧ (k : Int) * (all.length : Int) ≤ 65536000000 := by
            have : (k : Int) * (all.length : Int) = ((k * all.length : Nat) : Int) := by rw [Int.natCast_mul]
            rw [this]; omega
          have hb2 : 0 ≤ ((k * all.length / M : Nat) : Int) ∧ ((k * all.length / M : Nat) : Int) < all.length := ⟨Int.natCast_nonneg _, by exact_mod_cast hp⟩
          rw [e1] at hb2
          have hq : (0 ≤ (k : Int) * (all.length : Int) ∧ (k : Int) * (all.length : Int) ≤ 9223372036854775807) ∧ 0 < (M : Int) := by omega
          have hll : (insL true ((List.range k).map fun i => at_ all (((i * all.length / M : Nat)) : Int))).length ≤ 1000000 := by
            have := insL_len (once := true) (l := (List.range k).map fun i => at_ all (((i * all.length / M : Nat)) : Int))
            rw [List.length_map, List.length_range] at this; omega
          repeat' (first | ((first | refine WLA.m rfl rfl ?_ ?_ | refine WLA.st rfl ?_ ?_ | refine WLA.x rfl rfl ?_ (fun x => ?_) | refine WLA.x0 rfl ?_ (fun x => ?_)); first | exact trivial | exact rfl | assumption | omega | (refine ⟨?_, ?_⟩ <;> omega) | (simp only [Room, List.length_set, List.length_append, List.length_cons, List.length_nil, List.length_replicate]; omega) | decide | skip) | (refine Stp.go ?_) | (guard_target =~ WLA _ _ _ _ _ (⟨_, .call ⟨.value (.func 96), _, _⟩, _, _, _, _⟩ :: _) _ _; first | (refine WLA.call rfl rfl (insert_tr hll) ?_; rintro r2) | (refine WLA.call0 rfl (insert_tr hll) ?_; rintro r2)) | (refine WPA.ifT ?_) | (refine WPA.ifF ?_) | ((first | refine WPA.dec ?_); first | refine .inl ⟨by first | assumption | omega | with_reducible rfl | (refine fun h => h ?_; first | assumption | with_reducible rfl) | (simp only [List.length_append, List.length_cons, List.length_nil, List.length_set] <;> omega) | decide, ?_⟩ | refine .inr ⟨by first | assumption | omega | with_reducible rfl | (refine fun h => h ?_; first | assumption | with_reducible rfl) | (simp only [List.length_append, List.length_cons, List.length_nil, List.length_set] <;> omega) | decide, ?_⟩) | ((first | refine WPA.ifBt ?_ ?_ | refine WPA.ifBnf ?_ ?_); assumption) | ((first | refine WPA.ifBnt ?_ ?_ | refine WPA.ifBf ?_ ?_); assumption) | ((first | refine WPA.ifs ?_ ?_ | refine WPA.ifB ?_ ?_) <;> intro hc))
          refine QQ.loopS (k + 1, r2) ⟨rfl, rfl, rfl, rfl, trivial⟩ hkm (by dsimp only; omega) (fun w h => ?_)
          dsimp only
          have et : insL true ((List.range (k + 1)).map fun i => at_ all (((i * all.length / M : Nat)) : Int)) = insF true (at_ all ((k : Int) * (all.length : Int) / (M : Int))) (insL true ((List.range k).map fun i => at_ all (((i * all.length / M : Nat)) : Int))) := by
            rw [List.range_succ, List.map_append, List.map_cons, List.map_nil, e1]; unfold insL; rw [List.foldl_append]; rfl
          rw [et]
          exact h.to
        · have hkm' : ¬ (k : Int) < M := by omega
          have hke : k = M := by omega
          subst hke
          repeat' (first | ((first | refine WLA.m rfl rfl ?_ ?_ | refine WLA.st rfl ?_ ?_ | refine WLA.x rfl rfl ?_ (fun x => ?_) | refine WLA.x0 rfl ?_ (fun x => ?_)); first | exact trivial | exact rfl | assumption | omega | (refine ⟨?_, ?_⟩ <;> omega) | (simp only [Room, List.length_set, List.length_append, List.length_cons, List.length_nil, List.length_replicate]; omega) | decide | skip) | (refine Stp.go ?_) | (refine WPA.ifT ?_) | (refine WPA.ifF ?_) | ((first | refine WPA.dec ?_); first | refine .inl ⟨by first | assumption | omega | with_reducible rfl | (refine fun h => h ?_; first | assumption | with_reducible rfl) | (simp only [List.length_append, List.length_cons, List.length_nil, List.length_set] <;> omega) | decide, ?_⟩ | refine .inr ⟨by first | assumption | omega | with_reducible rfl | (refine fun h => h ?_; first | assumption | with_reducible rfl) | (simp only [List.length_append, List.length_cons, List.length_nil, List.length_set] <;> omega) | decide, ?_⟩) | ((first | refine WPA.ifBt ?_ ?_ | refine WPA.ifBnf ?_ ?_); assumption) | ((first | refine WPA.ifBnt ?_ ?_ | refine WPA.ifBf ?_ ?_); assumption) | ((first | refine WPA.ifs ?_ ?_ | refine WPA.ifB ?_ ?_) <;> intro hc))
          refine QQ.end_ rfl r rfl fun w h => ?_
          unfold pickL
          exact h.to
end
end Go.Proofs.Ytlodbajaoadhdaa
