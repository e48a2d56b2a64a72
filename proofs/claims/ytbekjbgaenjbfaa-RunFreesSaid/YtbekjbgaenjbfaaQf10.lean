/- Texts that RunFrees_law leans on, part 10. Conditions: none. -/
import Derived.Test.YtbekjbgaenjbfaaQf9
namespace Go.Proofs.Ytbekjbgaenjbfaa
open Go Go.Fw Go.RowKit
set_option linter.unusedVariables false
set_option linter.unusedSimpArgs false
set_option maxRecDepth 100000
set_option maxHeartbeats 16000000
set_option synthInstance.maxHeartbeats 200000
set_option synthInstance.maxSize 100000
attribute [local irreducible] WPA WLA WDA WDQ WDE QQ seqQ blockQ loopQ fnQ OpP OpT Tr TrP SL SLd OwnS LitS Bk BkE Ob
attribute [local irreducible] vS keyS parL
def rdOne (o : Nat) (u : ByteArray) : Option (Ct × ByteArray) :=
  if u.size < 3 * o then none else (uptR (u.extract (3 * o) u.size)).map fun q => ((parL (u.extract 0 (3 * o)), (q.1 : Int)), (u.extract (3 * o) u.size).extract q.2 (u.extract (3 * o) u.size).size)
def rdN (o : Nat) (u : ByteArray) : Nat → Option (List Ct × ByteArray)
  | 0 => some ([], u)
  | k + 1 => (rdN o u k).bind fun q => (rdOne o q.2).map fun r => (q.1 ++ [r.1], r.2)
theorem rdOne_some {o p : Nat} {t : ByteArray} {x : Ct} {u' : ByteArray} (hp : p ≤ t.size) (h : rdOne o (t.extract p t.size) = some (x, u')) :
    ∃ v m : Nat, p + o * 3 ≤ t.size ∧ uptR (t.extract (p + o * 3) t.size) = some (v, m) ∧ x = (parL (t.extract p (p + o * 3)), (v : Int)) ∧ u' = t.extract (p + o * 3 + m) t.size ∧ p + o * 3 + m ≤ t.size ∧ 1 ≤ m := by
  have hsz := ext_size' t p hp
  unfold rdOne at h
  by_cases h1 : (t.extract p t.size).size < 3 * o
  · rw [if_pos h1] at h; cases h
  rw [if_neg h1] at h
  obtain ⟨⟨v, m⟩, h2, h3⟩ := Option.map_eq_some_iff.1 h
  have e1 : (t.extract p t.size).extract (3 * o) (t.extract p t.size).size = t.extract (p + o * 3) t.size := by
    rw [hsz, ext_ext' _ _ _ _ (by omega), show p + (t.size - p) = t.size by omega, Nat.mul_comm 3 o]
  have e2 : (t.extract p t.size).extract 0 (3 * o) = t.extract p (p + o * 3) := by rw [ext_ext' _ _ _ _ (by omega), Nat.mul_comm 3 o]; rfl
  rw [e1] at h2 h3
  rw [e2] at h3
  have hs2 := ext_size' t (p + o * 3) (by omega)
  have hm : 1 ≤ m ∧ m ≤ t.size - (p + o * 3) := by
    unfold uptR at h2
    by_cases h4 : (numR (t.extract (p + o * 3) t.size)).2.2 = 0 ∧ (numR (t.extract (p + o * 3) t.size)).1 ≤ 1099511627776
    · rw [if_pos h4] at h2
      have hl := numR_len h4.1
      have e := congrArg Prod.snd (Option.some.inj h2)
      dsimp only at e
      rw [e] at hl
      omega
    · rw [if_neg h4] at h2; cases h2
  have h5 := Prod.mk.inj h3
  refine ⟨v, m, by omega, h2, h5.1.symm, ?_, by omega, hm.1⟩
  rw [← h5.2, hs2, ext_ext' _ _ _ _ (by omega), show p + o * 3 + (t.size - (p + o * 3)) = t.size by omega]
section
variable {R p : Nat} {t : ByteArray} {L L' M : List HP} {w0 : World} {I : Foot}
theorem rchkR_tr {n N : Int} {ls gs : SV} {g : List Int} {pl : Option (List Int)} {k : ByteArray} {e : Int} [hg : RdS I L gs Int inferInstance g] (hl : (ls.a = none ∧ pl = none) ∨ ∃ l : List Int, ls.a ≠ none ∧ RdS I L ls Int inferInstance l ∧ l.length ≤ 1000000 ∧ pl = some l) (hn : g.length ≤ 1000000)
    (he : e = chk1 n pl g N) (hk : k = if e = 0 then keyS g else ⟨#[]⟩) :
    Tr Try.prog 40 #[.int .i64 n, .slice ls.a ls.n ls.cap, .agg #[.slice gs.a gs.n gs.cap, .int .i64 N]] (SL w0 I L) (fun _ : Unit => .tuple #[.string k, .int .i64 e]) (fun _ => SL w0 I L) := by
  refine Tr.intro Try.func40 rfl Try.ntmps40 rfl ?_
  have hn9 : g.length ≤ 1000000000 := by omega
  unfold chk1 at he
  by_cases h1 : (g.length : Int) ≠ n
  · rw [if_pos h1] at he
    subst he
    rw [if_neg (by decide)] at hk
    subst hk
    repeat' (first | ((first | refine WLA.m rfl rfl ?_ ?_ | refine WLA.st rfl ?_ ?_ | refine WLA.x rfl rfl ?_ (fun x => ?_) | refine WLA.x0 rfl ?_ (fun x => ?_)); first | exact trivial | exact rfl | assumption | omega | (refine ⟨?_, ?_⟩ <;> omega) | (simp only [Room, List.length_set, List.length_append, List.length_cons, List.length_nil, List.length_replicate]; omega) | decide | skip) | (refine Stp.go ?_) | (refine WPA.ifT ?_) | (refine WPA.ifF ?_) | ((first | refine WPA.dec ?_); first | refine .inl ⟨by first | assumption | omega | with_reducible rfl | (refine fun h => h ?_; first | assumption | with_reducible rfl) | (simp only [List.length_append, List.length_cons, List.length_nil, List.length_set] <;> omega) | decide, ?_⟩ | refine .inr ⟨by first | assumption | omega | with_reducible rfl | (refine fun h => h ?_; first | assumption | with_reducible rfl) | (simp only [List.length_append, List.length_cons, List.length_nil, List.length_set] <;> omega) | decide, ?_⟩) | ((first | refine WPA.ifBt ?_ ?_ | refine WPA.ifBnf ?_ ?_); assumption) | ((first | refine WPA.ifBnt ?_ ?_ | refine WPA.ifBf ?_ ?_); assumption) | ((first | refine WPA.ifs ?_ ?_ | refine WPA.ifB ?_ ?_) <;> intro hc))
    exact QQ.end_ rfl () rfl fun w h => h.to
  rw [if_neg h1] at he
  by_cases h2 : ¬ okKey g
  · rw [if_pos h2] at he
    subst he
    rw [if_neg (by decide)] at hk
    subst hk
    repeat' (first | ((first | refine WLA.m rfl rfl ?_ ?_ | refine WLA.st rfl ?_ ?_ | refine WLA.x rfl rfl ?_ (fun x => ?_) | refine WLA.x0 rfl ?_ (fun x => ?_)); first | exact trivial | exact rfl | assumption | omega | (refine ⟨?_, ?_⟩ <;> omega) | (simp only [Room, List.length_set, List.length_append, List.length_cons, List.length_nil, List.length_replicate]; omega) | decide | skip) | (refine Stp.go ?_) | (guard_target =~ WLA _ _ _ _ _ (⟨_, .call ⟨.value (.func 62), _, _⟩, _, _, _, _⟩ :: _) _ _; first | (refine WLA.call rfl rfl (gKey_tr hn (.inr ⟨h2, rfl, rfl⟩)) ?_; rintro ⟨⟩) | (refine WLA.call0 rfl (gKey_tr hn (.inr ⟨h2, rfl, rfl⟩)) ?_; rintro ⟨⟩)) | (refine WPA.ifT ?_) | (refine WPA.ifF ?_) | ((first | refine WPA.dec ?_); first | refine .inl ⟨by first | assumption | omega | with_reducible rfl | (refine fun h => h ?_; first | assumption | with_reducible rfl) | (simp only [List.length_append, List.length_cons, List.length_nil, List.length_set] <;> omega) | decide, ?_⟩ | refine .inr ⟨by first | assumption | omega | with_reducible rfl | (refine fun h => h ?_; first | assumption | with_reducible rfl) | (simp only [List.length_append, List.length_cons, List.length_nil, List.length_set] <;> omega) | decide, ?_⟩) | ((first | refine WPA.ifBt ?_ ?_ | refine WPA.ifBnf ?_ ?_); assumption) | ((first | refine WPA.ifBnt ?_ ?_ | refine WPA.ifBf ?_ ?_); assumption) | ((first | refine WPA.ifs ?_ ?_ | refine WPA.ifB ?_ ?_) <;> intro hc))
    exact QQ.end_ rfl () rfl fun w h => h.to
  rw [if_neg h2] at he
  have h2' := Classical.byContradiction h2
  have hK : ∀ {L : List HP} [RdS I L gs Int inferInstance g], Tr Try.prog 62 #[.slice gs.a gs.n gs.cap] (SL w0 I L) (fun _ : Unit => .tuple #[.string (keyS g), .int .i64 0]) (fun _ => SL w0 I L)   := fun {L} _ => gKey_tr hn (.inl ⟨h2', rfl, rfl⟩)
  by_cases h3 : N < 1 ∨ 1099511627776 < N
  · rw [if_pos h3] at he
    subst he
    rw [if_neg (by decide)] at hk
    subst hk
    by_cases h4 : N < 1
    · skip
      repeat' (first | ((first | refine WLA.m rfl rfl ?_ ?_ | refine WLA.st rfl ?_ ?_ | refine WLA.x rfl rfl ?_ (fun x => ?_) | refine WLA.x0 rfl ?_ (fun x => ?_)); first | exact trivial | exact rfl | assumption | omega | (refine ⟨?_, ?_⟩ <;> omega) | (simp only [Room, List.length_set, List.length_append, List.length_cons, List.length_nil, List.length_replicate]; omega) | decide | skip) | (refine Stp.go ?_) | (guard_target =~ WLA _ _ _ _ _ (⟨_, .call ⟨.value (.func 62), _, _⟩, _, _, _, _⟩ :: _) _ _; first | (refine WLA.call rfl rfl (hK) ?_; rintro ⟨⟩) | (refine WLA.call0 rfl (hK) ?_; rintro ⟨⟩)) | (refine WPA.ifT ?_) | (refine WPA.ifF ?_) | (refine WLA.no rfl rfl ?_) | ((first | refine WPA.dec ?_ | ((fail_if_success (guard_target =~ WLA _ _ _ _ _ _ (put1 _ _ (.bool true)) _)); (fail_if_success (guard_target =~ WLA _ _ _ _ _ _ (put1 _ _ (.bool false)) _)); refine WLA.dec rfl rfl ?_) | refine WLA.pk ?_); first | refine .inl ⟨by first | assumption | omega | with_reducible rfl | (refine fun h => h ?_; first | assumption | with_reducible rfl) | (simp only [List.length_append, List.length_cons, List.length_nil, List.length_set] <;> omega) | decide, ?_⟩ | refine .inr ⟨by first | assumption | omega | with_reducible rfl | (refine fun h => h ?_; first | assumption | with_reducible rfl) | (simp only [List.length_append, List.length_cons, List.length_nil, List.length_set] <;> omega) | decide, ?_⟩) | ((first | refine WPA.ifBt ?_ ?_ | refine WPA.ifBnf ?_ ?_); assumption) | ((first | refine WPA.ifBnt ?_ ?_ | refine WPA.ifBf ?_ ?_); assumption) | ((first | refine WPA.ifs ?_ ?_ | refine WPA.ifB ?_ ?_) <;> intro hc) | ((fail_if_success (guard_target =~ WLA _ _ _ _ _ _ (put1 _ _ (.bool true)) _)); (fail_if_success (guard_target =~ WLA _ _ _ _ _ _ (put1 _ _ (.bool false)) _)); (first | refine WLA.both rfl rfl ?_ ?_ | refine WLA.bothB rfl rfl ?_ ?_) <;> intro hg))
      exact QQ.end_ rfl () rfl fun w h => h.to
    · have h5 : 1099511627776 < N := h3.resolve_left h4
      repeat' (first | ((first | refine WLA.m rfl rfl ?_ ?_ | refine WLA.st rfl ?_ ?_ | refine WLA.x rfl rfl ?_ (fun x => ?_) | refine WLA.x0 rfl ?_ (fun x => ?_)); first | exact trivial | exact rfl | assumption | omega | (refine ⟨?_, ?_⟩ <;> omega) | (simp only [Room, List.length_set, List.length_append, List.length_cons, List.length_nil, List.length_replicate]; omega) | decide | skip) | (refine Stp.go ?_) | (guard_target =~ WLA _ _ _ _ _ (⟨_, .call ⟨.value (.func 62), _, _⟩, _, _, _, _⟩ :: _) _ _; first | (refine WLA.call rfl rfl (hK) ?_; rintro ⟨⟩) | (refine WLA.call0 rfl (hK) ?_; rintro ⟨⟩)) | (refine WPA.ifT ?_) | (refine WPA.ifF ?_) | (refine WLA.no rfl rfl ?_) | ((first | refine WPA.dec ?_ | ((fail_if_success (guard_target =~ WLA _ _ _ _ _ _ (put1 _ _ (.bool true)) _)); (fail_if_success (guard_target =~ WLA _ _ _ _ _ _ (put1 _ _ (.bool false)) _)); refine WLA.dec rfl rfl ?_) | refine WLA.pk ?_); first | refine .inl ⟨by first | assumption | omega | with_reducible rfl | (refine fun h => h ?_; first | assumption | with_reducible rfl) | (simp only [List.length_append, List.length_cons, List.length_nil, List.length_set] <;> omega) | decide, ?_⟩ | refine .inr ⟨by first | assumption | omega | with_reducible rfl | (refine fun h => h ?_; first | assumption | with_reducible rfl) | (simp only [List.length_append, List.length_cons, List.length_nil, List.length_set] <;> omega) | decide, ?_⟩) | ((first | refine WPA.ifBt ?_ ?_ | refine WPA.ifBnf ?_ ?_); assumption) | ((first | refine WPA.ifBnt ?_ ?_ | refine WPA.ifBf ?_ ?_); assumption) | ((first | refine WPA.ifs ?_ ?_ | refine WPA.ifB ?_ ?_) <;> intro hc) | ((fail_if_success (guard_target =~ WLA _ _ _ _ _ _ (put1 _ _ (.bool true)) _)); (fail_if_success (guard_target =~ WLA _ _ _ _ _ _ (put1 _ _ (.bool false)) _)); (first | refine WLA.both rfl rfl ?_ ?_ | refine WLA.bothB rfl rfl ?_ ?_) <;> intro hg))
      exact QQ.end_ rfl () rfl fun w h => h.to
  rw [if_neg h3] at he
  have h4 : ¬ N < 1 := fun h => h3 (.inl h)
  have h5 : ¬ 1099511627776 < N := fun h => h3 (.inr h)
  rcases hl with ⟨ha, rfl⟩ | ⟨l, ha, hls, hll, rfl⟩
  · have hna : (!ls.a.isNone) = false := by rw [ha]; rfl
    change e = if (0 : Int) ≤ -1 then 9 else 0 at he
    rw [if_neg (by decide)] at he
    subst he
    rw [if_pos rfl] at hk
    subst hk
    repeat' (first | ((rw [hna])) | ((first | refine WLA.m rfl rfl ?_ ?_ | refine WLA.st rfl ?_ ?_ | refine WLA.x rfl rfl ?_ (fun x => ?_) | refine WLA.x0 rfl ?_ (fun x => ?_)); first | exact trivial | exact rfl | assumption | omega | (refine ⟨?_, ?_⟩ <;> omega) | (simp only [Room, List.length_set, List.length_append, List.length_cons, List.length_nil, List.length_replicate]; omega) | decide | skip) | (refine Stp.go ?_) | (guard_target =~ WLA _ _ _ _ _ (⟨_, .call ⟨.value (.func 62), _, _⟩, _, _, _, _⟩ :: _) _ _; first | (refine WLA.call rfl rfl (hK) ?_; rintro ⟨⟩) | (refine WLA.call0 rfl (hK) ?_; rintro ⟨⟩)) | (refine WPA.ifT ?_) | (refine WPA.ifF ?_) | (refine WLA.no rfl rfl ?_) | ((first | refine WPA.dec ?_ | ((fail_if_success (guard_target =~ WLA _ _ _ _ _ _ (put1 _ _ (.bool true)) _)); (fail_if_success (guard_target =~ WLA _ _ _ _ _ _ (put1 _ _ (.bool false)) _)); refine WLA.dec rfl rfl ?_) | refine WLA.pk ?_); first | refine .inl ⟨by first | assumption | omega | with_reducible rfl | (refine fun h => h ?_; first | assumption | with_reducible rfl) | (simp only [List.length_append, List.length_cons, List.length_nil, List.length_set] <;> omega) | decide, ?_⟩ | refine .inr ⟨by first | assumption | omega | with_reducible rfl | (refine fun h => h ?_; first | assumption | with_reducible rfl) | (simp only [List.length_append, List.length_cons, List.length_nil, List.length_set] <;> omega) | decide, ?_⟩) | ((first | refine WPA.ifBt ?_ ?_ | refine WPA.ifBnf ?_ ?_); assumption) | ((first | refine WPA.ifBnt ?_ ?_ | refine WPA.ifBf ?_ ?_); assumption) | ((first | refine WPA.ifs ?_ ?_ | refine WPA.ifB ?_ ?_) <;> intro hc) | ((fail_if_success (guard_target =~ WLA _ _ _ _ _ _ (put1 _ _ (.bool true)) _)); (fail_if_success (guard_target =~ WLA _ _ _ _ _ _ (put1 _ _ (.bool false)) _)); (first | refine WLA.both rfl rfl ?_ ?_ | refine WLA.bothB rfl rfl ?_ ?_) <;> intro hg))
    exact QQ.end_ rfl () rfl fun w h => h.to
  · have hna : (!ls.a.isNone) = true := by cases h : ls.a with | none => exact absurd h ha | some a => rfl
    have hl9 : l.length ≤ 1000000000 := by omega
    by_cases h6 : 0 ≤ cmpL l g
    · rw [if_pos (by exact h6)] at he
      subst he
      rw [if_neg (by decide)] at hk
      subst hk
      repeat' (first | ((rw [hna])) | ((first | refine WLA.m rfl rfl ?_ ?_ | refine WLA.st rfl ?_ ?_ | refine WLA.x rfl rfl ?_ (fun x => ?_) | refine WLA.x0 rfl ?_ (fun x => ?_)); first | exact trivial | exact rfl | assumption | omega | (refine ⟨?_, ?_⟩ <;> omega) | (simp only [Room, List.length_set, List.length_append, List.length_cons, List.length_nil, List.length_replicate]; omega) | decide | skip) | (refine Stp.go ?_) | (guard_target =~ WLA _ _ _ _ _ (⟨_, .call ⟨.value (.func 62), _, _⟩, _, _, _, _⟩ :: _) _ _; first | (refine WLA.call rfl rfl (hK) ?_; rintro ⟨⟩) | (refine WLA.call0 rfl (hK) ?_; rintro ⟨⟩)) | (guard_target =~ WLA _ _ _ _ _ (⟨_, .call ⟨.value (.func 63), _, _⟩, _, _, _, _⟩ :: _) _ _; refine WLA.cq rfl rfl (gCompare_tr hl9 hn9) ?_) | (refine WPA.ifT ?_) | (refine WPA.ifF ?_) | (refine WLA.no rfl rfl ?_) | ((first | refine WPA.dec ?_ | ((fail_if_success (guard_target =~ WLA _ _ _ _ _ _ (put1 _ _ (.bool true)) _)); (fail_if_success (guard_target =~ WLA _ _ _ _ _ _ (put1 _ _ (.bool false)) _)); refine WLA.dec rfl rfl ?_) | refine WLA.pk ?_); first | refine .inl ⟨by first | assumption | omega | with_reducible rfl | (refine fun h => h ?_; first | assumption | with_reducible rfl) | (simp only [List.length_append, List.length_cons, List.length_nil, List.length_set] <;> omega) | decide, ?_⟩ | refine .inr ⟨by first | assumption | omega | with_reducible rfl | (refine fun h => h ?_; first | assumption | with_reducible rfl) | (simp only [List.length_append, List.length_cons, List.length_nil, List.length_set] <;> omega) | decide, ?_⟩) | ((first | refine WPA.ifBt ?_ ?_ | refine WPA.ifBnf ?_ ?_); assumption) | ((first | refine WPA.ifBnt ?_ ?_ | refine WPA.ifBf ?_ ?_); assumption) | ((first | refine WPA.ifs ?_ ?_ | refine WPA.ifB ?_ ?_) <;> intro hc) | ((fail_if_success (guard_target =~ WLA _ _ _ _ _ _ (put1 _ _ (.bool true)) _)); (fail_if_success (guard_target =~ WLA _ _ _ _ _ _ (put1 _ _ (.bool false)) _)); (first | refine WLA.both rfl rfl ?_ ?_ | refine WLA.bothB rfl rfl ?_ ?_) <;> intro hg))
      exact QQ.end_ rfl () rfl fun w h => h.to
    · rw [if_neg (by exact h6)] at he
      subst he
      rw [if_pos rfl] at hk
      subst hk
      repeat' (first | ((rw [hna])) | ((first | refine WLA.m rfl rfl ?_ ?_ | refine WLA.st rfl ?_ ?_ | refine WLA.x rfl rfl ?_ (fun x => ?_) | refine WLA.x0 rfl ?_ (fun x => ?_)); first | exact trivial | exact rfl | assumption | omega | (refine ⟨?_, ?_⟩ <;> omega) | (simp only [Room, List.length_set, List.length_append, List.length_cons, List.length_nil, List.length_replicate]; omega) | decide | skip) | (refine Stp.go ?_) | (guard_target =~ WLA _ _ _ _ _ (⟨_, .call ⟨.value (.func 62), _, _⟩, _, _, _, _⟩ :: _) _ _; first | (refine WLA.call rfl rfl (hK) ?_; rintro ⟨⟩) | (refine WLA.call0 rfl (hK) ?_; rintro ⟨⟩)) | (guard_target =~ WLA _ _ _ _ _ (⟨_, .call ⟨.value (.func 63), _, _⟩, _, _, _, _⟩ :: _) _ _; refine WLA.cq rfl rfl (gCompare_tr hl9 hn9) ?_) | (refine WPA.ifT ?_) | (refine WPA.ifF ?_) | (refine WLA.no rfl rfl ?_) | ((first | refine WPA.dec ?_ | ((fail_if_success (guard_target =~ WLA _ _ _ _ _ _ (put1 _ _ (.bool true)) _)); (fail_if_success (guard_target =~ WLA _ _ _ _ _ _ (put1 _ _ (.bool false)) _)); refine WLA.dec rfl rfl ?_) | refine WLA.pk ?_); first | refine .inl ⟨by first | assumption | omega | with_reducible rfl | (refine fun h => h ?_; first | assumption | with_reducible rfl) | (simp only [List.length_append, List.length_cons, List.length_nil, List.length_set] <;> omega) | decide, ?_⟩ | refine .inr ⟨by first | assumption | omega | with_reducible rfl | (refine fun h => h ?_; first | assumption | with_reducible rfl) | (simp only [List.length_append, List.length_cons, List.length_nil, List.length_set] <;> omega) | decide, ?_⟩) | ((first | refine WPA.ifBt ?_ ?_ | refine WPA.ifBnf ?_ ?_); assumption) | ((first | refine WPA.ifBnt ?_ ?_ | refine WPA.ifBf ?_ ?_); assumption) | ((first | refine WPA.ifs ?_ ?_ | refine WPA.ifB ?_ ?_) <;> intro hc) | ((fail_if_success (guard_target =~ WLA _ _ _ _ _ _ (put1 _ _ (.bool true)) _)); (fail_if_success (guard_target =~ WLA _ _ _ _ _ _ (put1 _ _ (.bool false)) _)); (first | refine WLA.both rfl rfl ?_ ?_ | refine WLA.bothB rfl rfl ?_ ?_) <;> intro hg))
      exact QQ.end_ rfl () rfl fun w h => h.to
theorem steps_tr {o : Int} : Tr Try.prog 35 #[.pointer (some ⟨R, 0, none⟩), .int .i64 o] (SL w0 I L) (fun q : Nat × Nat × Nat => .func (.func 54) #[] #[.pointer (some ⟨q.1, 0, none⟩), .pointer (some ⟨q.2.1, 0, none⟩), .pointer (some ⟨q.2.2, 0, none⟩)]) (fun q => SL w0 I (Bk q.2.2 23 [.slice none 0 0] :: Bk q.2.1 3 [.int .i64 o] :: Bk q.1 82 [.pointer (some ⟨R, 0, none⟩)] :: L)) := by
  refine Tr.intro Try.func35 rfl Try.ntmps35 rfl ?_
  repeat' (first | ((first | refine WLA.m rfl rfl ?_ ?_ | refine WLA.st rfl ?_ ?_ | refine WLA.x rfl rfl ?_ (fun x => ?_) | refine WLA.x0 rfl ?_ (fun x => ?_)); first | exact trivial | exact rfl | assumption | omega | (refine ⟨?_, ?_⟩ <;> omega) | (simp only [Room, List.length_set, List.length_append, List.length_cons, List.length_nil, List.length_replicate]; omega) | decide | skip) | (refine Stp.go ?_) | (refine WPA.ifT ?_) | (refine WPA.ifF ?_) | ((first | refine WPA.dec ?_); first | refine .inl ⟨by first | assumption | omega | with_reducible rfl | (refine fun h => h ?_; first | assumption | with_reducible rfl) | (simp only [List.length_append, List.length_cons, List.length_nil, List.length_set] <;> omega) | decide, ?_⟩ | refine .inr ⟨by first | assumption | omega | with_reducible rfl | (refine fun h => h ?_; first | assumption | with_reducible rfl) | (simp only [List.length_append, List.length_cons, List.length_nil, List.length_set] <;> omega) | decide, ?_⟩) | ((first | refine WPA.ifBt ?_ ?_ | refine WPA.ifBnf ?_ ?_); assumption) | ((first | refine WPA.ifBnt ?_ ?_ | refine WPA.ifBf ?_ ?_); assumption) | ((first | refine WPA.ifs ?_ ?_ | refine WPA.ifB ?_ ?_) <;> intro hc))
  revert x; intro Z
  revert x; intro O
  revert x; intro B
  exact QQ.end_ rfl (B, O, Z) rfl fun w h => h.to
abbrev StpL (R B O Z o p : Nat) (t : ByteArray) (ls : SV) (l : List Int) (L : List HP) : List HP := Bk R 121 (RdV t p 0) :: Bk Z 23 [.slice ls.a ls.n ls.cap] :: Bk O 3 [.int .i64 o] :: Bk B 82 [.pointer (some ⟨R, 0, none⟩)] :: OwnS 3 ls l :: L
theorem stepC_none {B O Z o : Nat} {ls : SV} {l : List Int} (hp : p ≤ t.size) (ht : t.size ≤ 1000000000000) (ho : 1 ≤ o ∧ o ≤ 8) (hr : rdOne o (t.extract p t.size) = none) :
    Tr Try.prog 54 #[.pointer (some ⟨B, 0, none⟩), .pointer (some ⟨O, 0, none⟩), .pointer (some ⟨Z, 0, none⟩)] (SL w0 I (StpL R B O Z o p t ls l L)) (fun _ : Unit => .tuple #[.agg #[.slice none 0 0, .int .i64 0], .bool false]) (fun _ => SL w0 I L) := by
  refine Tr.intro Try.func54 rfl Try.ntmps54 rfl ?_
  have hsz := ext_size' t p hp
  unfold rdOne at hr
  by_cases h1 : (t.extract p t.size).size < 3 * o
  · skip
    repeat' (first | ((first | refine WLA.m rfl rfl ?_ ?_ | refine WLA.st rfl ?_ ?_ | refine WLA.x rfl rfl ?_ (fun x => ?_) | refine WLA.x0 rfl ?_ (fun x => ?_)); first | exact trivial | exact rfl | assumption | omega | (refine ⟨?_, ?_⟩ <;> omega) | (simp only [Room, List.length_set, List.length_append, List.length_cons, List.length_nil, List.length_replicate]; omega) | decide | skip) | (refine Stp.go ?_) | (guard_target =~ WLA _ _ _ _ _ (⟨_, .call ⟨.value (.func 55), _, _⟩, _, _, _, _⟩ :: _) _ _; first | (refine WLA.call rfl rfl (Raw_short (n := (o : Int) * 3) hp ht (by omega)) ?_; rintro ⟨⟩) | (refine WLA.call0 rfl (Raw_short (n := (o : Int) * 3) hp ht (by omega)) ?_; rintro ⟨⟩)) | (guard_target =~ WLA _ _ _ _ _ (⟨_, .call ⟨.value (.func 56), _, _⟩, _, _, _, _⟩ :: _) _ _; first | (refine WLA.call rfl rfl (Upto_no (e := 2) (by decide)) ?_; rintro ⟨⟩) | (refine WLA.call0 rfl (Upto_no (e := 2) (by decide)) ?_; rintro ⟨⟩)) | (guard_target =~ WLA _ _ _ _ _ (⟨_, .call ⟨.value (.func 57), _, _⟩, _, _, _, _⟩ :: _) _ _; refine WLA.cq rfl rfl (Err_tr) ?_) | (refine WPA.ifT ?_) | (refine WPA.ifF ?_) | ((first | refine WPA.dec ?_); first | refine .inl ⟨by first | assumption | omega | with_reducible rfl | (refine fun h => h ?_; first | assumption | with_reducible rfl) | (simp only [List.length_append, List.length_cons, List.length_nil, List.length_set] <;> omega) | decide, ?_⟩ | refine .inr ⟨by first | assumption | omega | with_reducible rfl | (refine fun h => h ?_; first | assumption | with_reducible rfl) | (simp only [List.length_append, List.length_cons, List.length_nil, List.length_set] <;> omega) | decide, ?_⟩) | ((first | refine WPA.ifBt ?_ ?_ | refine WPA.ifBnf ?_ ?_); assumption) | ((first | refine WPA.ifBnt ?_ ?_ | refine WPA.ifBf ?_ ?_); assumption) | ((first | refine WPA.ifs ?_ ?_ | refine WPA.ifB ?_ ?_) <;> intro hc))
    exact QQ.endc rfl () rfl fun w h => h.to
  · rw [if_neg h1] at hr
    have hu : uptR (t.extract (p + o * 3) t.size) = none := by
      have := Option.map_eq_none_iff.1 hr
      rw [hsz, ext_ext' _ _ _ _ (by omega), show p + (t.size - p) = t.size by omega, Nat.mul_comm 3 o] at this
      exact this
    have hne := uptE_ne hu
    have hcast : (o : Int) * 3 = ((o * 3 : Nat) : Int) := by omega
    repeat' (first | ((rw [hcast])) | ((first | refine WLA.m rfl rfl ?_ ?_ | refine WLA.st rfl ?_ ?_ | refine WLA.x rfl rfl ?_ (fun x => ?_) | refine WLA.x0 rfl ?_ (fun x => ?_)); first | exact trivial | exact rfl | assumption | omega | (refine ⟨?_, ?_⟩ <;> omega) | (simp only [Room, List.length_set, List.length_append, List.length_cons, List.length_nil, List.length_replicate]; omega) | decide | skip) | (refine Stp.go ?_) | (guard_target =~ WLA _ _ _ _ _ (⟨_, .call ⟨.value (.func 55), _, _⟩, _, _, _, _⟩ :: _) _ _; first | (refine WLA.call rfl rfl (Raw_tr (n := o * 3) ht (by omega)) ?_; rintro ⟨⟩) | (refine WLA.call0 rfl (Raw_tr (n := o * 3) ht (by omega)) ?_; rintro ⟨⟩)) | (guard_target =~ WLA _ _ _ _ _ (⟨_, .call ⟨.value (.func 56), _, _⟩, _, _, _, _⟩ :: _) _ _; first | (refine WLA.call rfl rfl (Upto_bad (p := p + o * 3) (by omega) hu) ?_; rintro ⟨⟩) | (refine WLA.call0 rfl (Upto_bad (p := p + o * 3) (by omega) hu) ?_; rintro ⟨⟩)) | (guard_target =~ WLA _ _ _ _ _ (⟨_, .call ⟨.value (.func 57), _, _⟩, _, _, _, _⟩ :: _) _ _; refine WLA.cq rfl rfl (Err_tr) ?_) | (refine WPA.ifT ?_) | (refine WPA.ifF ?_) | ((first | refine WPA.dec ?_); first | refine .inl ⟨by first | assumption | omega | with_reducible rfl | (refine fun h => h ?_; first | assumption | with_reducible rfl) | (simp only [List.length_append, List.length_cons, List.length_nil, List.length_set] <;> omega) | decide, ?_⟩ | refine .inr ⟨by first | assumption | omega | with_reducible rfl | (refine fun h => h ?_; first | assumption | with_reducible rfl) | (simp only [List.length_append, List.length_cons, List.length_nil, List.length_set] <;> omega) | decide, ?_⟩) | ((first | refine WPA.ifBt ?_ ?_ | refine WPA.ifBnf ?_ ?_); assumption) | ((first | refine WPA.ifBnt ?_ ?_ | refine WPA.ifBf ?_ ?_); assumption) | ((first | refine WPA.ifs ?_ ?_ | refine WPA.ifB ?_ ?_) <;> intro hc))
    exact QQ.endc rfl () rfl fun w h => h.to
theorem parL_len (u : ByteArray) : (parL u).length = u.size / 3 := by unfold parL; simp
theorem stepC_bad {B O Z o : Nat} {ls : SV} {l : List Int} {pl : Option (List Int)} {x : Ct} {u' : ByteArray} (hp : p ≤ t.size) (ht : t.size ≤ 1000000000000) (ho : 1 ≤ o ∧ o ≤ 8) (hr : rdOne o (t.extract p t.size) = some (x, u'))
    (hl : (ls.a = none ∧ pl = none) ∨ (ls.a ≠ none ∧ pl = some l ∧ l.length ≤ 1000000)) (hc : chk1 o pl x.1 x.2 ≠ 0) :
    Tr Try.prog 54 #[.pointer (some ⟨B, 0, none⟩), .pointer (some ⟨O, 0, none⟩), .pointer (some ⟨Z, 0, none⟩)] (SL w0 I (StpL R B O Z o p t ls l L)) (fun _ : Unit => .tuple #[.agg #[.slice none 0 0, .int .i64 0], .bool false]) (fun _ => SL w0 I L) := by
  refine Tr.intro Try.func54 rfl Try.ntmps54 rfl ?_
  obtain ⟨v, m, h1, h2, rfl, -, h3, h4⟩ := rdOne_some hp hr
  dsimp only at hc
  have hsz := ext_size' t (p + o * 3) (by omega)
  have hks : (t.extract p (p + o * 3)).size = o * 3 := by rw [ByteArray.size_extract]; omega
  have hcast : (o : Int) * 3 = ((o * 3 : Nat) : Int) := by omega
  have hpl : ∀ {L : List HP} [RdS I L ls Int inferInstance l], (ls.a = none ∧ pl = none) ∨ ∃ l : List Int, ls.a ≠ none ∧ RdS I L ls Int inferInstance l ∧ l.length ≤ 1000000 ∧ pl = some l := fun {L} hL => hl.imp id fun h => ⟨l, h.1, hL, h.2.2, h.2.1⟩
  repeat' (first | ((rw [hcast])) | ((first | refine WLA.m rfl rfl ?_ ?_ | refine WLA.st rfl ?_ ?_ | refine WLA.x rfl rfl ?_ (fun x => ?_) | refine WLA.x0 rfl ?_ (fun x => ?_)); first | exact trivial | exact rfl | assumption | omega | (refine ⟨?_, ?_⟩ <;> omega) | (simp only [Room, List.length_set, List.length_append, List.length_cons, List.length_nil, List.length_replicate]; omega) | decide | skip) | (refine Stp.go ?_) | (guard_target =~ WLA _ _ _ _ _ (⟨_, .call ⟨.value (.func 55), _, _⟩, _, _, _, _⟩ :: _) _ _; first | (refine WLA.call rfl rfl (Raw_tr (n := o * 3) ht (by omega)) ?_; rintro ⟨⟩) | (refine WLA.call0 rfl (Raw_tr (n := o * 3) ht (by omega)) ?_; rintro ⟨⟩)) | (guard_target =~ WLA _ _ _ _ _ (⟨_, .call ⟨.value (.func 56), _, _⟩, _, _, _, _⟩ :: _) _ _; first | (refine WLA.call rfl rfl (Upto_tr (p := p + o * 3) (v := v) (m := m) (by omega) ht h2) ?_; rintro ⟨⟩) | (refine WLA.call0 rfl (Upto_tr (p := p + o * 3) (v := v) (m := m) (by omega) ht h2) ?_; rintro ⟨⟩)) | (guard_target =~ WLA _ _ _ _ _ (⟨_, .call ⟨.value (.func 57), _, _⟩, _, _, _, _⟩ :: _) _ _; refine WLA.cq rfl rfl (Err_tr) ?_) | (guard_target =~ WLA _ _ _ _ _ (⟨_, .call ⟨.value (.func 58), _, _⟩, _, _, _, _⟩ :: _) _ _; first | (refine WLA.call rfl rfl (gParse_ok (by omega) (by omega)) ?_; rintro xg) | (refine WLA.call0 rfl (gParse_ok (by omega) (by omega)) ?_; rintro xg)) | (guard_target =~ WLA _ _ _ _ _ (⟨_, .call ⟨.value (.func 40), _, _⟩, _, _, _, _⟩ :: _) _ _; first | (refine WLA.call rfl rfl (rchkR_tr hpl (by rw [parL_len]; omega) rfl (if_neg hc).symm) ?_; rintro ⟨⟩) | (refine WLA.call0 rfl (rchkR_tr hpl (by rw [parL_len]; omega) rfl (if_neg hc).symm) ?_; rintro ⟨⟩)) | (guard_target =~ WLA _ _ _ _ _ (⟨_, .call ⟨.value (.func 59), _, _⟩, _, _, _, _⟩ :: _) _ _; first | (refine WLA.call rfl rfl (Fail_tr (p := p + o * 3 + m) (by omega) ht hc) ?_; rintro ⟨⟩) | (refine WLA.call0 rfl (Fail_tr (p := p + o * 3 + m) (by omega) ht hc) ?_; rintro ⟨⟩)) | (refine WPA.ifT ?_) | (refine WPA.ifF ?_) | ((first | refine WPA.dec ?_); first | refine .inl ⟨by first | assumption | omega | with_reducible rfl | (refine fun h => h ?_; first | assumption | with_reducible rfl) | (simp only [List.length_append, List.length_cons, List.length_nil, List.length_set] <;> omega) | decide, ?_⟩ | refine .inr ⟨by first | assumption | omega | with_reducible rfl | (refine fun h => h ?_; first | assumption | with_reducible rfl) | (simp only [List.length_append, List.length_cons, List.length_nil, List.length_set] <;> omega) | decide, ?_⟩) | ((first | refine WPA.ifBt ?_ ?_ | refine WPA.ifBnf ?_ ?_); assumption) | ((first | refine WPA.ifBnt ?_ ?_ | refine WPA.ifBf ?_ ?_); assumption) | ((first | refine WPA.ifs ?_ ?_ | refine WPA.ifB ?_ ?_) <;> intro hc))
  exact QQ.endc rfl () rfl fun w h => h.to
theorem stepC_tr {B O Z o : Nat} {ls : SV} {l : List Int} {pl : Option (List Int)} {x : Ct} {u' : ByteArray} (hp : p ≤ t.size) (ht : t.size ≤ 1000000000000) (ho : 1 ≤ o ∧ o ≤ 8) (hr : rdOne o (t.extract p t.size) = some (x, u'))
    (hl : (ls.a = none ∧ pl = none) ∨ (ls.a ≠ none ∧ pl = some l ∧ l.length ≤ 1000000)) (hc : chk1 o pl x.1 x.2 = 0) :
    Tr Try.prog 54 #[.pointer (some ⟨B, 0, none⟩), .pointer (some ⟨O, 0, none⟩), .pointer (some ⟨Z, 0, none⟩)] (SL w0 I (StpL R B O Z o p t ls l L)) (fun g : SV × { p' : Nat // p' ≤ t.size ∧ u' = t.extract p' t.size } => .tuple #[.agg #[.slice g.1.a g.1.n g.1.cap, .int .i64 x.2], .bool true]) (fun g => SL w0 I (Bk R 121 (RdV t (g.2.1 : Nat) 0) :: Bk Z 23 [.slice g.1.a g.1.n g.1.cap] :: Bk O 3 [.int .i64 o] :: Bk B 82 [.pointer (some ⟨R, 0, none⟩)] :: OwnS 3 g.1 x.1 :: L)) := by
  refine Tr.intro Try.func54 rfl Try.ntmps54 rfl ?_
  obtain ⟨v, m, h1, h2, rfl, hu', h3, h4⟩ := rdOne_some hp hr
  dsimp only at hc
  have hsz := ext_size' t (p + o * 3) (by omega)
  have hks : (t.extract p (p + o * 3)).size = o * 3 := by rw [ByteArray.size_extract]; omega
  have hcast : (o : Int) * 3 = ((o * 3 : Nat) : Int) := by omega
  have hpl : ∀ {L : List HP} [RdS I L ls Int inferInstance l], (ls.a = none ∧ pl = none) ∨ ∃ l : List Int, ls.a ≠ none ∧ RdS I L ls Int inferInstance l ∧ l.length ≤ 1000000 ∧ pl = some l := fun {L} hL => hl.imp id fun h => ⟨l, h.1, hL, h.2.2, h.2.1⟩
  repeat' (first | ((rw [hcast])) | ((first | refine WLA.m rfl rfl ?_ ?_ | refine WLA.st rfl ?_ ?_ | refine WLA.x rfl rfl ?_ (fun x => ?_) | refine WLA.x0 rfl ?_ (fun x => ?_)); first | exact trivial | exact rfl | assumption | omega | (refine ⟨?_, ?_⟩ <;> omega) | (simp only [Room, List.length_set, List.length_append, List.length_cons, List.length_nil, List.length_replicate]; omega) | decide | skip) | (refine Stp.go ?_) | (guard_target =~ WLA _ _ _ _ _ (⟨_, .call ⟨.value (.func 55), _, _⟩, _, _, _, _⟩ :: _) _ _; first | (refine WLA.call rfl rfl (Raw_tr (n := o * 3) ht (by omega)) ?_; rintro ⟨⟩) | (refine WLA.call0 rfl (Raw_tr (n := o * 3) ht (by omega)) ?_; rintro ⟨⟩)) | (guard_target =~ WLA _ _ _ _ _ (⟨_, .call ⟨.value (.func 56), _, _⟩, _, _, _, _⟩ :: _) _ _; first | (refine WLA.call rfl rfl (Upto_tr (p := p + o * 3) (v := v) (m := m) (by omega) ht h2) ?_; rintro ⟨⟩) | (refine WLA.call0 rfl (Upto_tr (p := p + o * 3) (v := v) (m := m) (by omega) ht h2) ?_; rintro ⟨⟩)) | (guard_target =~ WLA _ _ _ _ _ (⟨_, .call ⟨.value (.func 57), _, _⟩, _, _, _, _⟩ :: _) _ _; refine WLA.cq rfl rfl (Err_tr) ?_) | (guard_target =~ WLA _ _ _ _ _ (⟨_, .call ⟨.value (.func 58), _, _⟩, _, _, _, _⟩ :: _) _ _; first | (refine WLA.call rfl rfl (gParse_ok (by omega) (by omega)) ?_; rintro xg) | (refine WLA.call0 rfl (gParse_ok (by omega) (by omega)) ?_; rintro xg)) | (guard_target =~ WLA _ _ _ _ _ (⟨_, .call ⟨.value (.func 40), _, _⟩, _, _, _, _⟩ :: _) _ _; first | (refine WLA.call rfl rfl (rchkR_tr hpl (by rw [parL_len]; omega) hc.symm (if_pos rfl).symm) ?_; rintro ⟨⟩) | (refine WLA.call0 rfl (rchkR_tr hpl (by rw [parL_len]; omega) hc.symm (if_pos rfl).symm) ?_; rintro ⟨⟩)) | (refine WPA.ifT ?_) | (refine WPA.ifF ?_) | ((first | refine WPA.dec ?_); first | refine .inl ⟨by first | assumption | omega | with_reducible rfl | (refine fun h => h ?_; first | assumption | with_reducible rfl) | (simp only [List.length_append, List.length_cons, List.length_nil, List.length_set] <;> omega) | decide, ?_⟩ | refine .inr ⟨by first | assumption | omega | with_reducible rfl | (refine fun h => h ?_; first | assumption | with_reducible rfl) | (simp only [List.length_append, List.length_cons, List.length_nil, List.length_set] <;> omega) | decide, ?_⟩) | ((first | refine WPA.ifBt ?_ ?_ | refine WPA.ifBnf ?_ ?_); assumption) | ((first | refine WPA.ifBnt ?_ ?_ | refine WPA.ifBf ?_ ?_); assumption) | ((first | refine WPA.ifs ?_ ?_ | refine WPA.ifB ?_ ?_) <;> intro hc))
  exact QQ.endc rfl (xg, ⟨p + o * 3 + m, h3, hu'⟩) rfl fun w h => h.to
end
end Go.Proofs.Ytbekjbgaenjbfaa
namespace Go.Proofs.Ytbekjbgaenjbfaa
open Go Go.Fw Go.RowKit
set_option linter.unusedVariables false
set_option linter.unusedSimpArgs false
set_option maxRecDepth 100000
set_option maxHeartbeats 16000000
set_option synthInstance.maxHeartbeats 200000
set_option synthInstance.maxSize 100000
attribute [local irreducible] WPA WLA WDA WDQ WDE QQ seqQ blockQ loopQ fnQ OpP OpT Tr TrP SL SLd OwnS LitS Bk BkE Ob
def TxB (m : BS) : Prop := ∀ t ∈ m.ts, t.size ≤ 65536
theorem TxB.new {size most : Int} : TxB (BS.mk size most [] [] 0 0 0) := fun t h => by cases h
theorem TxB.alloc {m : BS} (h : TxB m) : TxB m.alloc := fun t ht => by
  change t ∈ padT m.tk m.ts at ht
  unfold padT at ht
  split at ht
  · exact h t ht
  · rcases List.mem_append.1 ht with h1 | h1
    · exact h t h1
    · rw [List.mem_singleton.1 h1]; decide
theorem TxB.write {m : BS} {id : Int} {u : ByteArray} (h : TxB m) (hu : u.size ≤ 65536) : TxB (m.write id u) := fun t ht => by
  change t ∈ m.ts.set id.toNat u at ht
  rcases List.mem_or_eq_of_mem_set ht with h1 | h1
  · exact h t h1
  · rw [h1]; exact hu
theorem TxB.at {m : BS} {id : Int} (h : TxB m) (hl : m.tk.length = m.ts.length) (hh : Has m.tk id) : (at_ m.ts id).size ≤ 65536 := by
  have := hh.1
  rw [at_txt m.ts id (by omega) (by omega)]
  exact h _ (List.getElem_mem _)
def txtN (m : BS) (ids : List Int) : Nat → Option ByteArray
  | 0 => some ⟨#[]⟩
  | i + 1 => (txtN m ids i).bind fun t => if Has m.tk (ids.getD i 0) then some (t ++ at_ m.ts (ids.getD i 0)) else none
theorem txtN_no {m : BS} {ids : List Int} {i : Nat} (h : txtN m ids i = none) : ∀ n, i ≤ n → txtN m ids n = none
  | 0, h2 => by rw [Nat.le_zero.1 h2] at h; exact h
  | n + 1, h2 => by
    by_cases e : i = n + 1
    · rw [← e]; exact h
    · rw [txtN, txtN_no h n (by omega)]; rfl
theorem txtN_size {m : BS} {ids : List Int} (hb : TxB m) (hl : m.tk.length = m.ts.length) : ∀ {n : Nat} {t : ByteArray}, txtN m ids n = some t → t.size ≤ 65536 * n
  | 0, t, h => by rw [← Option.some.inj h]; decide
  | n + 1, t, h => by
    rw [txtN] at h
    obtain ⟨u, h1, h2⟩ := Option.bind_eq_some_iff.1 h
    have := txtN_size hb hl h1
    by_cases hh : Has m.tk (ids.getD n 0)
    · rw [if_pos hh] at h2
      have h3 := hb.at hl hh
      rw [← Option.some.inj h2, ByteArray.size_append]; omega
    · rw [if_neg hh] at h2; cases h2
def txE (o : Option ByteArray) : Int := if o.isSome then 0 else 7
section
variable {S : Nat} {m : BS} {L L' : List HP} {w0 : World} {I : Foot}
theorem bytes_tr {b : SV} {ids : List Int} [h : FindK L StoreR S m L'] (hs : SlI I b Int inferInstance ids) (hl : m.tk.length = m.ts.length) (hb : TxB m) (hn : ids.length ≤ 1000000) :
    Tr Try.prog 33 #[.pointer (some ⟨S, 0, none⟩), .slice b.a b.n b.cap] (SL w0 I L) (fun _ : Unit => .tuple #[.string ((txtN m ids ids.length).getD ⟨#[]⟩), .int .i64 (txE (txtN m ids ids.length))]) (fun _ => SL w0 I (StoreR S m :: L')) := by
  refine Tr.at h.out ?_
  refine Tr.intro Try.func33 rfl Try.ntmps33 rfl ?_
  repeat' (first | ((first | refine WLA.m rfl rfl ?_ ?_ | refine WLA.st rfl ?_ ?_ | refine WLA.x rfl rfl ?_ (fun x => ?_) | refine WLA.x0 rfl ?_ (fun x => ?_)); first | exact trivial | exact rfl | assumption | omega | (refine ⟨?_, ?_⟩ <;> omega) | (simp only [Room, List.length_set, List.length_append, List.length_cons, List.length_nil, List.length_replicate]; omega) | decide | skip) | (refine Stp.go ?_) | (refine WPA.ifT ?_) | (refine WPA.ifF ?_) | ((first | refine WPA.dec ?_); first | refine .inl ⟨by first | assumption | omega | with_reducible rfl | (refine fun h => h ?_; first | assumption | with_reducible rfl) | (simp only [List.length_append, List.length_cons, List.length_nil, List.length_set] <;> omega) | decide, ?_⟩ | refine .inr ⟨by first | assumption | omega | with_reducible rfl | (refine fun h => h ?_; first | assumption | with_reducible rfl) | (simp only [List.length_append, List.length_cons, List.length_nil, List.length_set] <;> omega) | decide, ?_⟩) | ((first | refine WPA.ifBt ?_ ?_ | refine WPA.ifBnf ?_ ?_); assumption) | ((first | refine WPA.ifBnt ?_ ?_ | refine WPA.ifBf ?_ ?_); assumption) | ((first | refine WPA.ifs ?_ ?_ | refine WPA.ifB ?_ ?_) <;> intro hc))
  revert x; intro B
  refine WPA.ent (L' := BldR B ⟨#[]⟩ :: StoreR S m :: L') BldR.new ?_
  refine WPA.loopS (σ := Nat × ByteArray) (fun y => [(0, .pointer (some ⟨S, 0, none⟩)), (1, .slice b.a b.n b.cap), (6, .pointer (some ⟨B, 0, none⟩)), (11, .slice b.a b.n b.cap), (12, .int .i64 ids.length), (13, .int .i64 y.1)]) (fun y => y.1 ≤ ids.length ∧ txtN m ids y.1 = some y.2) (fun y => SL w0 I (BldR B y.2 :: StoreR S m :: L')) (fun y => ids.length - y.1) (0, ⟨#[]⟩) ⟨rfl, rfl, rfl, rfl, rfl, rfl, trivial⟩ ⟨Nat.zero_le _, rfl⟩ (fun w h => h.to) ?_
  rintro ⟨i, t⟩ ρ ⟨hi, ht⟩
  dsimp only at hi ht ⊢
  by_cases hil : i < ids.length
  · have hil' : (0 : Int) ≤ i ∧ (i : Int) < ids.length := by omega
    have hlt : (i : Int) < ids.length := by omega
    have hsz := txtN_size hb hl ht
    have hat : at_ ids (i : Int) = ids.getD i 0 := by rw [at_nat ids i hil, List.getD_eq_getElem?_getD, List.getElem?_eq_getElem hil]; rfl
    have hnx : txtN m ids (i + 1) = if Has m.tk (ids.getD i 0) then some (t ++ at_ m.ts (ids.getD i 0)) else none := by rw [txtN, ht]; rfl
    rw [← hat] at hnx
    obtain ⟨id, hid⟩ : ∃ id : Int, at_ ids (i : Int) = id := ⟨_, rfl⟩
    rw [hid] at hnx
    by_cases hh : Has m.tk id
    · have h3 := hb.at hl hh
      rw [if_pos hh] at hnx
      repeat' (first | ((rw [hid])) | ((first | refine WLA.m rfl rfl ?_ ?_ | refine WLA.st rfl ?_ ?_ | refine WLA.x rfl rfl ?_ (fun x => ?_) | refine WLA.x0 rfl ?_ (fun x => ?_)); first | exact trivial | exact rfl | assumption | omega | (refine ⟨?_, ?_⟩ <;> omega) | (simp only [Room, List.length_set, List.length_append, List.length_cons, List.length_nil, List.length_replicate]; omega) | decide | skip) | (refine Stp.go ?_) | (guard_target =~ WLA _ _ _ _ _ (⟨_, .call ⟨.value (.func 25), _, _⟩, _, _, _, _⟩ :: _) _ _; first | (refine WLA.call rfl rfl (Read_tr hh) ?_; rintro ⟨⟩) | (refine WLA.call0 rfl (Read_tr hh) ?_; rintro ⟨⟩)) | (guard_target =~ WLA _ _ _ _ _ (⟨_, .call ⟨.value (.func 52), _, _⟩, _, _, _, _⟩ :: _) _ _; first | (refine WLA.call rfl rfl (WriteString_tr (by omega)) ?_; rintro ⟨⟩) | (refine WLA.call0 rfl (WriteString_tr (by omega)) ?_; rintro ⟨⟩)) | (refine WPA.ifT ?_) | (refine WPA.ifF ?_) | ((first | refine WPA.dec ?_); first | refine .inl ⟨by first | assumption | omega | with_reducible rfl | (refine fun h => h ?_; first | assumption | with_reducible rfl) | (simp only [List.length_append, List.length_cons, List.length_nil, List.length_set] <;> omega) | decide, ?_⟩ | refine .inr ⟨by first | assumption | omega | with_reducible rfl | (refine fun h => h ?_; first | assumption | with_reducible rfl) | (simp only [List.length_append, List.length_cons, List.length_nil, List.length_set] <;> omega) | decide, ?_⟩) | ((first | refine WPA.ifBt ?_ ?_ | refine WPA.ifBnf ?_ ?_); assumption) | ((first | refine WPA.ifBnt ?_ ?_ | refine WPA.ifBf ?_ ?_); assumption) | ((first | refine WPA.ifs ?_ ?_ | refine WPA.ifB ?_ ?_) <;> intro hc))
      exact QQ.loopS (i + 1, t ++ at_ m.ts id) ⟨rfl, rfl, rfl, rfl, rfl, rfl, trivial⟩ ⟨hil, hnx⟩ (by dsimp only; omega) (fun w h => h.to)
    · rw [if_neg hh] at hnx
      rw [txtN_no hnx ids.length hil]
      repeat' (first | ((rw [hid])) | ((first | refine WLA.m rfl rfl ?_ ?_ | refine WLA.st rfl ?_ ?_ | refine WLA.x rfl rfl ?_ (fun x => ?_) | refine WLA.x0 rfl ?_ (fun x => ?_)); first | exact trivial | exact rfl | assumption | omega | (refine ⟨?_, ?_⟩ <;> omega) | (simp only [Room, List.length_set, List.length_append, List.length_cons, List.length_nil, List.length_replicate]; omega) | decide | skip) | (refine Stp.go ?_) | (guard_target =~ WLA _ _ _ _ _ (⟨_, .call ⟨.value (.func 25), _, _⟩, _, _, _, _⟩ :: _) _ _; first | (refine WLA.call rfl rfl (Read_no hh) ?_; rintro ⟨⟩) | (refine WLA.call0 rfl (Read_no hh) ?_; rintro ⟨⟩)) | (refine WPA.ifT ?_) | (refine WPA.ifF ?_) | ((first | refine WPA.dec ?_); first | refine .inl ⟨by first | assumption | omega | with_reducible rfl | (refine fun h => h ?_; first | assumption | with_reducible rfl) | (simp only [List.length_append, List.length_cons, List.length_nil, List.length_set] <;> omega) | decide, ?_⟩ | refine .inr ⟨by first | assumption | omega | with_reducible rfl | (refine fun h => h ?_; first | assumption | with_reducible rfl) | (simp only [List.length_append, List.length_cons, List.length_nil, List.length_set] <;> omega) | decide, ?_⟩) | ((first | refine WPA.ifBt ?_ ?_ | refine WPA.ifBnf ?_ ?_); assumption) | ((first | refine WPA.ifBnt ?_ ?_ | refine WPA.ifBf ?_ ?_); assumption) | ((first | refine WPA.ifs ?_ ?_ | refine WPA.ifB ?_ ?_) <;> intro hc))
      exact QQ.end_ rfl () rfl fun w h => h.to
  · have hlt : ¬ (i : Int) < ids.length := by omega
    have hie : i = ids.length := by omega
    subst hie
    rw [ht]
    repeat' (first | ((first | refine WLA.m rfl rfl ?_ ?_ | refine WLA.st rfl ?_ ?_ | refine WLA.x rfl rfl ?_ (fun x => ?_) | refine WLA.x0 rfl ?_ (fun x => ?_)); first | exact trivial | exact rfl | assumption | omega | (refine ⟨?_, ?_⟩ <;> omega) | (simp only [Room, List.length_set, List.length_append, List.length_cons, List.length_nil, List.length_replicate]; omega) | decide | skip) | (refine Stp.go ?_) | (guard_target =~ WLA _ _ _ _ _ (⟨_, .call ⟨.value (.func 53), _, _⟩, _, _, _, _⟩ :: _) _ _; first | (refine WLA.call rfl rfl (BString_tr) ?_; rintro ⟨⟩) | (refine WLA.call0 rfl (BString_tr) ?_; rintro ⟨⟩)) | (refine WPA.ifT ?_) | (refine WPA.ifF ?_) | ((first | refine WPA.dec ?_); first | refine .inl ⟨by first | assumption | omega | with_reducible rfl | (refine fun h => h ?_; first | assumption | with_reducible rfl) | (simp only [List.length_append, List.length_cons, List.length_nil, List.length_set] <;> omega) | decide, ?_⟩ | refine .inr ⟨by first | assumption | omega | with_reducible rfl | (refine fun h => h ?_; first | assumption | with_reducible rfl) | (simp only [List.length_append, List.length_cons, List.length_nil, List.length_set] <;> omega) | decide, ?_⟩) | ((first | refine WPA.ifBt ?_ ?_ | refine WPA.ifBnf ?_ ?_); assumption) | ((first | refine WPA.ifBnt ?_ ?_ | refine WPA.ifBf ?_ ?_); assumption) | ((first | refine WPA.ifs ?_ ?_ | refine WPA.ifB ?_ ?_) <;> intro hc))
    exact QQ.end_ rfl () rfl fun w h => h.to
end
end Go.Proofs.Ytbekjbgaenjbfaa
namespace Go.Proofs.Ytbekjbgaenjbfaa
open Go Go.Fw Go.RowKit
set_option linter.unusedVariables false
set_option linter.unusedSimpArgs false
set_option maxRecDepth 100000
set_option maxHeartbeats 16000000
set_option synthInstance.maxHeartbeats 200000
set_option synthInstance.maxSize 100000
attribute [local irreducible] WPA WLA WDA WDQ WDE QQ seqQ blockQ loopQ fnQ OpP OpT Tr TrP SL SLd OwnS LitS Bk BkE Ob
attribute [local irreducible] vS keyS parL RowH
theorem rdN_no {o : Nat} {u : ByteArray} {i : Nat} (h : rdN o u i = none) : ∀ n, i ≤ n → rdN o u n = none
  | 0, h2 => by rw [Nat.le_zero.1 h2] at h; exact h
  | n + 1, h2 => by
    by_cases e : i = n + 1
    · rw [← e]; exact h
    · rw [rdN, rdN_no h n (by omega)]; rfl
theorem rdN_pre {o : Nat} {u r : ByteArray} {ms : List Ct} {i : Nat} (h : rdN o u i = some (ms, r)) (hl : ms.length = i) : ∀ n, i ≤ n → ∀ q, rdN o u n = some q → ∃ l, q.1 = ms ++ l
  | 0, h2, q, hq => by
    have e := Nat.le_zero.1 h2
    subst e
    rw [h] at hq
    rw [← Option.some.inj hq]; exact ⟨[], by simp⟩
  | n + 1, h2, q, hq => by
    by_cases e : i = n + 1
    · subst e
      rw [h] at hq
      rw [← Option.some.inj hq]; exact ⟨[], by simp⟩
    · rw [rdN] at hq
      obtain ⟨q1, h3, h4⟩ := Option.bind_eq_some_iff.1 hq
      obtain ⟨x, h5, h6⟩ := Option.map_eq_some_iff.1 h4
      obtain ⟨l, hl2⟩ := rdN_pre h hl n (by omega) q1 h3
      exact ⟨l ++ [x.1], by rw [← h6, hl2, List.append_assoc]⟩
def readS (o len : Int) (u : ByteArray) : Option (List Ct) := (rdN o.toNat u len.toNat).bind fun q => if q.2.size = 0 ∧ wrong o q.1 = 0 then some q.1 else none
theorem wrE_pre {o : Int} {ms l : List Ct} {i : Nat} (h : i < ms.length) : wrE o (ms ++ l) i = wrE o ms i := by
  unfold wrE prvG
  have e : ∀ j, j < ms.length → (ms ++ l).getD j ([], 0) = ms.getD j ([], 0) := fun j hj => by rw [List.getD_eq_getElem?_getD, List.getD_eq_getElem?_getD, List.getElem?_append_left hj]
  rw [e i h, e (i - 1) (by omega)]
theorem fst_pre {o : Int} {ms l : List Ct} : fstN (wrE o (ms ++ l)) ms.length = fstN (wrE o ms) ms.length := fstN_ext fun _ hi => wrE_pre hi
theorem readS_bad {o len : Int} {u r : ByteArray} {ms : List Ct} {i : Nat} (ho : 1 ≤ o ∧ o ≤ 8) (h : rdN o.toNat u i = some (ms, r)) (hl : ms.length = i) (hi : i ≤ len.toNat) (hb : fstN (wrE o ms) ms.length ≠ 0) : readS o len u = none := by
  unfold readS
  cases hq : rdN o.toNat u len.toNat with
  | none => rfl
  | some q =>
    obtain ⟨l, e⟩ := rdN_pre h hl _ hi q hq
    have hw : wrong o q.1 ≠ 0 := by
      unfold wrong
      rw [if_neg (by omega), e]
      intro h0
      apply hb
      rw [← fst_pre (l := l)]
      exact Classical.byContradiction fun h1 => by
        have hz := fstN_zero h0
        have : ∀ i, i < ms.length → wrE o (ms ++ l) i = 0 := fun i hi => hz i (by rw [List.length_append]; omega)
        have h2 : ∀ n, n ≤ ms.length → fstN (wrE o (ms ++ l)) n = 0 := by
          intro n
          induction n with
          | zero => intro _; rfl
          | succ n ih => intro hn; rw [fstN_succ (ih (by omega)), this n (by omega)]
        exact h1 (h2 _ (Nat.le_refl _))
    show (if q.2.size = 0 ∧ wrong o q.1 = 0 then some q.1 else none) = none
    rw [if_neg (fun h => hw h.2)]
theorem prv_snoc {ms : List Ct} {x : Ct} : prvG (ms ++ [x]) ms.length = if ms.length = 0 then none else some (ms.getD (ms.length - 1) ([], 0)).1 := by
  unfold prvG
  by_cases h : ms.length = 0
  · rw [if_pos h, if_pos h]
  · rw [if_neg h, if_neg h, List.getD_eq_getElem?_getD, List.getElem?_append_left (by omega), ← List.getD_eq_getElem?_getD]
theorem wrE_snoc {o : Int} {ms : List Ct} {x : Ct} {pl : Option (List Int)} (h : pl = prvG (ms ++ [x]) ms.length) : wrE o (ms ++ [x]) ms.length = chk1 o pl x.1 x.2 := by
  unfold wrE
  rw [← h, List.getD_eq_getElem?_getD, List.getElem?_append_right (Nat.le_refl _), Nat.sub_self]; rfl
theorem WPA.aptrR {ro : Option Nat} {P : Program} {n : Nat} {Q : Hnd} {ρ : Env} {w0 : World} {I : Foot} {L : List HP} {c : Code} {s : SV} {l : List Int} [h : RdS I L s Int inferInstance l] (k : (1 ≤ l.length → s.a ≠ none) → WPA ro P n c Q ρ (SL w0 I L)) : WPA ro P n c Q ρ (SL w0 I L) :=
  WPA.ofEx (τ := { _u : Unit // 1 ≤ l.length → s.a ≠ none }) (B := fun _ => SL w0 I L) (fun w hA => ⟨⟨(), fun hl => by
    have h1 := h.out w0 w hA
    rcases h1.plain with h2 | ⟨b, o, h2⟩
    · have := h1.len; omega
    · rw [h2]; exact fun h => by cases h⟩, hA⟩) fun x => k x.2
structure QS where
  ms : List Ct
  qs : List Pe
  p : Nat
  ls : SV
  l : List Int
  x : SV
section
variable {S : Nat} {m : BS} {L L' : List HP} {w0 : World} {I : Foot}
theorem runRead_nil {o n : Int} {b : SV} : Tr Try.prog 13 #[.pointer none, .agg #[.int .i64 o, .int .i64 n, .slice b.a b.n b.cap]] (SL w0 I L) (fun _ : Unit => .tuple #[.slice none 0 0, .int .i64 11]) (fun _ => SL w0 I L) := by
  refine Tr.intro Try.func13 rfl Try.ntmps13 rfl ?_
  repeat' (first | ((first | refine WLA.m rfl rfl ?_ ?_ | refine WLA.st rfl ?_ ?_ | refine WLA.x rfl rfl ?_ (fun x => ?_) | refine WLA.x0 rfl ?_ (fun x => ?_)); first | exact trivial | exact rfl | assumption | omega | (refine ⟨?_, ?_⟩ <;> omega) | (simp only [Room, List.length_set, List.length_append, List.length_cons, List.length_nil, List.length_replicate]; omega) | decide | skip) | (refine Stp.go ?_) | (refine WPA.ifT ?_) | (refine WPA.ifF ?_) | ((first | refine WPA.dec ?_); first | refine .inl ⟨by first | assumption | omega | with_reducible rfl | (refine fun h => h ?_; first | assumption | with_reducible rfl) | (simp only [List.length_append, List.length_cons, List.length_nil, List.length_set] <;> omega) | decide, ?_⟩ | refine .inr ⟨by first | assumption | omega | with_reducible rfl | (refine fun h => h ?_; first | assumption | with_reducible rfl) | (simp only [List.length_append, List.length_cons, List.length_nil, List.length_set] <;> omega) | decide, ?_⟩) | ((first | refine WPA.ifBt ?_ ?_ | refine WPA.ifBnf ?_ ?_); assumption) | ((first | refine WPA.ifBnt ?_ ?_ | refine WPA.ifBf ?_ ?_); assumption) | ((first | refine WPA.ifs ?_ ?_ | refine WPA.ifB ?_ ?_) <;> intro hc))
  exact QQ.end_ rfl () rfl fun w h => h.to
end
end Go.Proofs.Ytbekjbgaenjbfaa
namespace Go.Proofs.Ytbekjbgaenjbfaa
open Go Go.Fw Go.RowKit
set_option linter.unusedVariables false
set_option linter.unusedSimpArgs false
set_option maxRecDepth 100000
set_option maxHeartbeats 16000000
set_option synthInstance.maxHeartbeats 200000
set_option synthInstance.maxSize 100000
attribute [local irreducible] WPA WLA WDA WDQ WDE QQ seqQ blockQ loopQ fnQ OpP OpT Tr TrP SL SLd OwnS LitS Bk BkE Ob
attribute [local irreducible] vS keyS parL RowH
def CtsH (x : SV) (ms : List Ct) : HP := exH fun qs : List Pe => pureH (qs.map Prod.snd = ms.map Prod.snd) (star (OwnS 67 x qs) (RowH 3 (qs.map Prod.fst) (ms.map Prod.fst)))
theorem CtsH.fold {x : SV} {ms : List Ct} {qs : List Pe} {L : List HP} (h : qs.map Prod.snd = ms.map Prod.snd) : Ent (OwnS 67 x qs :: RowH 3 (qs.map Prod.fst) (ms.map Prod.fst) :: L) (CtsH x ms :: L) := Ent.ex qs (Ent.pure h (Ent.star Ent.refl))
theorem CtsH.nil {L : List HP} : Ent L (CtsH SV.nil [] :: L) := (Ent.ownNil (α := Pe) (t := 67) (RowH.nil (α := Int) (e := 3))).trans (CtsH.fold (qs := []) (ms := []) rfl)
def rdE (o : Option (List Ct)) : Int := if o.isSome then 0 else 3
section
variable {S : Nat} {m : BS} {L L' : List HP} {w0 : World} {I : Foot}
theorem runRead_tr {o n : Int} {b : SV} {ids : List Int} {T : ByteArray} {res : Option (List Ct)} [h : FindK L StoreR S m L'] (ho : (1 ≤ o ∧ o ≤ 8) ∧ 0 ≤ n) (hs : SlI I b Int inferInstance ids) (hl : m.tk.length = m.ts.length) (hb : TxB m) (hn : ids.length ≤ 1000000) (ht : txtN m ids ids.length = some T) (hr : readS o n T = res) :
    Tr Try.prog 13 #[.pointer (some ⟨S, 0, none⟩), .agg #[.int .i64 o, .int .i64 n, .slice b.a b.n b.cap]] (SL w0 I L) (fun x : SV => .tuple #[.slice x.a x.n x.cap, .int .i64 (rdE res)]) (fun x => SL w0 I (CtsH x (res.getD []) :: StoreR S m :: L')) := by
  refine Tr.at h.out ?_
  refine Tr.intro Try.func13 rfl Try.ntmps13 rfl ?_
  have hd : decide (1 ≤ o ∧ o ≤ 8) = true := decide_eq_true ho.1
  have hn0 : ¬ n < 0 := by omega
  have hbt : (!true) = false := rfl
  have hTs := txtN_size hb hl ht
  have hTb : T.size ≤ 65536000000 := by omega
  have hby : ∀ {L L' : List HP} [FindK L StoreR S m L'], Tr Try.prog 33 #[.pointer (some ⟨S, 0, none⟩), .slice b.a b.n b.cap] (SL w0 I L) (fun _ : Unit => .tuple #[.string T, .int .i64 0]) (fun _ => SL w0 I (StoreR S m :: L')) := by
    intro L L' _
    have := bytes_tr (S := S) (m := m) (L := L) (L' := L') (w0 := w0) hs hl hb hn
    rw [ht] at this
    exact this
  have hop : ∀ {L : List HP}, Tr Try.prog 34 #[.string T] (SL w0 I L) (fun R : Nat => .pointer (some ⟨R, 0, none⟩)) (fun R => SL w0 I (Bk R 121 (RdV T ((0 : Nat) : Int) 0) :: L)) := Open_tr
  have hfull := ext_full' T
  repeat' (first | ((rw [hd])) | ((rw [hbt])) | ((first | refine WLA.m rfl rfl ?_ ?_ | refine WLA.st rfl ?_ ?_ | refine WLA.x rfl rfl ?_ (fun x => ?_) | refine WLA.x0 rfl ?_ (fun x => ?_)); first | exact trivial | exact rfl | assumption | omega | (refine ⟨?_, ?_⟩ <;> omega) | (simp only [Room, List.length_set, List.length_append, List.length_cons, List.length_nil, List.length_replicate]; omega) | decide | skip) | (refine Stp.go ?_) | (guard_target =~ WLA _ _ _ _ _ (⟨_, .call ⟨.value (.func 32), _, _⟩, _, _, _, _⟩ :: _) _ _; refine WLA.cq rfl rfl (order_tr) ?_) | (guard_target =~ WLA _ _ _ _ _ (⟨_, .call ⟨.value (.func 33), _, _⟩, _, _, _, _⟩ :: _) _ _; first | (refine WLA.call rfl rfl (hby) ?_; rintro ⟨⟩) | (refine WLA.call0 rfl (hby) ?_; rintro ⟨⟩)) | (guard_target =~ WLA _ _ _ _ _ (⟨_, .call ⟨.value (.func 34), _, _⟩, _, _, _, _⟩ :: _) _ _; first | (refine WLA.call rfl rfl (hop) ?_; rintro R) | (refine WLA.call0 rfl (hop) ?_; rintro R)) | (guard_target =~ WLA _ _ _ _ _ (⟨_, .call ⟨.value (.func 35), _, _⟩, _, _, _, _⟩ :: _) _ _; first | (refine WLA.call rfl rfl (steps_tr) ?_; rintro ⟨B, O, Z⟩) | (refine WLA.call0 rfl (steps_tr) ?_; rintro ⟨B, O, Z⟩)) | (refine WPA.ifT ?_) | (refine WPA.ifF ?_) | (refine WLA.no rfl rfl ?_) | ((first | refine WPA.dec ?_ | ((fail_if_success (guard_target =~ WLA _ _ _ _ _ _ (put1 _ _ (.bool true)) _)); (fail_if_success (guard_target =~ WLA _ _ _ _ _ _ (put1 _ _ (.bool false)) _)); refine WLA.dec rfl rfl ?_) | refine WLA.pk ?_); first | refine .inl ⟨by first | assumption | omega | with_reducible rfl | (refine fun h => h ?_; first | assumption | with_reducible rfl) | (simp only [List.length_append, List.length_cons, List.length_nil, List.length_set] <;> omega) | decide, ?_⟩ | refine .inr ⟨by first | assumption | omega | with_reducible rfl | (refine fun h => h ?_; first | assumption | with_reducible rfl) | (simp only [List.length_append, List.length_cons, List.length_nil, List.length_set] <;> omega) | decide, ?_⟩) | ((first | refine WPA.ifBt ?_ ?_ | refine WPA.ifBnf ?_ ?_); assumption) | ((first | refine WPA.ifBnt ?_ ?_ | refine WPA.ifBf ?_ ?_); assumption) | ((first | refine WPA.ifs ?_ ?_ | refine WPA.ifB ?_ ?_) <;> intro hc) | ((fail_if_success (guard_target =~ WLA _ _ _ _ _ _ (put1 _ _ (.bool true)) _)); (fail_if_success (guard_target =~ WLA _ _ _ _ _ _ (put1 _ _ (.bool false)) _)); (first | refine WLA.both rfl rfl ?_ ?_ | refine WLA.bothB rfl rfl ?_ ?_) <;> intro hg))
  revert x; intro X
  dsimp only
  obtain ⟨ou, rfl⟩ : ∃ ou : Nat, o = (ou : Int) := ⟨o.toNat, by omega⟩
  obtain ⟨nu, rfl⟩ : ∃ nu : Nat, n = (nu : Int) := ⟨n.toNat, by omega⟩
  refine WPA.ent (L' := OwnS 67 SV.nil ([] : List Pe) :: RowH 3 [] ([] : List (List Int)) :: OwnS 3 SV.nil ([] : List Int) :: Bk Z 23 [.slice none 0 0] :: Bk O 3 [.int .i64 ou] :: Bk B 82 [.pointer (some ⟨R, 0, none⟩)] :: Bk R 121 (RdV T ((0 : Nat) : Int) 0) :: Bk X 25 [.int .i64 ou, .int .i64 nu, .slice b.a b.n b.cap] :: StoreR S m :: L') ?_ ?_
  · exact Ent.ownNil ((Ent.ownNil (α := Int) (t := 3) EntC.out).trans (RowH.nil (α := Int) (e := 3)))
  refine WPA.loopS (σ := QS) (fun y => [(0, .pointer (some ⟨S, 0, none⟩)), (3, .pointer (some ⟨X, 0, none⟩)), (8, .pointer (some ⟨R, 0, none⟩)), (9, .func (.func 54) #[] #[.pointer (some ⟨B, 0, none⟩), .pointer (some ⟨O, 0, none⟩), .pointer (some ⟨Z, 0, none⟩)]), (10, .slice y.x.a y.x.n y.x.cap)])
    (fun y => (y.qs.map Prod.snd = y.ms.map Prod.snd ∧ y.p ≤ T.size ∧ y.ms.length ≤ y.p ∧ y.ms.length ≤ nu) ∧ rdN ou T y.ms.length = some (y.ms, T.extract y.p T.size) ∧ fstN (wrE ou y.ms) y.ms.length = 0 ∧ (y.ms.length = 0 → y.ls = SV.nil) ∧ (0 < y.ms.length → y.l = (y.ms.getD (y.ms.length - 1) ([], 0)).1))
    (fun y => SL w0 I (Bk R 121 (RdV T (y.p : Nat) 0) :: Bk Z 23 [.slice y.ls.a y.ls.n y.ls.cap] :: Bk O 3 [.int .i64 ou] :: Bk B 82 [.pointer (some ⟨R, 0, none⟩)] :: OwnS 3 y.ls y.l :: OwnS 67 y.x y.qs :: RowH 3 (y.qs.map Prod.fst) (y.ms.map Prod.fst) :: Bk X 25 [.int .i64 ou, .int .i64 nu, .slice b.a b.n b.cap] :: StoreR S m :: L')) (fun y => nu - y.ms.length) ⟨[], [], 0, SV.nil, [], SV.nil⟩ ⟨rfl, rfl, rfl, rfl, rfl, trivial⟩ ⟨⟨rfl, Nat.zero_le _, Nat.le_refl _, Nat.zero_le _⟩, by show some (([] : List Ct), T) = some ([], T.extract 0 T.size); rw [hfull], rfl, fun _ => rfl, fun h => absurd h (Nat.lt_irrefl 0)⟩ (fun w h => (h.to : SL w0 I (Bk R 121 (RdV T ((0 : Nat) : Int) 0) :: Bk Z 23 [.slice none 0 0] :: Bk O 3 [.int .i64 ou] :: Bk B 82 [.pointer (some ⟨R, 0, none⟩)] :: OwnS 3 SV.nil ([] : List Int) :: OwnS 67 SV.nil ([] : List Pe) :: RowH 3 [] ([] : List (List Int)) :: Bk X 25 [.int .i64 ou, .int .i64 nu, .slice b.a b.n b.cap] :: StoreR S m :: L') w)) ?_
  rintro ⟨ms, qs, p, ls, l, x⟩ ρ ⟨⟨hq, hp, hip, hin⟩, hrd, hz, hl0, hl1⟩
  dsimp only at hq hp hip hin hrd hz hl0 hl1 ⊢
  have hql : qs.length = ms.length := by have := congrArg List.length hq; simpa using this
  by_cases hlt : ms.length < nu
  · have hlt' : (qs.length : Int) < nu := by omega
    refine WPA.aptrR (s := ls) (l := l) fun hap => ?_
    have hprv : ∀ y : Ct, prvG (ms ++ [y]) ms.length = if ms.length = 0 then none else some l := fun y => by
      rw [prv_snoc]
      by_cases h0 : ms.length = 0
      · rw [if_pos h0, if_pos h0]
      · rw [if_neg h0, if_neg h0, hl1 (by omega)]
    have hgood := wr_take hz
    rw [List.take_length] at hgood
    have hll : 0 < ms.length → (l.length : Int) = ou := fun h0 => by
      rw [hl1 h0]
      refine (hgood _ ?_).1
      rw [List.getD_eq_getElem?_getD, List.getElem?_eq_getElem (by omega)]; exact List.getElem_mem _
    have hpl : (ls.a = none ∧ (if ms.length = 0 then none else some l) = none) ∨ (ls.a ≠ none ∧ (if ms.length = 0 then none else some l) = some l ∧ l.length ≤ 1000000) := by
      by_cases h0 : ms.length = 0
      · exact .inl ⟨by rw [hl0 h0]; rfl, if_pos h0⟩
      · have := hll (by omega)
        exact .inr ⟨hap (by omega), if_neg h0, by omega⟩
    have hnx : rdN ou T (ms.length + 1) = (rdOne ou (T.extract p T.size)).map fun r => (ms ++ [r.1], r.2) := by rw [rdN, hrd]; rfl
    cases hone : rdOne ou (T.extract p T.size) with
    | none =>
      rw [hone] at hnx
      have hres : res = none := by
        rw [← hr]; unfold readS
        rw [Int.toNat_natCast, Int.toNat_natCast, rdN_no hnx nu hlt]; rfl
      subst hres
      repeat' (first | ((first | refine WLA.m rfl rfl ?_ ?_ | refine WLA.st rfl ?_ ?_ | refine WLA.x rfl rfl ?_ (fun x => ?_) | refine WLA.x0 rfl ?_ (fun x => ?_)); first | exact trivial | exact rfl | assumption | omega | (refine ⟨?_, ?_⟩ <;> omega) | (simp only [Room, List.length_set, List.length_append, List.length_cons, List.length_nil, List.length_replicate]; omega) | decide | skip) | (refine Stp.go ?_) | (guard_target =~ WLA _ _ _ _ _ (⟨_, .call ⟨.value (.tmp _), _, _⟩, _, _, _, _⟩ :: _) _ _; refine WLA.callV rfl rfl (stepC_none hp (by omega) (by omega) hone) ?_; rintro ⟨⟩) | (refine WPA.ifT ?_) | (refine WPA.ifF ?_) | ((first | refine WPA.dec ?_); first | refine .inl ⟨by first | assumption | omega | with_reducible rfl | (refine fun h => h ?_; first | assumption | with_reducible rfl) | (simp only [List.length_append, List.length_cons, List.length_nil, List.length_set] <;> omega) | decide, ?_⟩ | refine .inr ⟨by first | assumption | omega | with_reducible rfl | (refine fun h => h ?_; first | assumption | with_reducible rfl) | (simp only [List.length_append, List.length_cons, List.length_nil, List.length_set] <;> omega) | decide, ?_⟩) | ((first | refine WPA.ifBt ?_ ?_ | refine WPA.ifBnf ?_ ?_); assumption) | ((first | refine WPA.ifBnt ?_ ?_ | refine WPA.ifBf ?_ ?_); assumption) | ((first | refine WPA.ifs ?_ ?_ | refine WPA.ifB ?_ ?_) <;> intro hc))
      exact QQ.end_ rfl SV.nil rfl fun w h => CtsH.nil.sl (h.to : SL w0 I (StoreR S m :: L') w)
    | some xu =>
      obtain ⟨y, u'⟩ := xu
      rw [hone] at hnx
      have hnx2 : rdN ou T (ms.length + 1) = some (ms ++ [y], u') := hnx
      have hsn := wrE_snoc (o := ou) (ms := ms) (x := y) (hprv y).symm
      by_cases hc : chk1 ou (if ms.length = 0 then none else some l) y.1 y.2 = 0
      · have hcz := chk1_zero hc
        have hroom : Room (qs.length + 1) 32 := ⟨by omega, by omega⟩
        repeat' (first | ((first | refine WLA.m rfl rfl ?_ ?_ | refine WDQ.m rfl rfl ?_ ?_ | refine WLA.st rfl ?_ ?_ | refine WLA.x rfl rfl ?_ (fun x => ?_) | refine WLA.x0 rfl ?_ (fun x => ?_)); first | exact trivial | exact rfl | assumption | omega | (refine ⟨?_, ?_⟩ <;> omega) | (simp only [Room, List.length_set, List.length_append, List.length_cons, List.length_nil, List.length_replicate]; omega) | decide | skip) | (refine Stp.go ?_) | (guard_target =~ WLA _ _ _ _ _ (⟨_, .call ⟨.value (.tmp _), _, _⟩, _, _, _, _⟩ :: _) _ _; refine WLA.callV rfl rfl (stepC_tr hp (by omega) (by omega) hone hpl hc) ?_; rintro ⟨g, ⟨p', hp', hu'⟩⟩; dsimp only) | (guard_target =~ WLA _ _ _ _ _ (⟨_, .call ⟨.value (.func 36), _, _⟩, _, _, _, _⟩ :: _) _ _; first | (refine WLA.call rfl rfl (Clone_tr (xs := y.1) (by omega)) ?_; rintro c) | (refine WLA.call0 rfl (Clone_tr (xs := y.1) (by omega)) ?_; rintro c)) | (refine WPA.ifT ?_) | (refine WPA.ifF ?_) | ((first | refine WPA.dec ?_); first | refine .inl ⟨by first | assumption | omega | with_reducible rfl | (refine fun h => h ?_; first | assumption | with_reducible rfl) | (simp only [List.length_append, List.length_cons, List.length_nil, List.length_set] <;> omega) | decide, ?_⟩ | refine .inr ⟨by first | assumption | omega | with_reducible rfl | (refine fun h => h ?_; first | assumption | with_reducible rfl) | (simp only [List.length_append, List.length_cons, List.length_nil, List.length_set] <;> omega) | decide, ?_⟩) | ((first | refine WPA.ifBt ?_ ?_ | refine WPA.ifBnf ?_ ?_); assumption) | ((first | refine WPA.ifBnt ?_ ?_ | refine WPA.ifBf ?_ ?_); assumption) | ((first | refine WPA.ifs ?_ ?_ | refine WPA.ifB ?_ ?_) <;> intro hc) | (guard_target =~ WPA _ _ _ (.region 15 _ true) _ _ _; refine WPA.drawT 8 (.q 0 (.q 1 (.q 2 (.q 4 (.q 5 (.e 3 (.q 6 (.e 7 .fin)))))))) mixed ?_ ?_; kernel_rfl) | (refine WDA.finish (tl := [⟨_, _, _, _, _, _⟩, ⟨_, _, _, _, _, _⟩]) rfl ?_) | (refine WDQ.see rfl ?_) | (refine WDE.see rfl ?_) | (refine WDE.alloc rfl rfl (fun w h => h) (fun x => ?_)) | (refine WDE.stE rfl ?_) | (refine WDE.x rfl rfl ?_ ?_ (fun x => ?_); rotate_left 1; (intro x w h; first | exact h | exact Ent.drop1.sl h | exact SL.unI h | exact SL.to h); rotate_left 1; first | exact trivial | exact rfl | assumption | omega | (refine ⟨?_, ?_⟩ <;> omega) | (simp only [Room, List.length_set, List.length_append, List.length_cons, List.length_nil, List.length_replicate]; omega) | decide | skip) | (guard_target =~ WDW _ _ _ _ _ _ _ ⟨_, .call ⟨.value (.tmp _), _, _⟩, _, _, _, _⟩ _ _ _; refine WDW.callV rfl rfl (stepC_tr hp (by omega) (by omega) hone hpl hc) ?_; rintro ⟨g, ⟨p', hp', hu'⟩⟩; dsimp only) | (guard_target =~ WDE _ _ _ _ _ _ _ ⟨_, .call ⟨.value (.func 36), _, _⟩, _, _, _, _⟩ _ _ _; refine WDE.call rfl rfl (Clone_tr (xs := y.1) (by omega)) ?_ ?_; (intro x w h; first | exact h | exact Ent.drop1.sl h | exact SL.unI h | exact SL.to h); rintro c) | (guard_target =~ WDW _ _ _ _ _ _ _ ⟨_, .call ⟨.value (.func 36), _, _⟩, _, _, _, _⟩ _ _ _; refine WDW.call rfl rfl (Clone_tr (xs := y.1) (by omega)) ?_; rintro c))
        obtain ⟨v, k, k1, -, -, k2, k3, k4⟩ := rdOne_some hp hone
        have hpp : p' = p + ou * 3 + k := by
          rw [hu'] at k2
          have := congrArg ByteArray.size k2
          rw [ext_size' T p' hp', ext_size' T _ k3] at this
          omega
        have hlen : (ms ++ [y]).length = ms.length + 1 := by simp
        refine QQ.loopS ⟨ms ++ [y], qs ++ [(c, y.2)], p', g, y.1, x⟩ ⟨rfl, rfl, rfl, rfl, rfl, trivial⟩ ⟨⟨by simp [hq], hp', by dsimp only; omega, by dsimp only; omega⟩, by dsimp only; rw [hlen, hnx2, hu'], ?_, fun h => absurd h (by dsimp only; omega), fun _ => ?_⟩ (by dsimp only; omega) (fun w h => ?_)
        · dsimp only
          rw [hlen, fstN_succ (by rw [fst_pre]; exact hz), hsn]
          exact hc
        · dsimp only
          rw [hlen, Nat.add_sub_cancel, List.getD_eq_getElem?_getD, List.getElem?_append_right (Nat.le_refl _), Nat.sub_self]; rfl
        · dsimp only
          have h2 : SL w0 I (OwnS 3 c y.1 :: RowH 3 (qs.map Prod.fst) (ms.map Prod.fst) :: Bk R 121 (RdV T (p' : Nat) 0) :: Bk Z 23 [.slice g.a g.n g.cap] :: Bk O 3 [.int .i64 ou] :: Bk B 82 [.pointer (some ⟨R, 0, none⟩)] :: OwnS 3 g y.1 :: OwnS 67 x (qs ++ [(c, y.2)]) :: Bk X 25 [.int .i64 ou, .int .i64 nu, .slice b.a b.n b.cap] :: StoreR S m :: L') w := h.to
          have h3 := (RowH.snoc (by rw [List.length_map, List.length_map]; exact hql)).sl h2
          rw [List.map_append, List.map_append, show List.map Prod.fst [(c, y.2)] = [c] from rfl, show List.map Prod.fst [y] = [y.1] from rfl]
          exact h3.to
      · have hres : res = none := by
          rw [← hr]
          refine readS_bad (i := ms.length + 1) (by omega) hnx2 (by simp) (by omega) ?_
          rw [List.length_append]
          show fstN _ (ms.length + 1) ≠ 0
          rw [fstN_succ (by rw [fst_pre]; exact hz), hsn]
          exact hc
        subst hres
        repeat' (first | ((first | refine WLA.m rfl rfl ?_ ?_ | refine WLA.st rfl ?_ ?_ | refine WLA.x rfl rfl ?_ (fun x => ?_) | refine WLA.x0 rfl ?_ (fun x => ?_)); first | exact trivial | exact rfl | assumption | omega | (refine ⟨?_, ?_⟩ <;> omega) | (simp only [Room, List.length_set, List.length_append, List.length_cons, List.length_nil, List.length_replicate]; omega) | decide | skip) | (refine Stp.go ?_) | (guard_target =~ WLA _ _ _ _ _ (⟨_, .call ⟨.value (.tmp _), _, _⟩, _, _, _, _⟩ :: _) _ _; refine WLA.callV rfl rfl (stepC_bad hp (by omega) (by omega) hone hpl hc) ?_; rintro ⟨⟩) | (refine WPA.ifT ?_) | (refine WPA.ifF ?_) | ((first | refine WPA.dec ?_); first | refine .inl ⟨by first | assumption | omega | with_reducible rfl | (refine fun h => h ?_; first | assumption | with_reducible rfl) | (simp only [List.length_append, List.length_cons, List.length_nil, List.length_set] <;> omega) | decide, ?_⟩ | refine .inr ⟨by first | assumption | omega | with_reducible rfl | (refine fun h => h ?_; first | assumption | with_reducible rfl) | (simp only [List.length_append, List.length_cons, List.length_nil, List.length_set] <;> omega) | decide, ?_⟩) | ((first | refine WPA.ifBt ?_ ?_ | refine WPA.ifBnf ?_ ?_); assumption) | ((first | refine WPA.ifBnt ?_ ?_ | refine WPA.ifBf ?_ ?_); assumption) | ((first | refine WPA.ifs ?_ ?_ | refine WPA.ifB ?_ ?_) <;> intro hc))
        exact QQ.end_ rfl SV.nil rfl fun w h => CtsH.nil.sl (h.to : SL w0 I (StoreR S m :: L') w)
  · have hlt' : ¬ (qs.length : Int) < nu := by omega
    have hie : ms.length = nu := by omega
    have hw : wrong ou ms = 0 := by unfold wrong; rw [if_neg (by omega)]; exact hz
    have hrs : readS (ou : Int) (nu : Int) T = if (T.extract p T.size).size = 0 ∧ wrong ou ms = 0 then some ms else none := by
      unfold readS
      rw [Int.toNat_natCast, Int.toNat_natCast, ← hie, hrd]; rfl
    rw [hr, ext_size' T p hp] at hrs
    by_cases hps : p < T.size
    · rw [if_neg (by omega)] at hrs
      subst hrs
      have he := fun {L L' : List HP} [FindBk L R 121 (RdV T p 0) L'] => End_tr (R := R) (p := p) (t := T) (L := L) (L' := L') (w0 := w0) (I := I) (e := 0) hp (by omega)
      rw [if_pos ⟨rfl, hps⟩] at he
      repeat' (first | ((first | refine WLA.m rfl rfl ?_ ?_ | refine WLA.st rfl ?_ ?_ | refine WLA.x rfl rfl ?_ (fun x => ?_) | refine WLA.x0 rfl ?_ (fun x => ?_)); first | exact trivial | exact rfl | assumption | omega | (refine ⟨?_, ?_⟩ <;> omega) | (simp only [Room, List.length_set, List.length_append, List.length_cons, List.length_nil, List.length_replicate]; omega) | decide | skip) | (refine Stp.go ?_) | (guard_target =~ WLA _ _ _ _ _ (⟨_, .call ⟨.value (.func 37), _, _⟩, _, _, _, _⟩ :: _) _ _; first | (refine WLA.call rfl rfl (he) ?_; rintro ⟨⟩) | (refine WLA.call0 rfl (he) ?_; rintro ⟨⟩)) | (refine WPA.ifT ?_) | (refine WPA.ifF ?_) | ((first | refine WPA.dec ?_); first | refine .inl ⟨by first | assumption | omega | with_reducible rfl | (refine fun h => h ?_; first | assumption | with_reducible rfl) | (simp only [List.length_append, List.length_cons, List.length_nil, List.length_set] <;> omega) | decide, ?_⟩ | refine .inr ⟨by first | assumption | omega | with_reducible rfl | (refine fun h => h ?_; first | assumption | with_reducible rfl) | (simp only [List.length_append, List.length_cons, List.length_nil, List.length_set] <;> omega) | decide, ?_⟩) | ((first | refine WPA.ifBt ?_ ?_ | refine WPA.ifBnf ?_ ?_); assumption) | ((first | refine WPA.ifBnt ?_ ?_ | refine WPA.ifBf ?_ ?_); assumption) | ((first | refine WPA.ifs ?_ ?_ | refine WPA.ifB ?_ ?_) <;> intro hc))
      exact QQ.end_ rfl SV.nil rfl fun w h => CtsH.nil.sl (h.to : SL w0 I (StoreR S m :: L') w)
    · rw [if_pos ⟨by omega, hw⟩] at hrs
      subst hrs
      have he := fun {L L' : List HP} [FindBk L R 121 (RdV T p 0) L'] => End_tr (R := R) (p := p) (t := T) (L := L) (L' := L') (w0 := w0) (I := I) (e := 0) hp (by omega)
      rw [if_neg (fun h => hps h.2)] at he
      repeat' (first | ((first | refine WLA.m rfl rfl ?_ ?_ | refine WLA.st rfl ?_ ?_ | refine WLA.x rfl rfl ?_ (fun x => ?_) | refine WLA.x0 rfl ?_ (fun x => ?_)); first | exact trivial | exact rfl | assumption | omega | (refine ⟨?_, ?_⟩ <;> omega) | (simp only [Room, List.length_set, List.length_append, List.length_cons, List.length_nil, List.length_replicate]; omega) | decide | skip) | (refine Stp.go ?_) | (guard_target =~ WLA _ _ _ _ _ (⟨_, .call ⟨.value (.func 37), _, _⟩, _, _, _, _⟩ :: _) _ _; first | (refine WLA.call rfl rfl (he) ?_; rintro ⟨⟩) | (refine WLA.call0 rfl (he) ?_; rintro ⟨⟩)) | (refine WPA.ifT ?_) | (refine WPA.ifF ?_) | ((first | refine WPA.dec ?_); first | refine .inl ⟨by first | assumption | omega | with_reducible rfl | (refine fun h => h ?_; first | assumption | with_reducible rfl) | (simp only [List.length_append, List.length_cons, List.length_nil, List.length_set] <;> omega) | decide, ?_⟩ | refine .inr ⟨by first | assumption | omega | with_reducible rfl | (refine fun h => h ?_; first | assumption | with_reducible rfl) | (simp only [List.length_append, List.length_cons, List.length_nil, List.length_set] <;> omega) | decide, ?_⟩) | ((first | refine WPA.ifBt ?_ ?_ | refine WPA.ifBnf ?_ ?_); assumption) | ((first | refine WPA.ifBnt ?_ ?_ | refine WPA.ifBf ?_ ?_); assumption) | ((first | refine WPA.ifs ?_ ?_ | refine WPA.ifB ?_ ?_) <;> intro hc))
      exact QQ.end_ rfl x rfl fun w h => (CtsH.fold hq).sl (h.to : SL w0 I (OwnS 67 x qs :: RowH 3 (qs.map Prod.fst) (ms.map Prod.fst) :: StoreR S m :: L') w)
end
end Go.Proofs.Ytbekjbgaenjbfaa
namespace Go.Proofs.Ytbekjbgaenjbfaa
open Go Go.Fw Go.RowKit
set_option linter.unusedVariables false
set_option linter.unusedSimpArgs false
set_option maxRecDepth 100000
set_option maxHeartbeats 16000000
set_option synthInstance.maxHeartbeats 200000
set_option synthInstance.maxSize 100000
attribute [local irreducible] WPA WLA WDA WDQ WDE QQ seqQ blockQ loopQ fnQ OpP OpT Tr TrP SL SLd OwnS LitS Bk BkE Ob
attribute [local irreducible] vS keyS RowH
def PrsH (res : Option (List Ct)) (x : SV) : HP := match res with
  | none => fun R => R = []
  | some l => CtsH x l
theorem PrsH.none {x : SV} {L : List HP} : Ent L (PrsH none x :: L) := Ent.intro1 rfl
theorem PrsH.some {x : SV} {l : List Ct} {L : List HP} : Ent (CtsH x l :: L) (PrsH (some l) x :: L) := Ent.refl
theorem RdS.row {t : TypeId} {ss : List SV} {ts : List (List Int)} {I : Foot} {L : List HP} {i : Nat} (hi : i < ss.length) (hj : i < ts.length) : RdS I (RowH t ss ts :: L) (ss.getD i SV.nil) Int inferInstance (ts.getD i []) := ⟨fun w0 w hw => RowH.rdW hi hj hw⟩
end Go.Proofs.Ytbekjbgaenjbfaa
namespace Go.Proofs.Ytbekjbgaenjbfaa
open Go Go.Fw Go.RowKit
set_option linter.unusedVariables false
set_option linter.unusedSimpArgs false
set_option maxRecDepth 100000
set_option maxHeartbeats 16000000
set_option synthInstance.maxHeartbeats 200000
set_option synthInstance.maxSize 100000
attribute [local irreducible] WPA WLA WDA WDQ WDE QQ seqQ blockQ loopQ fnQ OpP OpT Tr TrP SL SLd OwnS LitS Bk BkE Ob
theorem vint_ne (n : Nat) : 1 ≤ (vint n).length := by
  by_cases h : n < 128
  · rw [vint_lt h]; exact Nat.le_refl 1
  · rw [vint_ge h]; exact Nat.le_add_left 1 _
theorem bN_get {s : ByteArray} {pre post : List UInt8} {b : UInt8} (h : s.data.toList = pre ++ b :: post) : bN s pre.length = b.toNat := by
  have hl : pre.length < s.data.toList.length := by rw [h, List.length_append, List.length_cons]; omega
  have h1 := bt_get hl
  unfold bN
  rw [h1]
  have : s.data.toList[pre.length] = b := by
    have h2 : s.data.toList[pre.length]? = some b := by rw [h, List.getElem?_append_right (Nat.le_refl _), Nat.sub_self]; rfl
    rw [List.getElem?_eq_getElem hl] at h2
    exact Option.some.inj h2
  rw [this]; rfl
theorem size_list' (s : ByteArray) : s.size = s.data.toList.length := by show s.data.size = _; rw [Array.length_toList]
theorem u8_nat {m : Nat} (h : m < 256) : (UInt8.ofNat m).toNat = m := by rw [UInt8.toNat_ofNat', Nat.mod_eq_of_lt h]
theorem vint_led {s : ByteArray} : ∀ (n : Nat) (pre post : List UInt8), s.data.toList = pre ++ (vint n ++ post) → ∀ f, (vint n).length ≤ f + 1 → ledN s f pre.length = pre.length + (vint n).length - 1 := by
  intro n
  induction n using Nat.strongRecOn with
  | _ n ih =>
    intro pre post h f hf
    by_cases hn : n < 128
    · rw [vint_lt hn] at h ⊢
      have hb := bN_get (pre := pre) (b := UInt8.ofNat n) (post := post) h
      rw [u8_nat (by omega)] at hb
      cases f with
      | zero => simp [ledN]
      | succ f => rw [ledN, if_neg (by omega)]; simp
    · rw [vint_ge hn] at h hf ⊢
      have hb := bN_get (pre := pre) (b := UInt8.ofNat (n % 128 + 128)) (post := vint (n / 128) ++ post) (by rw [h]; rfl)
      rw [u8_nat (by omega)] at hb
      have hv := vint_ne (n / 128)
      simp only [List.length_cons] at hf ⊢
      have hlen : pre.length < s.size := by rw [size_list', h, List.length_append]; simp
      cases f with
      | zero => omega
      | succ f =>
        rw [ledN, if_pos ⟨hlen, by omega⟩]
        have := ih (n / 128) (by omega) (pre ++ [UInt8.ofNat (n % 128 + 128)]) post (by rw [h]; simp) f (by omega)
        rw [List.length_append] at this
        simp only [List.length_cons, List.length_nil] at this
        rw [Nat.zero_add] at this
        rw [this]; omega
theorem vint_val {s : ByteArray} : ∀ (n : Nat) (pre post : List UInt8), s.data.toList = pre ++ (vint n ++ post) → valR s pre.length (vint n).length = n := by
  intro n
  induction n using Nat.strongRecOn with
  | _ n ih =>
    intro pre post h
    by_cases hn : n < 128
    · rw [vint_lt hn] at h ⊢
      have hb := bN_get (pre := pre) (b := UInt8.ofNat n) (post := post) h
      rw [u8_nat (by omega)] at hb
      show bN s pre.length % 128 + 128 * 0 = n
      rw [hb]; omega
    · rw [vint_ge hn] at h ⊢
      have hb := bN_get (pre := pre) (b := UInt8.ofNat (n % 128 + 128)) (post := vint (n / 128) ++ post) (by rw [h]; rfl)
      rw [u8_nat (by omega)] at hb
      have := ih (n / 128) (by omega) (pre ++ [UInt8.ofNat (n % 128 + 128)]) post (by rw [h]; simp)
      rw [List.length_append] at this
      show bN s pre.length % 128 + 128 * valR s (pre.length + 1) (vint (n / 128)).length = n
      rw [hb]
      have e : valR s (pre.length + 1) (vint (n / 128)).length = n / 128 := this
      rw [e]; omega
theorem vint_last {s : ByteArray} : ∀ (n : Nat) (pre post : List UInt8), s.data.toList = pre ++ (vint n ++ post) → bN s (pre.length + (vint n).length - 1) = 0 → n = 0 := by
  intro n
  induction n using Nat.strongRecOn with
  | _ n ih =>
    intro pre post h h0
    by_cases hn : n < 128
    · rw [vint_lt hn] at h h0
      have hb := bN_get (pre := pre) (b := UInt8.ofNat n) (post := post) h
      rw [u8_nat (by omega)] at hb
      have : pre.length + [UInt8.ofNat n].length - 1 = pre.length := by simp
      rw [this, hb] at h0
      exact h0
    · rw [vint_ge hn] at h h0
      have hv := vint_ne (n / 128)
      have := ih (n / 128) (by omega) (pre ++ [UInt8.ofNat (n % 128 + 128)]) post (by rw [h]; simp) (by
        rw [List.length_append]
        simp only [List.length_cons, List.length_nil] at h0 ⊢
        rw [show pre.length + (0 + 1) + (vint (n / 128)).length - 1 = pre.length + ((vint (n / 128)).length + 1) - 1 by omega]; exact h0)
      omega
theorem numR_vS {n : Nat} (hn : n ≤ 1099511627776) (r : ByteArray) : numR (vS n ++ r) = (n, (vS n).size, 0) := by
  have hd : (vS n ++ r).data.toList = [] ++ (vint n ++ r.data.toList) := by
    rw [ByteArray.data_append, Array.toList_append]
    unfold vS; simp
  have hl := vint_len 5 n (by omega)
  have h1 := vint_led n [] r.data.toList hd 10 (by omega)
  have h2 := vint_val n [] r.data.toList hd
  have h3 := vint_last n [] r.data.toList hd
  have h4 := vint_ne n
  have hsz : (vS n).size = (vint n).length := by unfold vS; show (vint n).toArray.size = _; simp
  have hs2 : (vS n ++ r).size = (vint n).length + r.size := by rw [ByteArray.size_append, hsz]
  simp only [List.length_nil, Nat.zero_add] at h1 h2 h3
  have e : lead (vS n ++ r) = (vint n).length - 1 := h1
  rw [num_ok (by omega) (by omega) (by
    rw [e]
    rintro (⟨ha, -⟩ | ⟨ha, hb⟩)
    · omega
    · have h0 := h3 hb
      subst h0
      rw [vint_lt (by omega)] at ha
      simp at ha), e, show (vint n).length - 1 + 1 = (vint n).length by omega, h2, hsz]
theorem uptR_vS {n : Nat} (hn : n ≤ 1099511627776) (r : ByteArray) : uptR (vS n ++ r) = some (n, (vS n).size) := by
  unfold uptR
  rw [numR_vS hn, if_pos ⟨rfl, hn⟩]
theorem app_left (a b : ByteArray) : (a ++ b).extract 0 a.size = a := by
  apply ByteArray.ext
  rw [ByteArray.data_extract, ByteArray.data_append]
  have : a.size = a.data.size := rfl
  rw [this]
  simp
theorem app_right (a b : ByteArray) : (a ++ b).extract a.size (a ++ b).size = b := by
  apply ByteArray.ext
  rw [ByteArray.data_extract, ByteArray.size_append, ByteArray.data_append]
  have h1 : a.size = a.data.toList.length := size_list' a
  have h2 : b.size = b.data.toList.length := size_list' b
  apply Array.toList_inj.1
  rw [Array.toList_extract, Array.toList_append, List.extract_eq_take_drop, h1, h2, List.drop_left, Nat.add_sub_cancel_left, List.take_length]
theorem byS_from (t : ByteArray) : ∀ ms : List Ct, ms.foldl (fun t m => t ++ keyS m.1 ++ vS m.2.toNat) t = t ++ byS ms
  | [] => (app_bnil t).symm
  | m :: l => by
    unfold byS
    rw [List.foldl_cons, List.foldl_cons, byS_from _ l, byS_from _ l, bnil_app, ByteArray.append_assoc, ByteArray.append_assoc, ByteArray.append_assoc]
theorem byS_cons (m : Ct) (l : List Ct) : byS (m :: l) = keyS m.1 ++ (vS m.2.toNat ++ byS l) := by
  show ((⟨#[]⟩ : ByteArray) ++ keyS m.1 ++ vS m.2.toNat |> fun t => l.foldl (fun t m => t ++ keyS m.1 ++ vS m.2.toNat) t) = _
  dsimp only
  rw [byS_from, bnil_app, ByteArray.append_assoc]
theorem rdOne_key {o : Nat} {g : List Int} {n : Int} {r : ByteArray} (hg : g.length = o) (hk : okKey g) (hn : 0 ≤ n ∧ n ≤ 1099511627776) : rdOne o (keyS g ++ (vS n.toNat ++ r)) = some ((g, n), r) := by
  have hs := keyS_size g
  have e3 : 3 * o = (keyS g).size := by omega
  unfold rdOne
  rw [e3, if_neg (by rw [ByteArray.size_append]; omega), app_left, app_right, uptR_vS (by omega), Option.map_some]
  show some ((parL (keyS g), ((n.toNat : Nat) : Int)), (vS n.toNat ++ r).extract (vS n.toNat).size (vS n.toNat ++ r).size) = _
  rw [app_right, parL_key hk, Int.toNat_of_nonneg hn.1]
theorem rdN_from {o : Nat} {u r : ByteArray} {l : List Ct} {i : Nat} (h : rdN o u i = some (l, r)) : ∀ (ms : List Ct), (∀ m ∈ ms, m.1.length = o ∧ okKey m.1 ∧ 0 ≤ m.2 ∧ m.2 ≤ 1099511627776) → r = byS ms → rdN o u (i + ms.length) = some (l ++ ms, ⟨#[]⟩)
  | [], _, hr => by subst hr; rw [List.append_nil]; exact h
  | m :: ms, hm, hr => by
    have h1 := hm m (List.mem_cons_self ..)
    rw [byS_cons] at hr
    have h2 : rdN o u (i + 1) = some (l ++ [m], byS ms) := by
      rw [rdN, h]
      show (rdOne o r).map _ = _
      rw [hr, rdOne_key h1.1 h1.2.1 h1.2.2]; rfl
    have := rdN_from h2 ms (fun m' h' => hm m' (List.mem_cons_of_mem _ h')) rfl
    rw [List.length_cons, show i + (ms.length + 1) = i + 1 + ms.length by omega, this, List.append_assoc]; rfl
theorem readS_back {o : Int} {ms : List Ct} (h : wrong o ms = 0) : readS o ms.length (byS ms) = some ms := by
  have hg := wrong_good h
  have ho := (wrong_zero h).1
  have := rdN_from (o := o.toNat) (u := byS ms) (l := []) (i := 0) rfl ms (fun m hm => by have := hg m hm; exact ⟨by omega, this.2.1, by omega, this.2.2.2⟩) rfl
  rw [Nat.zero_add, List.nil_append] at this
  unfold readS
  rw [Int.toNat_natCast, this]
  show (if (⟨#[]⟩ : ByteArray).size = 0 ∧ wrong o ms = 0 then some ms else none) = some ms
  rw [if_pos ⟨rfl, h⟩]
end Go.Proofs.Ytbekjbgaenjbfaa
