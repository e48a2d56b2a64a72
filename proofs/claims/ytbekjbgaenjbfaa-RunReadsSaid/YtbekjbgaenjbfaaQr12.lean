/- Texts that RunReads_law leans on, part 12. Conditions: none. -/
import Derived.Test.YtbekjbgaenjbfaaQr11
namespace Go.Proofs.Ytbekjbgaenjbfaa
open Go Go.Fw Go.RowKit
set_option linter.unusedVariables false
set_option linter.unusedSimpArgs false
set_option maxRecDepth 100000
set_option maxHeartbeats 16000000
set_option synthInstance.maxHeartbeats 200000
set_option synthInstance.maxSize 100000
attribute [local irreducible] WPA WLA WDA WDQ WDE QQ seqQ blockQ loopQ fnQ OpP OpT Tr TrP SL SLd OwnS LitS Bk BkE Ob
attribute [local irreducible] vS keyS parL
def rdOne (o : Nat) (u : ByteArray) : Option (Ct × ByteArray) :=
  if u.size < 3 * o then none else (uptR (u.extract (3 * o) u.size)).map fun q => ((parL (u.extract 0 (3 * o)), (q.1 : Int)), (u.extract (3 * o) u.size).extract q.2 (u.extract (3 * o) u.size).size)
def rdN (o : Nat) (u : ByteArray) : Nat → Option (List Ct × ByteArray)
  | 0 => some ([], u)
  | k + 1 => (rdN o u k).bind fun q => (rdOne o q.2).map fun r => (q.1 ++ [r.1], r.2)
theorem rdOne_some {o p : Nat} {t : ByteArray} {x : Ct} {u' : ByteArray} (hp : p ≤ t.size) (h : rdOne o (t.extract p t.size) = some (x, u')) :
    ∃ v m : Nat, p + o * 3 ≤ t.size ∧ uptR (t.extract (p + o * 3) t.size) = some (v, m) ∧ x = (parL (t.extract p (p + o * 3)), (v : Int)) ∧ u' = t.extract (p + o * 3 + m) t.size ∧ p + o * 3 + m ≤ t.size ∧ 1 ≤ m := by
  have hsz := ext_size' t p hp
  unfold rdOne at h
  by_cases h1 : (t.extract p t.size).size < 3 * o
  · rw [if_pos h1] at h; cases h
  rw [if_neg h1] at h
  obtain ⟨⟨v, m⟩, h2, h3⟩ := Option.map_eq_some_iff.1 h
  have e1 : (t.extract p t.size).extract (3 * o) (t.extract p t.size).size = t.extract (p + o * 3) t.size := by
    rw [hsz, ext_ext' _ _ _ _ (by omega), show p + (t.size - p) = t.size by omega, Nat.mul_comm 3 o]
  have e2 : (t.extract p t.size).extract 0 (3 * o) = t.extract p (p + o * 3) := by rw [ext_ext' _ _ _ _ (by omega), Nat.mul_comm 3 o]; rfl
  rw [e1] at h2 h3
  rw [e2] at h3
  have hs2 := ext_size' t (p + o * 3) (by omega)
  have hm : 1 ≤ m ∧ m ≤ t.size - (p + o * 3) := by
    unfold uptR at h2
    by_cases h4 : (numR (t.extract (p + o * 3) t.size)).2.2 = 0 ∧ (numR (t.extract (p + o * 3) t.size)).1 ≤ 1099511627776
    · rw [if_pos h4] at h2
      have hl := numR_len h4.1
      have e := congrArg Prod.snd (Option.some.inj h2)
      dsimp only at e
      rw [e] at hl
      omega
    · rw [if_neg h4] at h2; cases h2
  have h5 := Prod.mk.inj h3
  refine ⟨v, m, by omega, h2, h5.1.symm, ?_, by omega, hm.1⟩
  rw [← h5.2, hs2, ext_ext' _ _ _ _ (by omega), show p + o * 3 + (t.size - (p + o * 3)) = t.size by omega]
section
variable {R p : Nat} {t : ByteArray} {L L' M : List HP} {w0 : World} {I : Foot}
theorem rchkR_tr {n N : Int} {ls gs : SV} {g : List Int} {pl : Option (List Int)} {k : ByteArray} {e : Int} [hg : RdS I L gs Int inferInstance g] (hl : (ls.a = none ∧ pl = none) ∨ ∃ l : List Int, ls.a ≠ none ∧ RdS I L ls Int inferInstance l ∧ l.length ≤ 1000000 ∧ pl = some l) (hn : g.length ≤ 1000000)
    (he : e = chk1 n pl g N) (hk : k = if e = 0 then keyS g else ⟨#[]⟩) :
    Tr Try.prog 40 #[.int .i64 n, .slice ls.a ls.n ls.cap, .agg #[.slice gs.a gs.n gs.cap, .int .i64 N]] (SL w0 I L) (fun _ : Unit => .tuple #[.string k, .int .i64 e]) (fun _ => SL w0 I L) := by
  refine Tr.intro Try.func40 rfl Try.ntmps40 rfl ?_
  have hn9 : g.length ≤ 1000000000 := by omega
  unfold chk1 at he
  by_cases h1 : (g.length : Int) ≠ n
  · rw [if_pos h1] at he
    subst he
    rw [if_neg (by decide)] at hk
    subst hk
    repeat' (first | ((first | refine WLA.m rfl rfl ?_ ?_ | refine WLA.st rfl ?_ ?_ | refine WLA.x rfl rfl ?_ (fun x => ?_) | refine WLA.x0 rfl ?_ (fun x => ?_)); first | exact trivial | exact rfl | assumption | omega | (refine ⟨?_, ?_⟩ <;> omega) | (simp only [Room, List.length_set, List.length_append, List.length_cons, List.length_nil, List.length_replicate]; omega) | decide | skip) | (refine Stp.go ?_) | (refine WPA.ifT ?_) | (refine WPA.ifF ?_) | ((first | refine WPA.dec ?_); first | refine .inl ⟨by first | assumption | omega | with_reducible rfl | (refine fun h => h ?_; first | assumption | with_reducible rfl) | (simp only [List.length_append, List.length_cons, List.length_nil, List.length_set] <;> omega) | decide, ?_⟩ | refine .inr ⟨by first | assumption | omega | with_reducible rfl | (refine fun h => h ?_; first | assumption | with_reducible rfl) | (simp only [List.length_append, List.length_cons, List.length_nil, List.length_set] <;> omega) | decide, ?_⟩) | ((first | refine WPA.ifBt ?_ ?_ | refine WPA.ifBnf ?_ ?_); assumption) | ((first | refine WPA.ifBnt ?_ ?_ | refine WPA.ifBf ?_ ?_); assumption) | ((first | refine WPA.ifs ?_ ?_ | refine WPA.ifB ?_ ?_) <;> intro hc))
    exact QQ.end_ rfl () rfl fun w h => h.to
  rw [if_neg h1] at he
  by_cases h2 : ¬ okKey g
  · rw [if_pos h2] at he
    subst he
    rw [if_neg (by decide)] at hk
    subst hk
    repeat' (first | ((first | refine WLA.m rfl rfl ?_ ?_ | refine WLA.st rfl ?_ ?_ | refine WLA.x rfl rfl ?_ (fun x => ?_) | refine WLA.x0 rfl ?_ (fun x => ?_)); first | exact trivial | exact rfl | assumption | omega | (refine ⟨?_, ?_⟩ <;> omega) | (simp only [Room, List.length_set, List.length_append, List.length_cons, List.length_nil, List.length_replicate]; omega) | decide | skip) | (refine Stp.go ?_) | (guard_target =~ WLA _ _ _ _ _ (⟨_, .call ⟨.value (.func 62), _, _⟩, _, _, _, _⟩ :: _) _ _; first | (refine WLA.call rfl rfl (gKey_tr hn (.inr ⟨h2, rfl, rfl⟩)) ?_; rintro ⟨⟩) | (refine WLA.call0 rfl (gKey_tr hn (.inr ⟨h2, rfl, rfl⟩)) ?_; rintro ⟨⟩)) | (refine WPA.ifT ?_) | (refine WPA.ifF ?_) | ((first | refine WPA.dec ?_); first | refine .inl ⟨by first | assumption | omega | with_reducible rfl | (refine fun h => h ?_; first | assumption | with_reducible rfl) | (simp only [List.length_append, List.length_cons, List.length_nil, List.length_set] <;> omega) | decide, ?_⟩ | refine .inr ⟨by first | assumption | omega | with_reducible rfl | (refine fun h => h ?_; first | assumption | with_reducible rfl) | (simp only [List.length_append, List.length_cons, List.length_nil, List.length_set] <;> omega) | decide, ?_⟩) | ((first | refine WPA.ifBt ?_ ?_ | refine WPA.ifBnf ?_ ?_); assumption) | ((first | refine WPA.ifBnt ?_ ?_ | refine WPA.ifBf ?_ ?_); assumption) | ((first | refine WPA.ifs ?_ ?_ | refine WPA.ifB ?_ ?_) <;> intro hc))
    exact QQ.end_ rfl () rfl fun w h => h.to
  rw [if_neg h2] at he
  have h2' := Classical.byContradiction h2
  have hK : ∀ {L : List HP} [RdS I L gs Int inferInstance g], Tr Try.prog 62 #[.slice gs.a gs.n gs.cap] (SL w0 I L) (fun _ : Unit => .tuple #[.string (keyS g), .int .i64 0]) (fun _ => SL w0 I L)   := fun {L} _ => gKey_tr hn (.inl ⟨h2', rfl, rfl⟩)
  by_cases h3 : N < 1 ∨ 1099511627776 < N
  · rw [if_pos h3] at he
    subst he
    rw [if_neg (by decide)] at hk
    subst hk
    by_cases h4 : N < 1
    · skip
      repeat' (first | ((first | refine WLA.m rfl rfl ?_ ?_ | refine WLA.st rfl ?_ ?_ | refine WLA.x rfl rfl ?_ (fun x => ?_) | refine WLA.x0 rfl ?_ (fun x => ?_)); first | exact trivial | exact rfl | assumption | omega | (refine ⟨?_, ?_⟩ <;> omega) | (simp only [Room, List.length_set, List.length_append, List.length_cons, List.length_nil, List.length_replicate]; omega) | decide | skip) | (refine Stp.go ?_) | (guard_target =~ WLA _ _ _ _ _ (⟨_, .call ⟨.value (.func 62), _, _⟩, _, _, _, _⟩ :: _) _ _; first | (refine WLA.call rfl rfl (hK) ?_; rintro ⟨⟩) | (refine WLA.call0 rfl (hK) ?_; rintro ⟨⟩)) | (refine WPA.ifT ?_) | (refine WPA.ifF ?_) | (refine WLA.no rfl rfl ?_) | ((first | refine WPA.dec ?_ | ((fail_if_success (guard_target =~ WLA _ _ _ _ _ _ (put1 _ _ (.bool true)) _)); (fail_if_success (guard_target =~ WLA _ _ _ _ _ _ (put1 _ _ (.bool false)) _)); refine WLA.dec rfl rfl ?_) | refine WLA.pk ?_); first | refine .inl ⟨by first | assumption | omega | with_reducible rfl | (refine fun h => h ?_; first | assumption | with_reducible rfl) | (simp only [List.length_append, List.length_cons, List.length_nil, List.length_set] <;> omega) | decide, ?_⟩ | refine .inr ⟨by first | assumption | omega | with_reducible rfl | (refine fun h => h ?_; first | assumption | with_reducible rfl) | (simp only [List.length_append, List.length_cons, List.length_nil, List.length_set] <;> omega) | decide, ?_⟩) | ((first | refine WPA.ifBt ?_ ?_ | refine WPA.ifBnf ?_ ?_); assumption) | ((first | refine WPA.ifBnt ?_ ?_ | refine WPA.ifBf ?_ ?_); assumption) | ((first | refine WPA.ifs ?_ ?_ | refine WPA.ifB ?_ ?_) <;> intro hc) | ((fail_if_success (guard_target =~ WLA _ _ _ _ _ _ (put1 _ _ (.bool true)) _)); (fail_if_success (guard_target =~ WLA _ _ _ _ _ _ (put1 _ _ (.bool false)) _)); (first | refine WLA.both rfl rfl ?_ ?_ | refine WLA.bothB rfl rfl ?_ ?_) <;> intro hg))
      exact QQ.end_ rfl () rfl fun w h => h.to
    · have h5 : 1099511627776 < N := h3.resolve_left h4
      repeat' (first | ((first | refine WLA.m rfl rfl ?_ ?_ | refine WLA.st rfl ?_ ?_ | refine WLA.x rfl rfl ?_ (fun x => ?_) | refine WLA.x0 rfl ?_ (fun x => ?_)); first | exact trivial | exact rfl | assumption | omega | (refine ⟨?_, ?_⟩ <;> omega) | (simp only [Room, List.length_set, List.length_append, List.length_cons, List.length_nil, List.length_replicate]; omega) | decide | skip) | (refine Stp.go ?_) | (guard_target =~ WLA _ _ _ _ _ (⟨_, .call ⟨.value (.func 62), _, _⟩, _, _, _, _⟩ :: _) _ _; first | (refine WLA.call rfl rfl (hK) ?_; rintro ⟨⟩) | (refine WLA.call0 rfl (hK) ?_; rintro ⟨⟩)) | (refine WPA.ifT ?_) | (refine WPA.ifF ?_) | (refine WLA.no rfl rfl ?_) | ((first | refine WPA.dec ?_ | ((fail_if_success (guard_target =~ WLA _ _ _ _ _ _ (put1 _ _ (.bool true)) _)); (fail_if_success (guard_target =~ WLA _ _ _ _ _ _ (put1 _ _ (.bool false)) _)); refine WLA.dec rfl rfl ?_) | refine WLA.pk ?_); first | refine .inl ⟨by first | assumption | omega | with_reducible rfl | (refine fun h => h ?_; first | assumption | with_reducible rfl) | (simp only [List.length_append, List.length_cons, List.length_nil, List.length_set] <;> omega) | decide, ?_⟩ | refine .inr ⟨by first | assumption | omega | with_reducible rfl | (refine fun h => h ?_; first | assumption | with_reducible rfl) | (simp only [List.length_append, List.length_cons, List.length_nil, List.length_set] <;> omega) | decide, ?_⟩) | ((first | refine WPA.ifBt ?_ ?_ | refine WPA.ifBnf ?_ ?_); assumption) | ((first | refine WPA.ifBnt ?_ ?_ | refine WPA.ifBf ?_ ?_); assumption) | ((first | refine WPA.ifs ?_ ?_ | refine WPA.ifB ?_ ?_) <;> intro hc) | ((fail_if_success (guard_target =~ WLA _ _ _ _ _ _ (put1 _ _ (.bool true)) _)); (fail_if_success (guard_target =~ WLA _ _ _ _ _ _ (put1 _ _ (.bool false)) _)); (first | refine WLA.both rfl rfl ?_ ?_ | refine WLA.bothB rfl rfl ?_ ?_) <;> intro hg))
      exact QQ.end_ rfl () rfl fun w h => h.to
  rw [if_neg h3] at he
  have h4 : ¬ N < 1 := fun h => h3 (.inl h)
  have h5 : ¬ 1099511627776 < N := fun h => h3 (.inr h)
  rcases hl with ⟨ha, rfl⟩ | ⟨l, ha, hls, hll, rfl⟩
  · have hna : (!ls.a.isNone) = false := by rw [ha]; rfl
    change e = if (0 : Int) ≤ -1 then 9 else 0 at he
    rw [if_neg (by decide)] at he
    subst he
    rw [if_pos rfl] at hk
    subst hk
    repeat' (first | ((rw [hna])) | ((first | refine WLA.m rfl rfl ?_ ?_ | refine WLA.st rfl ?_ ?_ | refine WLA.x rfl rfl ?_ (fun x => ?_) | refine WLA.x0 rfl ?_ (fun x => ?_)); first | exact trivial | exact rfl | assumption | omega | (refine ⟨?_, ?_⟩ <;> omega) | (simp only [Room, List.length_set, List.length_append, List.length_cons, List.length_nil, List.length_replicate]; omega) | decide | skip) | (refine Stp.go ?_) | (guard_target =~ WLA _ _ _ _ _ (⟨_, .call ⟨.value (.func 62), _, _⟩, _, _, _, _⟩ :: _) _ _; first | (refine WLA.call rfl rfl (hK) ?_; rintro ⟨⟩) | (refine WLA.call0 rfl (hK) ?_; rintro ⟨⟩)) | (refine WPA.ifT ?_) | (refine WPA.ifF ?_) | (refine WLA.no rfl rfl ?_) | ((first | refine WPA.dec ?_ | ((fail_if_success (guard_target =~ WLA _ _ _ _ _ _ (put1 _ _ (.bool true)) _)); (fail_if_success (guard_target =~ WLA _ _ _ _ _ _ (put1 _ _ (.bool false)) _)); refine WLA.dec rfl rfl ?_) | refine WLA.pk ?_); first | refine .inl ⟨by first | assumption | omega | with_reducible rfl | (refine fun h => h ?_; first | assumption | with_reducible rfl) | (simp only [List.length_append, List.length_cons, List.length_nil, List.length_set] <;> omega) | decide, ?_⟩ | refine .inr ⟨by first | assumption | omega | with_reducible rfl | (refine fun h => h ?_; first | assumption | with_reducible rfl) | (simp only [List.length_append, List.length_cons, List.length_nil, List.length_set] <;> omega) | decide, ?_⟩) | ((first | refine WPA.ifBt ?_ ?_ | refine WPA.ifBnf ?_ ?_); assumption) | ((first | refine WPA.ifBnt ?_ ?_ | refine WPA.ifBf ?_ ?_); assumption) | ((first | refine WPA.ifs ?_ ?_ | refine WPA.ifB ?_ ?_) <;> intro hc) | ((fail_if_success (guard_target =~ WLA _ _ _ _ _ _ (put1 _ _ (.bool true)) _)); (fail_if_success (guard_target =~ WLA _ _ _ _ _ _ (put1 _ _ (.bool false)) _)); (first | refine WLA.both rfl rfl ?_ ?_ | refine WLA.bothB rfl rfl ?_ ?_) <;> intro hg))
    exact QQ.end_ rfl () rfl fun w h => h.to
  · have hna : (!ls.a.isNone) = true := by cases h : ls.a with | none => exact absurd h ha | some a => rfl
    have hl9 : l.length ≤ 1000000000 := by omega
    by_cases h6 : 0 ≤ cmpL l g
    · rw [if_pos (by exact h6)] at he
      subst he
      rw [if_neg (by decide)] at hk
      subst hk
      repeat' (first | ((rw [hna])) | ((first | refine WLA.m rfl rfl ?_ ?_ | refine WLA.st rfl ?_ ?_ | refine WLA.x rfl rfl ?_ (fun x => ?_) | refine WLA.x0 rfl ?_ (fun x => ?_)); first | exact trivial | exact rfl | assumption | omega | (refine ⟨?_, ?_⟩ <;> omega) | (simp only [Room, List.length_set, List.length_append, List.length_cons, List.length_nil, List.length_replicate]; omega) | decide | skip) | (refine Stp.go ?_) | (guard_target =~ WLA _ _ _ _ _ (⟨_, .call ⟨.value (.func 62), _, _⟩, _, _, _, _⟩ :: _) _ _; first | (refine WLA.call rfl rfl (hK) ?_; rintro ⟨⟩) | (refine WLA.call0 rfl (hK) ?_; rintro ⟨⟩)) | (guard_target =~ WLA _ _ _ _ _ (⟨_, .call ⟨.value (.func 63), _, _⟩, _, _, _, _⟩ :: _) _ _; refine WLA.cq rfl rfl (gCompare_tr hl9 hn9) ?_) | (refine WPA.ifT ?_) | (refine WPA.ifF ?_) | (refine WLA.no rfl rfl ?_) | ((first | refine WPA.dec ?_ | ((fail_if_success (guard_target =~ WLA _ _ _ _ _ _ (put1 _ _ (.bool true)) _)); (fail_if_success (guard_target =~ WLA _ _ _ _ _ _ (put1 _ _ (.bool false)) _)); refine WLA.dec rfl rfl ?_) | refine WLA.pk ?_); first | refine .inl ⟨by first | assumption | omega | with_reducible rfl | (refine fun h => h ?_; first | assumption | with_reducible rfl) | (simp only [List.length_append, List.length_cons, List.length_nil, List.length_set] <;> omega) | decide, ?_⟩ | refine .inr ⟨by first | assumption | omega | with_reducible rfl | (refine fun h => h ?_; first | assumption | with_reducible rfl) | (simp only [List.length_append, List.length_cons, List.length_nil, List.length_set] <;> omega) | decide, ?_⟩) | ((first | refine WPA.ifBt ?_ ?_ | refine WPA.ifBnf ?_ ?_); assumption) | ((first | refine WPA.ifBnt ?_ ?_ | refine WPA.ifBf ?_ ?_); assumption) | ((first | refine WPA.ifs ?_ ?_ | refine WPA.ifB ?_ ?_) <;> intro hc) | ((fail_if_success (guard_target =~ WLA _ _ _ _ _ _ (put1 _ _ (.bool true)) _)); (fail_if_success (guard_target =~ WLA _ _ _ _ _ _ (put1 _ _ (.bool false)) _)); (first | refine WLA.both rfl rfl ?_ ?_ | refine WLA.bothB rfl rfl ?_ ?_) <;> intro hg))
      exact QQ.end_ rfl () rfl fun w h => h.to
    · rw [if_neg (by exact h6)] at he
      subst he
      rw [if_pos rfl] at hk
      subst hk
      repeat' (first | ((rw [hna])) | ((first | refine WLA.m rfl rfl ?_ ?_ | refine WLA.st rfl ?_ ?_ | refine WLA.x rfl rfl ?_ (fun x => ?_) | refine WLA.x0 rfl ?_ (fun x => ?_)); first | exact trivial | exact rfl | assumption | omega | (refine ⟨?_, ?_⟩ <;> omega) | (simp only [Room, List.length_set, List.length_append, List.length_cons, List.length_nil, List.length_replicate]; omega) | decide | skip) | (refine Stp.go ?_) | (guard_target =~ WLA _ _ _ _ _ (⟨_, .call ⟨.value (.func 62), _, _⟩, _, _, _, _⟩ :: _) _ _; first | (refine WLA.call rfl rfl (hK) ?_; rintro ⟨⟩) | (refine WLA.call0 rfl (hK) ?_; rintro ⟨⟩)) | (guard_target =~ WLA _ _ _ _ _ (⟨_, .call ⟨.value (.func 63), _, _⟩, _, _, _, _⟩ :: _) _ _; refine WLA.cq rfl rfl (gCompare_tr hl9 hn9) ?_) | (refine WPA.ifT ?_) | (refine WPA.ifF ?_) | (refine WLA.no rfl rfl ?_) | ((first | refine WPA.dec ?_ | ((fail_if_success (guard_target =~ WLA _ _ _ _ _ _ (put1 _ _ (.bool true)) _)); (fail_if_success (guard_target =~ WLA _ _ _ _ _ _ (put1 _ _ (.bool false)) _)); refine WLA.dec rfl rfl ?_) | refine WLA.pk ?_); first | refine .inl ⟨by first | assumption | omega | with_reducible rfl | (refine fun h => h ?_; first | assumption | with_reducible rfl) | (simp only [List.length_append, List.length_cons, List.length_nil, List.length_set] <;> omega) | decide, ?_⟩ | refine .inr ⟨by first | assumption | omega | with_reducible rfl | (refine fun h => h ?_; first | assumption | with_reducible rfl) | (simp only [List.length_append, List.length_cons, List.length_nil, List.length_set] <;> omega) | decide, ?_⟩) | ((first | refine WPA.ifBt ?_ ?_ | refine WPA.ifBnf ?_ ?_); assumption) | ((first | refine WPA.ifBnt ?_ ?_ | refine WPA.ifBf ?_ ?_); assumption) | ((first | refine WPA.ifs ?_ ?_ | refine WPA.ifB ?_ ?_) <;> intro hc) | ((fail_if_success (guard_target =~ WLA _ _ _ _ _ _ (put1 _ _ (.bool true)) _)); (fail_if_success (guard_target =~ WLA _ _ _ _ _ _ (put1 _ _ (.bool false)) _)); (first | refine WLA.both rfl rfl ?_ ?_ | refine WLA.bothB rfl rfl ?_ ?_) <;> intro hg))
      exact QQ.end_ rfl () rfl fun w h => h.to
theorem steps_tr {o : Int} : Tr Try.prog 35 #[.pointer (some ⟨R, 0, none⟩), .int .i64 o] (SL w0 I L) (fun q : Nat × Nat × Nat => .func (.func 54) #[] #[.pointer (some ⟨q.1, 0, none⟩), .pointer (some ⟨q.2.1, 0, none⟩), .pointer (some ⟨q.2.2, 0, none⟩)]) (fun q => SL w0 I (Bk q.2.2 23 [.slice none 0 0] :: Bk q.2.1 3 [.int .i64 o] :: Bk q.1 82 [.pointer (some ⟨R, 0, none⟩)] :: L)) := by
  refine Tr.intro Try.func35 rfl Try.ntmps35 rfl ?_
  repeat' (first | ((first | refine WLA.m rfl rfl ?_ ?_ | refine WLA.st rfl ?_ ?_ | refine WLA.x rfl rfl ?_ (fun x => ?_) | refine WLA.x0 rfl ?_ (fun x => ?_)); first | exact trivial | exact rfl | assumption | omega | (refine ⟨?_, ?_⟩ <;> omega) | (simp only [Room, List.length_set, List.length_append, List.length_cons, List.length_nil, List.length_replicate]; omega) | decide | skip) | (refine Stp.go ?_) | (refine WPA.ifT ?_) | (refine WPA.ifF ?_) | ((first | refine WPA.dec ?_); first | refine .inl ⟨by first | assumption | omega | with_reducible rfl | (refine fun h => h ?_; first | assumption | with_reducible rfl) | (simp only [List.length_append, List.length_cons, List.length_nil, List.length_set] <;> omega) | decide, ?_⟩ | refine .inr ⟨by first | assumption | omega | with_reducible rfl | (refine fun h => h ?_; first | assumption | with_reducible rfl) | (simp only [List.length_append, List.length_cons, List.length_nil, List.length_set] <;> omega) | decide, ?_⟩) | ((first | refine WPA.ifBt ?_ ?_ | refine WPA.ifBnf ?_ ?_); assumption) | ((first | refine WPA.ifBnt ?_ ?_ | refine WPA.ifBf ?_ ?_); assumption) | ((first | refine WPA.ifs ?_ ?_ | refine WPA.ifB ?_ ?_) <;> intro hc))
  revert x; intro Z
  revert x; intro O
  revert x; intro B
  exact QQ.end_ rfl (B, O, Z) rfl fun w h => h.to
abbrev StpL (R B O Z o p : Nat) (t : ByteArray) (ls : SV) (l : List Int) (L : List HP) : List HP := Bk R 121 (RdV t p 0) :: Bk Z 23 [.slice ls.a ls.n ls.cap] :: Bk O 3 [.int .i64 o] :: Bk B 82 [.pointer (some ⟨R, 0, none⟩)] :: OwnS 3 ls l :: L
theorem stepC_none {B O Z o : Nat} {ls : SV} {l : List Int} (hp : p ≤ t.size) (ht : t.size ≤ 1000000000000) (ho : 1 ≤ o ∧ o ≤ 8) (hr : rdOne o (t.extract p t.size) = none) :
    Tr Try.prog 54 #[.pointer (some ⟨B, 0, none⟩), .pointer (some ⟨O, 0, none⟩), .pointer (some ⟨Z, 0, none⟩)] (SL w0 I (StpL R B O Z o p t ls l L)) (fun _ : Unit => .tuple #[.agg #[.slice none 0 0, .int .i64 0], .bool false]) (fun _ => SL w0 I L) := by
  refine Tr.intro Try.func54 rfl Try.ntmps54 rfl ?_
  have hsz := ext_size' t p hp
  unfold rdOne at hr
  by_cases h1 : (t.extract p t.size).size < 3 * o
  · skip
    repeat' (first | ((first | refine WLA.m rfl rfl ?_ ?_ | refine WLA.st rfl ?_ ?_ | refine WLA.x rfl rfl ?_ (fun x => ?_) | refine WLA.x0 rfl ?_ (fun x => ?_)); first | exact trivial | exact rfl | assumption | omega | (refine ⟨?_, ?_⟩ <;> omega) | (simp only [Room, List.length_set, List.length_append, List.length_cons, List.length_nil, List.length_replicate]; omega) | decide | skip) | (refine Stp.go ?_) | (guard_target =~ WLA _ _ _ _ _ (⟨_, .call ⟨.value (.func 55), _, _⟩, _, _, _, _⟩ :: _) _ _; first | (refine WLA.call rfl rfl (Raw_short (n := (o : Int) * 3) hp ht (by omega)) ?_; rintro ⟨⟩) | (refine WLA.call0 rfl (Raw_short (n := (o : Int) * 3) hp ht (by omega)) ?_; rintro ⟨⟩)) | (guard_target =~ WLA _ _ _ _ _ (⟨_, .call ⟨.value (.func 56), _, _⟩, _, _, _, _⟩ :: _) _ _; first | (refine WLA.call rfl rfl (Upto_no (e := 2) (by decide)) ?_; rintro ⟨⟩) | (refine WLA.call0 rfl (Upto_no (e := 2) (by decide)) ?_; rintro ⟨⟩)) | (guard_target =~ WLA _ _ _ _ _ (⟨_, .call ⟨.value (.func 57), _, _⟩, _, _, _, _⟩ :: _) _ _; refine WLA.cq rfl rfl (Err_tr) ?_) | (refine WPA.ifT ?_) | (refine WPA.ifF ?_) | ((first | refine WPA.dec ?_); first | refine .inl ⟨by first | assumption | omega | with_reducible rfl | (refine fun h => h ?_; first | assumption | with_reducible rfl) | (simp only [List.length_append, List.length_cons, List.length_nil, List.length_set] <;> omega) | decide, ?_⟩ | refine .inr ⟨by first | assumption | omega | with_reducible rfl | (refine fun h => h ?_; first | assumption | with_reducible rfl) | (simp only [List.length_append, List.length_cons, List.length_nil, List.length_set] <;> omega) | decide, ?_⟩) | ((first | refine WPA.ifBt ?_ ?_ | refine WPA.ifBnf ?_ ?_); assumption) | ((first | refine WPA.ifBnt ?_ ?_ | refine WPA.ifBf ?_ ?_); assumption) | ((first | refine WPA.ifs ?_ ?_ | refine WPA.ifB ?_ ?_) <;> intro hc))
    exact QQ.endc rfl () rfl fun w h => h.to
  · rw [if_neg h1] at hr
    have hu : uptR (t.extract (p + o * 3) t.size) = none := by
      have := Option.map_eq_none_iff.1 hr
      rw [hsz, ext_ext' _ _ _ _ (by omega), show p + (t.size - p) = t.size by omega, Nat.mul_comm 3 o] at this
      exact this
    have hne := uptE_ne hu
    have hcast : (o : Int) * 3 = ((o * 3 : Nat) : Int) := by omega
    repeat' (first | ((rw [hcast])) | ((first | refine WLA.m rfl rfl ?_ ?_ | refine WLA.st rfl ?_ ?_ | refine WLA.x rfl rfl ?_ (fun x => ?_) | refine WLA.x0 rfl ?_ (fun x => ?_)); first | exact trivial | exact rfl | assumption | omega | (refine ⟨?_, ?_⟩ <;> omega) | (simp only [Room, List.length_set, List.length_append, List.length_cons, List.length_nil, List.length_replicate]; omega) | decide | skip) | (refine Stp.go ?_) | (guard_target =~ WLA _ _ _ _ _ (⟨_, .call ⟨.value (.func 55), _, _⟩, _, _, _, _⟩ :: _) _ _; first | (refine WLA.call rfl rfl (Raw_tr (n := o * 3) ht (by omega)) ?_; rintro ⟨⟩) | (refine WLA.call0 rfl (Raw_tr (n := o * 3) ht (by omega)) ?_; rintro ⟨⟩)) | (guard_target =~ WLA _ _ _ _ _ (⟨_, .call ⟨.value (.func 56), _, _⟩, _, _, _, _⟩ :: _) _ _; first | (refine WLA.call rfl rfl (Upto_bad (p := p + o * 3) (by omega) hu) ?_; rintro ⟨⟩) | (refine WLA.call0 rfl (Upto_bad (p := p + o * 3) (by omega) hu) ?_; rintro ⟨⟩)) | (guard_target =~ WLA _ _ _ _ _ (⟨_, .call ⟨.value (.func 57), _, _⟩, _, _, _, _⟩ :: _) _ _; refine WLA.cq rfl rfl (Err_tr) ?_) | (refine WPA.ifT ?_) | (refine WPA.ifF ?_) | ((first | refine WPA.dec ?_); first | refine .inl ⟨by first | assumption | omega | with_reducible rfl | (refine fun h => h ?_; first | assumption | with_reducible rfl) | (simp only [List.length_append, List.length_cons, List.length_nil, List.length_set] <;> omega) | decide, ?_⟩ | refine .inr ⟨by first | assumption | omega | with_reducible rfl | (refine fun h => h ?_; first | assumption | with_reducible rfl) | (simp only [List.length_append, List.length_cons, List.length_nil, List.length_set] <;> omega) | decide, ?_⟩) | ((first | refine WPA.ifBt ?_ ?_ | refine WPA.ifBnf ?_ ?_); assumption) | ((first | refine WPA.ifBnt ?_ ?_ | refine WPA.ifBf ?_ ?_); assumption) | ((first | refine WPA.ifs ?_ ?_ | refine WPA.ifB ?_ ?_) <;> intro hc))
    exact QQ.endc rfl () rfl fun w h => h.to
theorem parL_len (u : ByteArray) : (parL u).length = u.size / 3 := by unfold parL; simp
theorem stepC_bad {B O Z o : Nat} {ls : SV} {l : List Int} {pl : Option (List Int)} {x : Ct} {u' : ByteArray} (hp : p ≤ t.size) (ht : t.size ≤ 1000000000000) (ho : 1 ≤ o ∧ o ≤ 8) (hr : rdOne o (t.extract p t.size) = some (x, u'))
    (hl : (ls.a = none ∧ pl = none) ∨ (ls.a ≠ none ∧ pl = some l ∧ l.length ≤ 1000000)) (hc : chk1 o pl x.1 x.2 ≠ 0) :
    Tr Try.prog 54 #[.pointer (some ⟨B, 0, none⟩), .pointer (some ⟨O, 0, none⟩), .pointer (some ⟨Z, 0, none⟩)] (SL w0 I (StpL R B O Z o p t ls l L)) (fun _ : Unit => .tuple #[.agg #[.slice none 0 0, .int .i64 0], .bool false]) (fun _ => SL w0 I L) := by
  refine Tr.intro Try.func54 rfl Try.ntmps54 rfl ?_
  obtain ⟨v, m, h1, h2, rfl, -, h3, h4⟩ := rdOne_some hp hr
  dsimp only at hc
  have hsz := ext_size' t (p + o * 3) (by omega)
  have hks : (t.extract p (p + o * 3)).size = o * 3 := by rw [ByteArray.size_extract]; omega
  have hcast : (o : Int) * 3 = ((o * 3 : Nat) : Int) := by omega
  have hpl : ∀ {L : List HP} [RdS I L ls Int inferInstance l], (ls.a = none ∧ pl = none) ∨ ∃ l : List Int, ls.a ≠ none ∧ RdS I L ls Int inferInstance l ∧ l.length ≤ 1000000 ∧ pl = some l := fun {L} hL => hl.imp id fun h => ⟨l, h.1, hL, h.2.2, h.2.1⟩
  repeat' (first | ((rw [hcast])) | ((first | refine WLA.m rfl rfl ?_ ?_ | refine WLA.st rfl ?_ ?_ | refine WLA.x rfl rfl ?_ (fun x => ?_) | refine WLA.x0 rfl ?_ (fun x => ?_)); first | exact trivial | exact rfl | assumption | omega | (refine ⟨?_, ?_⟩ <;> omega) | (simp only [Room, List.length_set, List.length_append, List.length_cons, List.length_nil, List.length_replicate]; omega) | decide | skip) | (refine Stp.go ?_) | (guard_target =~ WLA _ _ _ _ _ (⟨_, .call ⟨.value (.func 55), _, _⟩, _, _, _, _⟩ :: _) _ _; first | (refine WLA.call rfl rfl (Raw_tr (n := o * 3) ht (by omega)) ?_; rintro ⟨⟩) | (refine WLA.call0 rfl (Raw_tr (n := o * 3) ht (by omega)) ?_; rintro ⟨⟩)) | (guard_target =~ WLA _ _ _ _ _ (⟨_, .call ⟨.value (.func 56), _, _⟩, _, _, _, _⟩ :: _) _ _; first | (refine WLA.call rfl rfl (Upto_tr (p := p + o * 3) (v := v) (m := m) (by omega) ht h2) ?_; rintro ⟨⟩) | (refine WLA.call0 rfl (Upto_tr (p := p + o * 3) (v := v) (m := m) (by omega) ht h2) ?_; rintro ⟨⟩)) | (guard_target =~ WLA _ _ _ _ _ (⟨_, .call ⟨.value (.func 57), _, _⟩, _, _, _, _⟩ :: _) _ _; refine WLA.cq rfl rfl (Err_tr) ?_) | (guard_target =~ WLA _ _ _ _ _ (⟨_, .call ⟨.value (.func 58), _, _⟩, _, _, _, _⟩ :: _) _ _; first | (refine WLA.call rfl rfl (gParse_ok (by omega) (by omega)) ?_; rintro xg) | (refine WLA.call0 rfl (gParse_ok (by omega) (by omega)) ?_; rintro xg)) | (guard_target =~ WLA _ _ _ _ _ (⟨_, .call ⟨.value (.func 40), _, _⟩, _, _, _, _⟩ :: _) _ _; first | (refine WLA.call rfl rfl (rchkR_tr hpl (by rw [parL_len]; omega) rfl (if_neg hc).symm) ?_; rintro ⟨⟩) | (refine WLA.call0 rfl (rchkR_tr hpl (by rw [parL_len]; omega) rfl (if_neg hc).symm) ?_; rintro ⟨⟩)) | (guard_target =~ WLA _ _ _ _ _ (⟨_, .call ⟨.value (.func 59), _, _⟩, _, _, _, _⟩ :: _) _ _; first | (refine WLA.call rfl rfl (Fail_tr (p := p + o * 3 + m) (by omega) ht hc) ?_; rintro ⟨⟩) | (refine WLA.call0 rfl (Fail_tr (p := p + o * 3 + m) (by omega) ht hc) ?_; rintro ⟨⟩)) | (refine WPA.ifT ?_) | (refine WPA.ifF ?_) | ((first | refine WPA.dec ?_); first | refine .inl ⟨by first | assumption | omega | with_reducible rfl | (refine fun h => h ?_; first | assumption | with_reducible rfl) | (simp only [List.length_append, List.length_cons, List.length_nil, List.length_set] <;> omega) | decide, ?_⟩ | refine .inr ⟨by first | assumption | omega | with_reducible rfl | (refine fun h => h ?_; first | assumption | with_reducible rfl) | (simp only [List.length_append, List.length_cons, List.length_nil, List.length_set] <;> omega) | decide, ?_⟩) | ((first | refine WPA.ifBt ?_ ?_ | refine WPA.ifBnf ?_ ?_); assumption) | ((first | refine WPA.ifBnt ?_ ?_ | refine WPA.ifBf ?_ ?_); assumption) | ((first | refine WPA.ifs ?_ ?_ | refine WPA.ifB ?_ ?_) <;> intro hc))
  exact QQ.endc rfl () rfl fun w h => h.to
theorem stepC_tr {B O Z o : Nat} {ls : SV} {l : List Int} {pl : Option (List Int)} {x : Ct} {u' : ByteArray} (hp : p ≤ t.size) (ht : t.size ≤ 1000000000000) (ho : 1 ≤ o ∧ o ≤ 8) (hr : rdOne o (t.extract p t.size) = some (x, u'))
    (hl : (ls.a = none ∧ pl = none) ∨ (ls.a ≠ none ∧ pl = some l ∧ l.length ≤ 1000000)) (hc : chk1 o pl x.1 x.2 = 0) :
    Tr Try.prog 54 #[.pointer (some ⟨B, 0, none⟩), .pointer (some ⟨O, 0, none⟩), .pointer (some ⟨Z, 0, none⟩)] (SL w0 I (StpL R B O Z o p t ls l L)) (fun g : SV × { p' : Nat // p' ≤ t.size ∧ u' = t.extract p' t.size } => .tuple #[.agg #[.slice g.1.a g.1.n g.1.cap, .int .i64 x.2], .bool true]) (fun g => SL w0 I (Bk R 121 (RdV t (g.2.1 : Nat) 0) :: Bk Z 23 [.slice g.1.a g.1.n g.1.cap] :: Bk O 3 [.int .i64 o] :: Bk B 82 [.pointer (some ⟨R, 0, none⟩)] :: OwnS 3 g.1 x.1 :: L)) := by
  refine Tr.intro Try.func54 rfl Try.ntmps54 rfl ?_
  obtain ⟨v, m, h1, h2, rfl, hu', h3, h4⟩ := rdOne_some hp hr
  dsimp only at hc
  have hsz := ext_size' t (p + o * 3) (by omega)
  have hks : (t.extract p (p + o * 3)).size = o * 3 := by rw [ByteArray.size_extract]; omega
  have hcast : (o : Int) * 3 = ((o * 3 : Nat) : Int) := by omega
  have hpl : ∀ {L : List HP} [RdS I L ls Int inferInstance l], (ls.a = none ∧ pl = none) ∨ ∃ l : List Int, ls.a ≠ none ∧ RdS I L ls Int inferInstance l ∧ l.length ≤ 1000000 ∧ pl = some l := fun {L} hL => hl.imp id fun h => ⟨l, h.1, hL, h.2.2, h.2.1⟩
  repeat' (first | ((rw [hcast])) | ((first | refine WLA.m rfl rfl ?_ ?_ | refine WLA.st rfl ?_ ?_ | refine WLA.x rfl rfl ?_ (fun x => ?_) | refine WLA.x0 rfl ?_ (fun x => ?_)); first | exact trivial | exact rfl | assumption | omega | (refine ⟨?_, ?_⟩ <;> omega) | (simp only [Room, List.length_set, List.length_append, List.length_cons, List.length_nil, List.length_replicate]; omega) | decide | skip) | (refine Stp.go ?_) | (guard_target =~ WLA _ _ _ _ _ (⟨_, .call ⟨.value (.func 55), _, _⟩, _, _, _, _⟩ :: _) _ _; first | (refine WLA.call rfl rfl (Raw_tr (n := o * 3) ht (by omega)) ?_; rintro ⟨⟩) | (refine WLA.call0 rfl (Raw_tr (n := o * 3) ht (by omega)) ?_; rintro ⟨⟩)) | (guard_target =~ WLA _ _ _ _ _ (⟨_, .call ⟨.value (.func 56), _, _⟩, _, _, _, _⟩ :: _) _ _; first | (refine WLA.call rfl rfl (Upto_tr (p := p + o * 3) (v := v) (m := m) (by omega) ht h2) ?_; rintro ⟨⟩) | (refine WLA.call0 rfl (Upto_tr (p := p + o * 3) (v := v) (m := m) (by omega) ht h2) ?_; rintro ⟨⟩)) | (guard_target =~ WLA _ _ _ _ _ (⟨_, .call ⟨.value (.func 57), _, _⟩, _, _, _, _⟩ :: _) _ _; refine WLA.cq rfl rfl (Err_tr) ?_) | (guard_target =~ WLA _ _ _ _ _ (⟨_, .call ⟨.value (.func 58), _, _⟩, _, _, _, _⟩ :: _) _ _; first | (refine WLA.call rfl rfl (gParse_ok (by omega) (by omega)) ?_; rintro xg) | (refine WLA.call0 rfl (gParse_ok (by omega) (by omega)) ?_; rintro xg)) | (guard_target =~ WLA _ _ _ _ _ (⟨_, .call ⟨.value (.func 40), _, _⟩, _, _, _, _⟩ :: _) _ _; first | (refine WLA.call rfl rfl (rchkR_tr hpl (by rw [parL_len]; omega) hc.symm (if_pos rfl).symm) ?_; rintro ⟨⟩) | (refine WLA.call0 rfl (rchkR_tr hpl (by rw [parL_len]; omega) hc.symm (if_pos rfl).symm) ?_; rintro ⟨⟩)) | (refine WPA.ifT ?_) | (refine WPA.ifF ?_) | ((first | refine WPA.dec ?_); first | refine .inl ⟨by first | assumption | omega | with_reducible rfl | (refine fun h => h ?_; first | assumption | with_reducible rfl) | (simp only [List.length_append, List.length_cons, List.length_nil, List.length_set] <;> omega) | decide, ?_⟩ | refine .inr ⟨by first | assumption | omega | with_reducible rfl | (refine fun h => h ?_; first | assumption | with_reducible rfl) | (simp only [List.length_append, List.length_cons, List.length_nil, List.length_set] <;> omega) | decide, ?_⟩) | ((first | refine WPA.ifBt ?_ ?_ | refine WPA.ifBnf ?_ ?_); assumption) | ((first | refine WPA.ifBnt ?_ ?_ | refine WPA.ifBf ?_ ?_); assumption) | ((first | refine WPA.ifs ?_ ?_ | refine WPA.ifB ?_ ?_) <;> intro hc))
  exact QQ.endc rfl (xg, ⟨p + o * 3 + m, h3, hu'⟩) rfl fun w h => h.to
end
end Go.Proofs.Ytbekjbgaenjbfaa
namespace Go.Proofs.Ytbekjbgaenjbfaa
open Go Go.Fw Go.RowKit
set_option linter.unusedVariables false
set_option linter.unusedSimpArgs false
set_option maxRecDepth 100000
set_option maxHeartbeats 16000000
set_option synthInstance.maxHeartbeats 200000
set_option synthInstance.maxSize 100000
attribute [local irreducible] WPA WLA WDA WDQ WDE QQ seqQ blockQ loopQ fnQ OpP OpT Tr TrP SL SLd OwnS LitS Bk BkE Ob
def TxB (m : BS) : Prop := ∀ t ∈ m.ts, t.size ≤ 65536
theorem TxB.new {size most : Int} : TxB (BS.mk size most [] [] 0 0 0) := fun t h => by cases h
theorem TxB.alloc {m : BS} (h : TxB m) : TxB m.alloc := fun t ht => by
  change t ∈ padT m.tk m.ts at ht
  unfold padT at ht
  split at ht
  · exact h t ht
  · rcases List.mem_append.1 ht with h1 | h1
    · exact h t h1
    · rw [List.mem_singleton.1 h1]; decide
theorem TxB.write {m : BS} {id : Int} {u : ByteArray} (h : TxB m) (hu : u.size ≤ 65536) : TxB (m.write id u) := fun t ht => by
  change t ∈ m.ts.set id.toNat u at ht
  rcases List.mem_or_eq_of_mem_set ht with h1 | h1
  · exact h t h1
  · rw [h1]; exact hu
theorem TxB.at {m : BS} {id : Int} (h : TxB m) (hl : m.tk.length = m.ts.length) (hh : Has m.tk id) : (at_ m.ts id).size ≤ 65536 := by
  have := hh.1
  rw [at_txt m.ts id (by omega) (by omega)]
  exact h _ (List.getElem_mem _)
def txtN (m : BS) (ids : List Int) : Nat → Option ByteArray
  | 0 => some ⟨#[]⟩
  | i + 1 => (txtN m ids i).bind fun t => if Has m.tk (ids.getD i 0) then some (t ++ at_ m.ts (ids.getD i 0)) else none
theorem txtN_no {m : BS} {ids : List Int} {i : Nat} (h : txtN m ids i = none) : ∀ n, i ≤ n → txtN m ids n = none
  | 0, h2 => by rw [Nat.le_zero.1 h2] at h; exact h
  | n + 1, h2 => by
    by_cases e : i = n + 1
    · rw [← e]; exact h
    · rw [txtN, txtN_no h n (by omega)]; rfl
theorem txtN_size {m : BS} {ids : List Int} (hb : TxB m) (hl : m.tk.length = m.ts.length) : ∀ {n : Nat} {t : ByteArray}, txtN m ids n = some t → t.size ≤ 65536 * n
  | 0, t, h => by rw [← Option.some.inj h]; decide
  | n + 1, t, h => by
    rw [txtN] at h
    obtain ⟨u, h1, h2⟩ := Option.bind_eq_some_iff.1 h
    have := txtN_size hb hl h1
    by_cases hh : Has m.tk (ids.getD n 0)
    · rw [if_pos hh] at h2
      have h3 := hb.at hl hh
      rw [← Option.some.inj h2, ByteArray.size_append]; omega
    · rw [if_neg hh] at h2; cases h2
def txE (o : Option ByteArray) : Int := if o.isSome then 0 else 7
section
variable {S : Nat} {m : BS} {L L' : List HP} {w0 : World} {I : Foot}
theorem bytes_tr {b : SV} {ids : List Int} [h : FindK L StoreR S m L'] (hs : SlI I b Int inferInstance ids) (hl : m.tk.length = m.ts.length) (hb : TxB m) (hn : ids.length ≤ 1000000) :
    Tr Try.prog 33 #[.pointer (some ⟨S, 0, none⟩), .slice b.a b.n b.cap] (SL w0 I L) (fun _ : Unit => .tuple #[.string ((txtN m ids ids.length).getD ⟨#[]⟩), .int .i64 (txE (txtN m ids ids.length))]) (fun _ => SL w0 I (StoreR S m :: L')) := by
  refine Tr.at h.out ?_
  refine Tr.intro Try.func33 rfl Try.ntmps33 rfl ?_
  repeat' (first | ((first | refine WLA.m rfl rfl ?_ ?_ | refine WLA.st rfl ?_ ?_ | refine WLA.x rfl rfl ?_ (fun x => ?_) | refine WLA.x0 rfl ?_ (fun x => ?_)); first | exact trivial | exact rfl | assumption | omega | (refine ⟨?_, ?_⟩ <;> omega) | (simp only [Room, List.length_set, List.length_append, List.length_cons, List.length_nil, List.length_replicate]; omega) | decide | skip) | (refine Stp.go ?_) | (refine WPA.ifT ?_) | (refine WPA.ifF ?_) | ((first | refine WPA.dec ?_); first | refine .inl ⟨by first | assumption | omega | with_reducible rfl | (refine fun h => h ?_; first | assumption | with_reducible rfl) | (simp only [List.length_append, List.length_cons, List.length_nil, List.length_set] <;> omega) | decide, ?_⟩ | refine .inr ⟨by first | assumption | omega | with_reducible rfl | (refine fun h => h ?_; first | assumption | with_reducible rfl) | (simp only [List.length_append, List.length_cons, List.length_nil, List.length_set] <;> omega) | decide, ?_⟩) | ((first | refine WPA.ifBt ?_ ?_ | refine WPA.ifBnf ?_ ?_); assumption) | ((first | refine WPA.ifBnt ?_ ?_ | refine WPA.ifBf ?_ ?_); assumption) | ((first | refine WPA.ifs ?_ ?_ | refine WPA.ifB ?_ ?_) <;> intro hc))
  revert x; intro B
  refine WPA.ent (L' := BldR B ⟨#[]⟩ :: StoreR S m :: L') BldR.new ?_
  refine WPA.loopS (σ := Nat × ByteArray) (fun y => [(0, .pointer (some ⟨S, 0, none⟩)), (1, .slice b.a b.n b.cap), (6, .pointer (some ⟨B, 0, none⟩)), (11, .slice b.a b.n b.cap), (12, .int .i64 ids.length), (13, .int .i64 y.1)]) (fun y => y.1 ≤ ids.length ∧ txtN m ids y.1 = some y.2) (fun y => SL w0 I (BldR B y.2 :: StoreR S m :: L')) (fun y => ids.length - y.1) (0, ⟨#[]⟩) ⟨rfl, rfl, rfl, rfl, rfl, rfl, trivial⟩ ⟨Nat.zero_le _, rfl⟩ (fun w h => h.to) ?_
  rintro ⟨i, t⟩ ρ ⟨hi, ht⟩
  dsimp only at hi ht ⊢
  by_cases hil : i < ids.length
  · have hil' : (0 : Int) ≤ i ∧ (i : Int) < ids.length := by omega
    have hlt : (i : Int) < ids.length := by omega
    have hsz := txtN_size hb hl ht
    have hat : at_ ids (i : Int) = ids.getD i 0 := by rw [at_nat ids i hil, List.getD_eq_getElem?_getD, List.getElem?_eq_getElem hil]; rfl
    have hnx : txtN m ids (i + 1) = if Has m.tk (ids.getD i 0) then some (t ++ at_ m.ts (ids.getD i 0)) else none := by rw [txtN, ht]; rfl
    rw [← hat] at hnx
    obtain ⟨id, hid⟩ : ∃ id : Int, at_ ids (i : Int) = id := ⟨_, rfl⟩
    rw [hid] at hnx
    by_cases hh : Has m.tk id
    · have h3 := hb.at hl hh
      rw [if_pos hh] at hnx
      repeat' (first | ((rw [hid])) | ((first | refine WLA.m rfl rfl ?_ ?_ | refine WLA.st rfl ?_ ?_ | refine WLA.x rfl rfl ?_ (fun x => ?_) | refine WLA.x0 rfl ?_ (fun x => ?_)); first | exact trivial | exact rfl | assumption | omega | (refine ⟨?_, ?_⟩ <;> omega) | (simp only [Room, List.length_set, List.length_append, List.length_cons, List.length_nil, List.length_replicate]; omega) | decide | skip) | (refine Stp.go ?_) | (guard_target =~ WLA _ _ _ _ _ (⟨_, .call ⟨.value (.func 25), _, _⟩, _, _, _, _⟩ :: _) _ _; first | (refine WLA.call rfl rfl (Read_tr hh) ?_; rintro ⟨⟩) | (refine WLA.call0 rfl (Read_tr hh) ?_; rintro ⟨⟩)) | (guard_target =~ WLA _ _ _ _ _ (⟨_, .call ⟨.value (.func 52), _, _⟩, _, _, _, _⟩ :: _) _ _; first | (refine WLA.call rfl rfl (WriteString_tr (by omega)) ?_; rintro ⟨⟩) | (refine WLA.call0 rfl (WriteString_tr (by omega)) ?_; rintro ⟨⟩)) | (refine WPA.ifT ?_) | (refine WPA.ifF ?_) | ((first | refine WPA.dec ?_); first | refine .inl ⟨by first | assumption | omega | with_reducible rfl | (refine fun h => h ?_; first | assumption | with_reducible rfl) | (simp only [List.length_append, List.length_cons, List.length_nil, List.length_set] <;> omega) | decide, ?_⟩ | refine .inr ⟨by first | assumption | omega | with_reducible rfl | (refine fun h => h ?_; first | assumption | with_reducible rfl) | (simp only [List.length_append, List.length_cons, List.length_nil, List.length_set] <;> omega) | decide, ?_⟩) | ((first | refine WPA.ifBt ?_ ?_ | refine WPA.ifBnf ?_ ?_); assumption) | ((first | refine WPA.ifBnt ?_ ?_ | refine WPA.ifBf ?_ ?_); assumption) | ((first | refine WPA.ifs ?_ ?_ | refine WPA.ifB ?_ ?_) <;> intro hc))
      exact QQ.loopS (i + 1, t ++ at_ m.ts id) ⟨rfl, rfl, rfl, rfl, rfl, rfl, trivial⟩ ⟨hil, hnx⟩ (by dsimp only; omega) (fun w h => h.to)
    · rw [if_neg hh] at hnx
      rw [txtN_no hnx ids.length hil]
      repeat' (first | ((rw [hid])) | ((first | refine WLA.m rfl rfl ?_ ?_ | refine WLA.st rfl ?_ ?_ | refine WLA.x rfl rfl ?_ (fun x => ?_) | refine WLA.x0 rfl ?_ (fun x => ?_)); first | exact trivial | exact rfl | assumption | omega | (refine ⟨?_, ?_⟩ <;> omega) | (simp only [Room, List.length_set, List.length_append, List.length_cons, List.length_nil, List.length_replicate]; omega) | decide | skip) | (refine Stp.go ?_) | (guard_target =~ WLA _ _ _ _ _ (⟨_, .call ⟨.value (.func 25), _, _⟩, _, _, _, _⟩ :: _) _ _; first | (refine WLA.call rfl rfl (Read_no hh) ?_; rintro ⟨⟩) | (refine WLA.call0 rfl (Read_no hh) ?_; rintro ⟨⟩)) | (refine WPA.ifT ?_) | (refine WPA.ifF ?_) | ((first | refine WPA.dec ?_); first | refine .inl ⟨by first | assumption | omega | with_reducible rfl | (refine fun h => h ?_; first | assumption | with_reducible rfl) | (simp only [List.length_append, List.length_cons, List.length_nil, List.length_set] <;> omega) | decide, ?_⟩ | refine .inr ⟨by first | assumption | omega | with_reducible rfl | (refine fun h => h ?_; first | assumption | with_reducible rfl) | (simp only [List.length_append, List.length_cons, List.length_nil, List.length_set] <;> omega) | decide, ?_⟩) | ((first | refine WPA.ifBt ?_ ?_ | refine WPA.ifBnf ?_ ?_); assumption) | ((first | refine WPA.ifBnt ?_ ?_ | refine WPA.ifBf ?_ ?_); assumption) | ((first | refine WPA.ifs ?_ ?_ | refine WPA.ifB ?_ ?_) <;> intro hc))
      exact QQ.end_ rfl () rfl fun w h => h.to
  · have hlt : ¬ (i : Int) < ids.length := by omega
    have hie : i = ids.length := by omega
    subst hie
    rw [ht]
    repeat' (first | ((first | refine WLA.m rfl rfl ?_ ?_ | refine WLA.st rfl ?_ ?_ | refine WLA.x rfl rfl ?_ (fun x => ?_) | refine WLA.x0 rfl ?_ (fun x => ?_)); first | exact trivial | exact rfl | assumption | omega | (refine ⟨?_, ?_⟩ <;> omega) | (simp only [Room, List.length_set, List.length_append, List.length_cons, List.length_nil, List.length_replicate]; omega) | decide | skip) | (refine Stp.go ?_) | (guard_target =~ WLA _ _ _ _ _ (⟨_, .call ⟨.value (.func 53), _, _⟩, _, _, _, _⟩ :: _) _ _; first | (refine WLA.call rfl rfl (BString_tr) ?_; rintro ⟨⟩) | (refine WLA.call0 rfl (BString_tr) ?_; rintro ⟨⟩)) | (refine WPA.ifT ?_) | (refine WPA.ifF ?_) | ((first | refine WPA.dec ?_); first | refine .inl ⟨by first | assumption | omega | with_reducible rfl | (refine fun h => h ?_; first | assumption | with_reducible rfl) | (simp only [List.length_append, List.length_cons, List.length_nil, List.length_set] <;> omega) | decide, ?_⟩ | refine .inr ⟨by first | assumption | omega | with_reducible rfl | (refine fun h => h ?_; first | assumption | with_reducible rfl) | (simp only [List.length_append, List.length_cons, List.length_nil, List.length_set] <;> omega) | decide, ?_⟩) | ((first | refine WPA.ifBt ?_ ?_ | refine WPA.ifBnf ?_ ?_); assumption) | ((first | refine WPA.ifBnt ?_ ?_ | refine WPA.ifBf ?_ ?_); assumption) | ((first | refine WPA.ifs ?_ ?_ | refine WPA.ifB ?_ ?_) <;> intro hc))
    exact QQ.end_ rfl () rfl fun w h => h.to
theorem Text_tr {b : SV} {ids : List Int} {r : RS} [h : FindK L RefR S r L'] (rel : Rel m r) (hs : SlI I b Int inferInstance ids) (hl : m.tk.length = m.ts.length) (hb : TxB m) (hn : ids.length ≤ 1000000) :
    Tr Try.prog 14 #[.pointer (some ⟨S, 0, none⟩), .slice b.a b.n b.cap] (SL w0 I L) (fun _ : Unit => .tuple #[.string ((txtN m ids ids.length).getD ⟨#[]⟩), .int .i64 (txE (txtN m ids ids.length))]) (fun _ => SL w0 I (RefR S r :: L')) := by
  refine Tr.at h.out ?_
  refine Tr.intro Try.func14 rfl Try.ntmps14 rfl ?_
  repeat' (first | ((first | refine WLA.m rfl rfl ?_ ?_ | refine WLA.st rfl ?_ ?_ | refine WLA.x rfl rfl ?_ (fun x => ?_) | refine WLA.x0 rfl ?_ (fun x => ?_)); first | exact trivial | exact rfl | assumption | omega | (refine ⟨?_, ?_⟩ <;> omega) | (simp only [Room, List.length_set, List.length_append, List.length_cons, List.length_nil, List.length_replicate]; omega) | decide | skip) | (refine Stp.go ?_) | (refine WPA.ifT ?_) | (refine WPA.ifF ?_) | ((first | refine WPA.dec ?_); first | refine .inl ⟨by first | assumption | omega | with_reducible rfl | (refine fun h => h ?_; first | assumption | with_reducible rfl) | (simp only [List.length_append, List.length_cons, List.length_nil, List.length_set] <;> omega) | decide, ?_⟩ | refine .inr ⟨by first | assumption | omega | with_reducible rfl | (refine fun h => h ?_; first | assumption | with_reducible rfl) | (simp only [List.length_append, List.length_cons, List.length_nil, List.length_set] <;> omega) | decide, ?_⟩) | ((first | refine WPA.ifBt ?_ ?_ | refine WPA.ifBnf ?_ ?_); assumption) | ((first | refine WPA.ifBnt ?_ ?_ | refine WPA.ifBf ?_ ?_); assumption) | ((first | refine WPA.ifs ?_ ?_ | refine WPA.ifB ?_ ?_) <;> intro hc))
  refine WPA.loopS (σ := Nat × ByteArray) (fun y => [(0, .pointer (some ⟨S, 0, none⟩)), (1, .slice b.a b.n b.cap), (6, .string y.2), (7, .int .i64 y.1)]) (fun y => y.1 ≤ ids.length ∧ txtN m ids y.1 = some y.2) (fun y => SL w0 I (RefR S r :: L')) (fun y => ids.length - y.1) (0, ⟨#[]⟩) ⟨rfl, rfl, rfl, rfl, trivial⟩ ⟨Nat.zero_le _, rfl⟩ (fun w h => h.to) ?_
  rintro ⟨i, t⟩ ρ ⟨hi, ht⟩
  dsimp only at hi ht ⊢
  by_cases hil : i < ids.length
  · have hil' : (0 : Int) ≤ i ∧ (i : Int) < ids.length := by omega
    have hlt : (i : Int) < ids.length := by omega
    have hsz := txtN_size hb hl ht
    have hat : at_ ids (i : Int) = ids.getD i 0 := by rw [at_nat ids i hil, List.getD_eq_getElem?_getD, List.getElem?_eq_getElem hil]; rfl
    have hnx : txtN m ids (i + 1) = if Has m.tk (ids.getD i 0) then some (t ++ at_ m.ts (ids.getD i 0)) else none := by rw [txtN, ht]; rfl
    rw [← hat] at hnx
    obtain ⟨id, hid⟩ : ∃ id : Int, at_ ids (i : Int) = id := ⟨_, rfl⟩
    rw [hid] at hnx
    by_cases hh : Has m.tk id
    · have h3 := hb.at hl hh
      have hrt : readT m id = at_ m.ts id := if_pos hh
      have hre : hasErr m id = 0 := if_pos hh
      rw [if_pos hh] at hnx
      have hcs : t.size + (at_ m.ts id).size ≤ 9223372036854775807 := by omega
      repeat' (first | ((rw [hid])) | ((rw [hrt, hre])) | ((first | refine WLA.m rfl rfl ?_ ?_ | refine WLA.st rfl ?_ ?_ | refine WLA.x rfl rfl ?_ (fun x => ?_) | refine WLA.x0 rfl ?_ (fun x => ?_)); first | exact trivial | exact rfl | assumption | omega | (refine ⟨?_, ?_⟩ <;> omega) | (simp only [Room, List.length_set, List.length_append, List.length_cons, List.length_nil, List.length_replicate]; omega) | decide | skip) | (refine Stp.go ?_) | (guard_target =~ WLA _ _ _ _ _ (⟨_, .call ⟨.value (.func 26), _, _⟩, _, _, _, _⟩ :: _) _ _; first | (refine WLA.call rfl rfl (rRead_k rel hl) ?_; rintro ⟨⟩) | (refine WLA.call0 rfl (rRead_k rel hl) ?_; rintro ⟨⟩)) | (refine WPA.ifT ?_) | (refine WPA.ifF ?_) | ((first | refine WPA.dec ?_); first | refine .inl ⟨by first | assumption | omega | with_reducible rfl | (refine fun h => h ?_; first | assumption | with_reducible rfl) | (simp only [List.length_append, List.length_cons, List.length_nil, List.length_set] <;> omega) | decide, ?_⟩ | refine .inr ⟨by first | assumption | omega | with_reducible rfl | (refine fun h => h ?_; first | assumption | with_reducible rfl) | (simp only [List.length_append, List.length_cons, List.length_nil, List.length_set] <;> omega) | decide, ?_⟩) | ((first | refine WPA.ifBt ?_ ?_ | refine WPA.ifBnf ?_ ?_); assumption) | ((first | refine WPA.ifBnt ?_ ?_ | refine WPA.ifBf ?_ ?_); assumption) | ((first | refine WPA.ifs ?_ ?_ | refine WPA.ifB ?_ ?_) <;> intro hc))
      exact QQ.loopS (i + 1, t ++ at_ m.ts id) ⟨rfl, rfl, rfl, rfl, trivial⟩ ⟨hil, hnx⟩ (by dsimp only; omega) (fun w h => h.to)
    · rw [if_neg hh] at hnx
      have hrt : readT m id = ⟨#[]⟩ := if_neg hh
      have hre : hasErr m id = 7 := if_neg hh
      rw [txtN_no hnx ids.length hil]
      repeat' (first | ((rw [hid])) | ((rw [hrt, hre])) | ((first | refine WLA.m rfl rfl ?_ ?_ | refine WLA.st rfl ?_ ?_ | refine WLA.x rfl rfl ?_ (fun x => ?_) | refine WLA.x0 rfl ?_ (fun x => ?_)); first | exact trivial | exact rfl | assumption | omega | (refine ⟨?_, ?_⟩ <;> omega) | (simp only [Room, List.length_set, List.length_append, List.length_cons, List.length_nil, List.length_replicate]; omega) | decide | skip) | (refine Stp.go ?_) | (guard_target =~ WLA _ _ _ _ _ (⟨_, .call ⟨.value (.func 26), _, _⟩, _, _, _, _⟩ :: _) _ _; first | (refine WLA.call rfl rfl (rRead_k rel hl) ?_; rintro ⟨⟩) | (refine WLA.call0 rfl (rRead_k rel hl) ?_; rintro ⟨⟩)) | (refine WPA.ifT ?_) | (refine WPA.ifF ?_) | ((first | refine WPA.dec ?_); first | refine .inl ⟨by first | assumption | omega | with_reducible rfl | (refine fun h => h ?_; first | assumption | with_reducible rfl) | (simp only [List.length_append, List.length_cons, List.length_nil, List.length_set] <;> omega) | decide, ?_⟩ | refine .inr ⟨by first | assumption | omega | with_reducible rfl | (refine fun h => h ?_; first | assumption | with_reducible rfl) | (simp only [List.length_append, List.length_cons, List.length_nil, List.length_set] <;> omega) | decide, ?_⟩) | ((first | refine WPA.ifBt ?_ ?_ | refine WPA.ifBnf ?_ ?_); assumption) | ((first | refine WPA.ifBnt ?_ ?_ | refine WPA.ifBf ?_ ?_); assumption) | ((first | refine WPA.ifs ?_ ?_ | refine WPA.ifB ?_ ?_) <;> intro hc))
      exact QQ.end_ rfl () rfl fun w h => h.to
  · have hlt : ¬ (i : Int) < ids.length := by omega
    have hie : i = ids.length := by omega
    subst hie
    rw [ht]
    repeat' (first | ((first | refine WLA.m rfl rfl ?_ ?_ | refine WLA.st rfl ?_ ?_ | refine WLA.x rfl rfl ?_ (fun x => ?_) | refine WLA.x0 rfl ?_ (fun x => ?_)); first | exact trivial | exact rfl | assumption | omega | (refine ⟨?_, ?_⟩ <;> omega) | (simp only [Room, List.length_set, List.length_append, List.length_cons, List.length_nil, List.length_replicate]; omega) | decide | skip) | (refine Stp.go ?_) | (refine WPA.ifT ?_) | (refine WPA.ifF ?_) | ((first | refine WPA.dec ?_); first | refine .inl ⟨by first | assumption | omega | with_reducible rfl | (refine fun h => h ?_; first | assumption | with_reducible rfl) | (simp only [List.length_append, List.length_cons, List.length_nil, List.length_set] <;> omega) | decide, ?_⟩ | refine .inr ⟨by first | assumption | omega | with_reducible rfl | (refine fun h => h ?_; first | assumption | with_reducible rfl) | (simp only [List.length_append, List.length_cons, List.length_nil, List.length_set] <;> omega) | decide, ?_⟩) | ((first | refine WPA.ifBt ?_ ?_ | refine WPA.ifBnf ?_ ?_); assumption) | ((first | refine WPA.ifBnt ?_ ?_ | refine WPA.ifBf ?_ ?_); assumption) | ((first | refine WPA.ifs ?_ ?_ | refine WPA.ifB ?_ ?_) <;> intro hc))
    exact QQ.end_ rfl () rfl fun w h => h.to
end
end Go.Proofs.Ytbekjbgaenjbfaa
namespace Go.Proofs.Ytbekjbgaenjbfaa
open Go Go.Fw Go.RowKit
set_option linter.unusedVariables false
set_option linter.unusedSimpArgs false
set_option maxRecDepth 100000
set_option maxHeartbeats 16000000
set_option synthInstance.maxHeartbeats 200000
set_option synthInstance.maxSize 100000
attribute [local irreducible] WPA WLA WDA WDQ WDE QQ seqQ blockQ loopQ fnQ OpP OpT Tr TrP SL SLd OwnS LitS Bk BkE Ob
attribute [local irreducible] vS keyS parL RowH
theorem rdN_no {o : Nat} {u : ByteArray} {i : Nat} (h : rdN o u i = none) : ∀ n, i ≤ n → rdN o u n = none
  | 0, h2 => by rw [Nat.le_zero.1 h2] at h; exact h
  | n + 1, h2 => by
    by_cases e : i = n + 1
    · rw [← e]; exact h
    · rw [rdN, rdN_no h n (by omega)]; rfl
theorem rdN_pre {o : Nat} {u r : ByteArray} {ms : List Ct} {i : Nat} (h : rdN o u i = some (ms, r)) (hl : ms.length = i) : ∀ n, i ≤ n → ∀ q, rdN o u n = some q → ∃ l, q.1 = ms ++ l
  | 0, h2, q, hq => by
    have e := Nat.le_zero.1 h2
    subst e
    rw [h] at hq
    rw [← Option.some.inj hq]; exact ⟨[], by simp⟩
  | n + 1, h2, q, hq => by
    by_cases e : i = n + 1
    · subst e
      rw [h] at hq
      rw [← Option.some.inj hq]; exact ⟨[], by simp⟩
    · rw [rdN] at hq
      obtain ⟨q1, h3, h4⟩ := Option.bind_eq_some_iff.1 hq
      obtain ⟨x, h5, h6⟩ := Option.map_eq_some_iff.1 h4
      obtain ⟨l, hl2⟩ := rdN_pre h hl n (by omega) q1 h3
      exact ⟨l ++ [x.1], by rw [← h6, hl2, List.append_assoc]⟩
def readS (o len : Int) (u : ByteArray) : Option (List Ct) := (rdN o.toNat u len.toNat).bind fun q => if q.2.size = 0 ∧ wrong o q.1 = 0 then some q.1 else none
theorem wrE_pre {o : Int} {ms l : List Ct} {i : Nat} (h : i < ms.length) : wrE o (ms ++ l) i = wrE o ms i := by
  unfold wrE prvG
  have e : ∀ j, j < ms.length → (ms ++ l).getD j ([], 0) = ms.getD j ([], 0) := fun j hj => by rw [List.getD_eq_getElem?_getD, List.getD_eq_getElem?_getD, List.getElem?_append_left hj]
  rw [e i h, e (i - 1) (by omega)]
theorem fst_pre {o : Int} {ms l : List Ct} : fstN (wrE o (ms ++ l)) ms.length = fstN (wrE o ms) ms.length := fstN_ext fun _ hi => wrE_pre hi
theorem readS_bad {o len : Int} {u r : ByteArray} {ms : List Ct} {i : Nat} (ho : 1 ≤ o ∧ o ≤ 8) (h : rdN o.toNat u i = some (ms, r)) (hl : ms.length = i) (hi : i ≤ len.toNat) (hb : fstN (wrE o ms) ms.length ≠ 0) : readS o len u = none := by
  unfold readS
  cases hq : rdN o.toNat u len.toNat with
  | none => rfl
  | some q =>
    obtain ⟨l, e⟩ := rdN_pre h hl _ hi q hq
    have hw : wrong o q.1 ≠ 0 := by
      unfold wrong
      rw [if_neg (by omega), e]
      intro h0
      apply hb
      rw [← fst_pre (l := l)]
      exact Classical.byContradiction fun h1 => by
        have hz := fstN_zero h0
        have : ∀ i, i < ms.length → wrE o (ms ++ l) i = 0 := fun i hi => hz i (by rw [List.length_append]; omega)
        have h2 : ∀ n, n ≤ ms.length → fstN (wrE o (ms ++ l)) n = 0 := by
          intro n
          induction n with
          | zero => intro _; rfl
          | succ n ih => intro hn; rw [fstN_succ (ih (by omega)), this n (by omega)]
        exact h1 (h2 _ (Nat.le_refl _))
    show (if q.2.size = 0 ∧ wrong o q.1 = 0 then some q.1 else none) = none
    rw [if_neg (fun h => hw h.2)]
theorem prv_snoc {ms : List Ct} {x : Ct} : prvG (ms ++ [x]) ms.length = if ms.length = 0 then none else some (ms.getD (ms.length - 1) ([], 0)).1 := by
  unfold prvG
  by_cases h : ms.length = 0
  · rw [if_pos h, if_pos h]
  · rw [if_neg h, if_neg h, List.getD_eq_getElem?_getD, List.getElem?_append_left (by omega), ← List.getD_eq_getElem?_getD]
theorem wrE_snoc {o : Int} {ms : List Ct} {x : Ct} {pl : Option (List Int)} (h : pl = prvG (ms ++ [x]) ms.length) : wrE o (ms ++ [x]) ms.length = chk1 o pl x.1 x.2 := by
  unfold wrE
  rw [← h, List.getD_eq_getElem?_getD, List.getElem?_append_right (Nat.le_refl _), Nat.sub_self]; rfl
theorem WPA.aptrR {ro : Option Nat} {P : Program} {n : Nat} {Q : Hnd} {ρ : Env} {w0 : World} {I : Foot} {L : List HP} {c : Code} {s : SV} {l : List Int} [h : RdS I L s Int inferInstance l] (k : (1 ≤ l.length → s.a ≠ none) → WPA ro P n c Q ρ (SL w0 I L)) : WPA ro P n c Q ρ (SL w0 I L) :=
  WPA.ofEx (τ := { _u : Unit // 1 ≤ l.length → s.a ≠ none }) (B := fun _ => SL w0 I L) (fun w hA => ⟨⟨(), fun hl => by
    have h1 := h.out w0 w hA
    rcases h1.plain with h2 | ⟨b, o, h2⟩
    · have := h1.len; omega
    · rw [h2]; exact fun h => by cases h⟩, hA⟩) fun x => k x.2
structure QS where
  ms : List Ct
  qs : List Pe
  p : Nat
  ls : SV
  l : List Int
  x : SV
section
variable {S : Nat} {m : BS} {L L' : List HP} {w0 : World} {I : Foot}
theorem runRead_arg {o n : Int} {b : SV} [h : FindK L StoreR S m L'] (ho : ¬ ((1 ≤ o ∧ o ≤ 8) ∧ 0 ≤ n)) : Tr Try.prog 13 #[.pointer (some ⟨S, 0, none⟩), .agg #[.int .i64 o, .int .i64 n, .slice b.a b.n b.cap]] (SL w0 I L) (fun _ : Unit => .tuple #[.slice none 0 0, .int .i64 1]) (fun _ => SL w0 I L) := by
  refine Tr.intro Try.func13 rfl Try.ntmps13 rfl ?_
  by_cases h1 : 1 ≤ o ∧ o ≤ 8
  · have hd : decide (1 ≤ o ∧ o ≤ 8) = true := decide_eq_true h1
    have hn : n < 0 := by omega
    have hbt : (!true) = false := rfl
    repeat' (first | ((rw [hd])) | ((rw [hbt])) | ((first | refine WLA.m rfl rfl ?_ ?_ | refine WLA.st rfl ?_ ?_ | refine WLA.x rfl rfl ?_ (fun x => ?_) | refine WLA.x0 rfl ?_ (fun x => ?_)); first | exact trivial | exact rfl | assumption | omega | (refine ⟨?_, ?_⟩ <;> omega) | (simp only [Room, List.length_set, List.length_append, List.length_cons, List.length_nil, List.length_replicate]; omega) | decide | skip) | (refine Stp.go ?_) | (guard_target =~ WLA _ _ _ _ _ (⟨_, .call ⟨.value (.func 32), _, _⟩, _, _, _, _⟩ :: _) _ _; refine WLA.cq rfl rfl (order_tr) ?_) | (refine WPA.ifT ?_) | (refine WPA.ifF ?_) | (refine WLA.no rfl rfl ?_) | ((first | refine WPA.dec ?_ | ((fail_if_success (guard_target =~ WLA _ _ _ _ _ _ (put1 _ _ (.bool true)) _)); (fail_if_success (guard_target =~ WLA _ _ _ _ _ _ (put1 _ _ (.bool false)) _)); refine WLA.dec rfl rfl ?_) | refine WLA.pk ?_); first | refine .inl ⟨by first | assumption | omega | with_reducible rfl | (refine fun h => h ?_; first | assumption | with_reducible rfl) | (simp only [List.length_append, List.length_cons, List.length_nil, List.length_set] <;> omega) | decide, ?_⟩ | refine .inr ⟨by first | assumption | omega | with_reducible rfl | (refine fun h => h ?_; first | assumption | with_reducible rfl) | (simp only [List.length_append, List.length_cons, List.length_nil, List.length_set] <;> omega) | decide, ?_⟩) | ((first | refine WPA.ifBt ?_ ?_ | refine WPA.ifBnf ?_ ?_); assumption) | ((first | refine WPA.ifBnt ?_ ?_ | refine WPA.ifBf ?_ ?_); assumption) | ((first | refine WPA.ifs ?_ ?_ | refine WPA.ifB ?_ ?_) <;> intro hc) | ((fail_if_success (guard_target =~ WLA _ _ _ _ _ _ (put1 _ _ (.bool true)) _)); (fail_if_success (guard_target =~ WLA _ _ _ _ _ _ (put1 _ _ (.bool false)) _)); (first | refine WLA.both rfl rfl ?_ ?_ | refine WLA.bothB rfl rfl ?_ ?_) <;> intro hg))
    exact QQ.end_ rfl () rfl fun w h => h.to
  · have hd : decide (1 ≤ o ∧ o ≤ 8) = false := decide_eq_false h1
    have hbf : (!false) = true := rfl
    repeat' (first | ((rw [hd])) | ((rw [hbf])) | ((first | refine WLA.m rfl rfl ?_ ?_ | refine WLA.st rfl ?_ ?_ | refine WLA.x rfl rfl ?_ (fun x => ?_) | refine WLA.x0 rfl ?_ (fun x => ?_)); first | exact trivial | exact rfl | assumption | omega | (refine ⟨?_, ?_⟩ <;> omega) | (simp only [Room, List.length_set, List.length_append, List.length_cons, List.length_nil, List.length_replicate]; omega) | decide | skip) | (refine Stp.go ?_) | (guard_target =~ WLA _ _ _ _ _ (⟨_, .call ⟨.value (.func 32), _, _⟩, _, _, _, _⟩ :: _) _ _; refine WLA.cq rfl rfl (order_tr) ?_) | (refine WPA.ifT ?_) | (refine WPA.ifF ?_) | (refine WLA.no rfl rfl ?_) | ((first | refine WPA.dec ?_ | ((fail_if_success (guard_target =~ WLA _ _ _ _ _ _ (put1 _ _ (.bool true)) _)); (fail_if_success (guard_target =~ WLA _ _ _ _ _ _ (put1 _ _ (.bool false)) _)); refine WLA.dec rfl rfl ?_) | refine WLA.pk ?_); first | refine .inl ⟨by first | assumption | omega | with_reducible rfl | (refine fun h => h ?_; first | assumption | with_reducible rfl) | (simp only [List.length_append, List.length_cons, List.length_nil, List.length_set] <;> omega) | decide, ?_⟩ | refine .inr ⟨by first | assumption | omega | with_reducible rfl | (refine fun h => h ?_; first | assumption | with_reducible rfl) | (simp only [List.length_append, List.length_cons, List.length_nil, List.length_set] <;> omega) | decide, ?_⟩) | ((first | refine WPA.ifBt ?_ ?_ | refine WPA.ifBnf ?_ ?_); assumption) | ((first | refine WPA.ifBnt ?_ ?_ | refine WPA.ifBf ?_ ?_); assumption) | ((first | refine WPA.ifs ?_ ?_ | refine WPA.ifB ?_ ?_) <;> intro hc) | ((fail_if_success (guard_target =~ WLA _ _ _ _ _ _ (put1 _ _ (.bool true)) _)); (fail_if_success (guard_target =~ WLA _ _ _ _ _ _ (put1 _ _ (.bool false)) _)); (first | refine WLA.both rfl rfl ?_ ?_ | refine WLA.bothB rfl rfl ?_ ?_) <;> intro hg))
    exact QQ.end_ rfl () rfl fun w h => h.to
theorem runRead_none {o n : Int} {b : SV} {ids : List Int} [h : FindK L StoreR S m L'] (ho : (1 ≤ o ∧ o ≤ 8) ∧ 0 ≤ n) (hs : SlI I b Int inferInstance ids) (hl : m.tk.length = m.ts.length) (hb : TxB m) (hn : ids.length ≤ 1000000) (ht : txtN m ids ids.length = none) :
    Tr Try.prog 13 #[.pointer (some ⟨S, 0, none⟩), .agg #[.int .i64 o, .int .i64 n, .slice b.a b.n b.cap]] (SL w0 I L) (fun _ : Unit => .tuple #[.slice none 0 0, .int .i64 7]) (fun _ => SL w0 I (StoreR S m :: L')) := by
  refine Tr.at h.out ?_
  refine Tr.intro Try.func13 rfl Try.ntmps13 rfl ?_
  have hd : decide (1 ≤ o ∧ o ≤ 8) = true := decide_eq_true ho.1
  have hn0 : ¬ n < 0 := by omega
  have hbt : (!true) = false := rfl
  have hby := fun {L L' : List HP} [FindK L StoreR S m L'] => bytes_tr (S := S) (m := m) (L := L) (L' := L') (w0 := w0) hs hl hb hn
  rw [ht] at hby
  repeat' (first | ((rw [hd])) | ((rw [hbt])) | ((first | refine WLA.m rfl rfl ?_ ?_ | refine WLA.st rfl ?_ ?_ | refine WLA.x rfl rfl ?_ (fun x => ?_) | refine WLA.x0 rfl ?_ (fun x => ?_)); first | exact trivial | exact rfl | assumption | omega | (refine ⟨?_, ?_⟩ <;> omega) | (simp only [Room, List.length_set, List.length_append, List.length_cons, List.length_nil, List.length_replicate]; omega) | decide | skip) | (refine Stp.go ?_) | (guard_target =~ WLA _ _ _ _ _ (⟨_, .call ⟨.value (.func 32), _, _⟩, _, _, _, _⟩ :: _) _ _; refine WLA.cq rfl rfl (order_tr) ?_) | (guard_target =~ WLA _ _ _ _ _ (⟨_, .call ⟨.value (.func 33), _, _⟩, _, _, _, _⟩ :: _) _ _; first | (refine WLA.call rfl rfl (hby) ?_; rintro ⟨⟩) | (refine WLA.call0 rfl (hby) ?_; rintro ⟨⟩)) | (refine WPA.ifT ?_) | (refine WPA.ifF ?_) | (refine WLA.no rfl rfl ?_) | ((first | refine WPA.dec ?_ | ((fail_if_success (guard_target =~ WLA _ _ _ _ _ _ (put1 _ _ (.bool true)) _)); (fail_if_success (guard_target =~ WLA _ _ _ _ _ _ (put1 _ _ (.bool false)) _)); refine WLA.dec rfl rfl ?_) | refine WLA.pk ?_); first | refine .inl ⟨by first | assumption | omega | with_reducible rfl | (refine fun h => h ?_; first | assumption | with_reducible rfl) | (simp only [List.length_append, List.length_cons, List.length_nil, List.length_set] <;> omega) | decide, ?_⟩ | refine .inr ⟨by first | assumption | omega | with_reducible rfl | (refine fun h => h ?_; first | assumption | with_reducible rfl) | (simp only [List.length_append, List.length_cons, List.length_nil, List.length_set] <;> omega) | decide, ?_⟩) | ((first | refine WPA.ifBt ?_ ?_ | refine WPA.ifBnf ?_ ?_); assumption) | ((first | refine WPA.ifBnt ?_ ?_ | refine WPA.ifBf ?_ ?_); assumption) | ((first | refine WPA.ifs ?_ ?_ | refine WPA.ifB ?_ ?_) <;> intro hc) | ((fail_if_success (guard_target =~ WLA _ _ _ _ _ _ (put1 _ _ (.bool true)) _)); (fail_if_success (guard_target =~ WLA _ _ _ _ _ _ (put1 _ _ (.bool false)) _)); (first | refine WLA.both rfl rfl ?_ ?_ | refine WLA.bothB rfl rfl ?_ ?_) <;> intro hg))
  exact QQ.end_ rfl () rfl fun w h => h.to
end
end Go.Proofs.Ytbekjbgaenjbfaa
