/- Texts that MergeRefuses_law leans on, part 15. Conditions: none. -/
import Derived.Shelf.SlSortCmp.NoneTotal
import Derived.Test.YtamnobjdgjbmbaaGreatQn14
namespace Go.Proofs.YtamnobjdgjbmbaaGreat
open Go Go.Fw Go.RowKit
set_option linter.unusedVariables false
set_option linter.unusedSimpArgs false
set_option maxRecDepth 100000
set_option maxHeartbeats 16000000
set_option synthInstance.maxHeartbeats 200000
set_option synthInstance.maxSize 100000
attribute [local irreducible] WPA WLA WDA WDQ WDE QQ seqQ blockQ loopQ fnQ OpP OpT Tr TrP SL SLd OwnS LitS Bk BkE Ob
attribute [local irreducible] vS keyS parL RowH CtsH MapH
instance : ZeroV Tryz.prog 3 (.int .i64 0) := ⟨by kernel_rfl⟩
def cntF (l : List Int) : Int → Int := fun k => (l.count k : Nat)
theorem cnt_snoc (l : List Int) (k : Int) : setF (cntF l) k (cntF l k + 1) = cntF (l ++ [k]) := by
  funext j
  unfold setF cntF
  by_cases e : j = k
  · subst e; rw [if_pos rfl, List.count_append, List.count_singleton_self]; rfl
  · rw [if_neg e, List.count_append, List.count_singleton]; simp [Ne.symm e]
theorem cnt_nil : cntF [] = fun _ => 0 := rfl
theorem nodup_snoc {l : List Int} {k : Int} (h : l.Nodup) : (l ++ [k]).Nodup ↔ ¬ 0 < cntF l k := by
  have hc : 0 < cntF l k ↔ k ∈ l := by unfold cntF; rw [Int.natCast_pos, List.count_pos_iff]
  rw [hc, List.nodup_append]
  constructor
  · exact fun h1 hk => h1.2.2 k hk k (List.mem_singleton.2 rfl) rfl
  · exact fun hk => ⟨h, by simp, fun a ha b hb e => hk (by rw [List.mem_singleton.1 hb] at e; rw [← e]; exact ha)⟩
def ChkA (o : Int) (es : List RE) (ids : List (List Int)) : Prop := (∀ i : Nat, i < es.length → (at_ es (i : Int)).1 = o) ∧ ids.flatten.Nodup
theorem flat_take_succ {ids : List (List Int)} {i : Nat} (h : i < ids.length) : (ids.take (i + 1)).flatten = (ids.take i).flatten ++ ids.getD i [] := by
  rw [List.take_add_one, List.getElem?_eq_getElem h, List.getD_eq_getElem?_getD, List.getElem?_eq_getElem h, List.flatten_append]; simp
theorem flat_pre {ids : List (List Int)} {i j : Nat} (h : i < ids.length) (hn : ids.flatten.Nodup) : ((ids.take i).flatten ++ (ids.getD i []).take j).Nodup := by
  have e : ids.flatten = (ids.take (i + 1)).flatten ++ (ids.drop (i + 1)).flatten := by rw [← List.flatten_append, List.take_append_drop]
  rw [e, flat_take_succ h] at hn
  have h1 := (List.nodup_append.1 hn).1
  exact h1.sublist (List.Sublist.append (List.Sublist.refl _) (List.take_sublist _ _))
section
variable {S : Nat} {m : BS} {L L' : List HP} {w0 : World} {I : Foot}
theorem mck_nil {o f : Int} {s : SV} : Tr Tryz.prog 42 #[.pointer none, .int .i64 o, .slice s.a s.n s.cap, .int .i64 f] (SL w0 I L) (fun _ : Unit => .int .i64 11) (fun _ => SL w0 I L) := by
  refine Tr.intro Tryz.func42 rfl Tryz.ntmps42 rfl ?_
  repeat' (first | ((first | refine WLA.m rfl rfl ?_ ?_ | refine WLA.st rfl ?_ ?_ | refine WLA.x rfl rfl ?_ (fun x => ?_) | refine WLA.x0 rfl ?_ (fun x => ?_)); first | exact trivial | exact rfl | assumption | omega | (refine ⟨?_, ?_⟩ <;> omega) | (simp only [Room, lenS]; omega) | decide | skip) | (refine Stp.go ?_) | (refine WPA.ifT ?_) | (refine WPA.ifF ?_) | ((first | refine WPA.dec ?_); first | refine .inl ⟨by first | assumption | omega | with_reducible rfl | (refine fun h => h ?_; first | assumption | with_reducible rfl) | (simp only [lenS] <;> omega) | decide, ?_⟩ | refine .inr ⟨by first | assumption | omega | with_reducible rfl | (refine fun h => h ?_; first | assumption | with_reducible rfl) | (simp only [lenS] <;> omega) | decide, ?_⟩) | ((first | refine WPA.ifBt ?_ ?_ | refine WPA.ifBnf ?_ ?_); assumption) | ((first | refine WPA.ifBnt ?_ ?_ | refine WPA.ifBf ?_ ?_); assumption) | ((first | refine WPA.ifs ?_ ?_ | refine WPA.ifB ?_ ?_) <;> intro hc))
  exact QQ.end_ rfl () rfl fun w h => h.to
theorem mck_arg {o f : Int} {s : SV} (h : ¬ ((1 ≤ o ∧ o ≤ 8) ∧ 2 ≤ f)) : Tr Tryz.prog 42 #[.pointer (some ⟨S, 0, none⟩), .int .i64 o, .slice s.a s.n s.cap, .int .i64 f] (SL w0 I L) (fun _ : Unit => .int .i64 1) (fun _ => SL w0 I L) := by
  refine Tr.intro Tryz.func42 rfl Tryz.ntmps42 rfl ?_
  by_cases h1 : o < 1
  · skip
    repeat' (first | ((first | refine WLA.m rfl rfl ?_ ?_ | refine WLA.st rfl ?_ ?_ | refine WLA.x rfl rfl ?_ (fun x => ?_) | refine WLA.x0 rfl ?_ (fun x => ?_)); first | exact trivial | exact rfl | assumption | omega | (refine ⟨?_, ?_⟩ <;> omega) | (simp only [Room, lenS]; omega) | decide | skip) | (refine Stp.go ?_) | (refine WPA.ifT ?_) | (refine WPA.ifF ?_) | (refine WLA.no rfl rfl ?_) | ((first | refine WPA.dec ?_ | ((fail_if_success (guard_target =~ WLA _ _ _ _ _ _ (put1 _ _ (.bool true)) _)); (fail_if_success (guard_target =~ WLA _ _ _ _ _ _ (put1 _ _ (.bool false)) _)); refine WLA.dec rfl rfl ?_) | refine WLA.pk ?_); first | refine .inl ⟨by first | assumption | omega | with_reducible rfl | (refine fun h => h ?_; first | assumption | with_reducible rfl) | (simp only [lenS] <;> omega) | decide, ?_⟩ | refine .inr ⟨by first | assumption | omega | with_reducible rfl | (refine fun h => h ?_; first | assumption | with_reducible rfl) | (simp only [lenS] <;> omega) | decide, ?_⟩) | ((first | refine WPA.ifBt ?_ ?_ | refine WPA.ifBnf ?_ ?_); assumption) | ((first | refine WPA.ifBnt ?_ ?_ | refine WPA.ifBf ?_ ?_); assumption) | ((first | refine WPA.ifs ?_ ?_ | refine WPA.ifB ?_ ?_) <;> intro hc) | ((fail_if_success (guard_target =~ WLA _ _ _ _ _ _ (put1 _ _ (.bool true)) _)); (fail_if_success (guard_target =~ WLA _ _ _ _ _ _ (put1 _ _ (.bool false)) _)); (first | refine WLA.both rfl rfl ?_ ?_ | refine WLA.bothB rfl rfl ?_ ?_) <;> intro hg))
    exact QQ.end_ rfl () rfl fun w h => h.to
  by_cases h2 : 8 < o
  · skip
    repeat' (first | ((first | refine WLA.m rfl rfl ?_ ?_ | refine WLA.st rfl ?_ ?_ | refine WLA.x rfl rfl ?_ (fun x => ?_) | refine WLA.x0 rfl ?_ (fun x => ?_)); first | exact trivial | exact rfl | assumption | omega | (refine ⟨?_, ?_⟩ <;> omega) | (simp only [Room, lenS]; omega) | decide | skip) | (refine Stp.go ?_) | (refine WPA.ifT ?_) | (refine WPA.ifF ?_) | (refine WLA.no rfl rfl ?_) | ((first | refine WPA.dec ?_ | ((fail_if_success (guard_target =~ WLA _ _ _ _ _ _ (put1 _ _ (.bool true)) _)); (fail_if_success (guard_target =~ WLA _ _ _ _ _ _ (put1 _ _ (.bool false)) _)); refine WLA.dec rfl rfl ?_) | refine WLA.pk ?_); first | refine .inl ⟨by first | assumption | omega | with_reducible rfl | (refine fun h => h ?_; first | assumption | with_reducible rfl) | (simp only [lenS] <;> omega) | decide, ?_⟩ | refine .inr ⟨by first | assumption | omega | with_reducible rfl | (refine fun h => h ?_; first | assumption | with_reducible rfl) | (simp only [lenS] <;> omega) | decide, ?_⟩) | ((first | refine WPA.ifBt ?_ ?_ | refine WPA.ifBnf ?_ ?_); assumption) | ((first | refine WPA.ifBnt ?_ ?_ | refine WPA.ifBf ?_ ?_); assumption) | ((first | refine WPA.ifs ?_ ?_ | refine WPA.ifB ?_ ?_) <;> intro hc) | ((fail_if_success (guard_target =~ WLA _ _ _ _ _ _ (put1 _ _ (.bool true)) _)); (fail_if_success (guard_target =~ WLA _ _ _ _ _ _ (put1 _ _ (.bool false)) _)); (first | refine WLA.both rfl rfl ?_ ?_ | refine WLA.bothB rfl rfl ?_ ?_) <;> intro hg))
    exact QQ.end_ rfl () rfl fun w h => h.to
  have h3 : f < 2 := by omega
  repeat' (first | ((first | refine WLA.m rfl rfl ?_ ?_ | refine WLA.st rfl ?_ ?_ | refine WLA.x rfl rfl ?_ (fun x => ?_) | refine WLA.x0 rfl ?_ (fun x => ?_)); first | exact trivial | exact rfl | assumption | omega | (refine ⟨?_, ?_⟩ <;> omega) | (simp only [Room, lenS]; omega) | decide | skip) | (refine Stp.go ?_) | (refine WPA.ifT ?_) | (refine WPA.ifF ?_) | (refine WLA.no rfl rfl ?_) | ((first | refine WPA.dec ?_ | ((fail_if_success (guard_target =~ WLA _ _ _ _ _ _ (put1 _ _ (.bool true)) _)); (fail_if_success (guard_target =~ WLA _ _ _ _ _ _ (put1 _ _ (.bool false)) _)); refine WLA.dec rfl rfl ?_) | refine WLA.pk ?_); first | refine .inl ⟨by first | assumption | omega | with_reducible rfl | (refine fun h => h ?_; first | assumption | with_reducible rfl) | (simp only [lenS] <;> omega) | decide, ?_⟩ | refine .inr ⟨by first | assumption | omega | with_reducible rfl | (refine fun h => h ?_; first | assumption | with_reducible rfl) | (simp only [lenS] <;> omega) | decide, ?_⟩) | ((first | refine WPA.ifBt ?_ ?_ | refine WPA.ifBnf ?_ ?_); assumption) | ((first | refine WPA.ifBnt ?_ ?_ | refine WPA.ifBf ?_ ?_); assumption) | ((first | refine WPA.ifs ?_ ?_ | refine WPA.ifB ?_ ?_) <;> intro hc) | ((fail_if_success (guard_target =~ WLA _ _ _ _ _ _ (put1 _ _ (.bool true)) _)); (fail_if_success (guard_target =~ WLA _ _ _ _ _ _ (put1 _ _ (.bool false)) _)); (first | refine WLA.both rfl rfl ?_ ?_ | refine WLA.bothB rfl rfl ?_ ?_) <;> intro hg))
  exact QQ.end_ rfl () rfl fun w h => h.to
theorem mck_tr {o f e : Int} {s : SV} {es : List RE} {ids : List (List Int)} [h : FindK L StoreR S m L'] (ho : (1 ≤ o ∧ o ≤ 8) ∧ 2 ≤ f) (hs : SlI I s RE inferInstance es) (hl : es.length = ids.length) (hB : ∀ i : Nat, i < es.length → SlI I (at_ es (i : Int)).2.2 Int inferInstance (ids.getD i []))
    (hn : es.length ≤ 100000) (hi : ∀ x ∈ ids, x.length ≤ 1000000)
    (he : (¬ ChkA o es ids ∧ e = 1) ∨ (ChkA o es ids ∧ (m.tk.length = m.ts.length ∧ TxB m) ∧ ∃ T : Nat → ByteArray, (∀ i : Nat, i < es.length → 0 ≤ (at_ es (i : Int)).2.1 ∧ txtN m (ids.getD i []) (ids.getD i []).length = some (T i)) ∧ e = fstN (fun i => rdE (readS o (at_ es (i : Int)).2.1 (T i))) es.length)) :
    Tr Tryz.prog 42 #[.pointer (some ⟨S, 0, none⟩), .int .i64 o, .slice s.a s.n s.cap, .int .i64 f] (SL w0 I L) (fun _ : Unit => .int .i64 e) (fun _ => SL w0 I (StoreR S m :: L')) := by
  refine Tr.at h.out ?_
  refine Tr.intro Tryz.func42 rfl Tryz.ntmps42 rfl ?_
  repeat' (first | ((first | refine WLA.m rfl rfl ?_ ?_ | refine WLA.st rfl ?_ ?_ | refine WLA.x rfl rfl ?_ (fun x => ?_) | refine WLA.x0 rfl ?_ (fun x => ?_)); first | exact trivial | exact rfl | assumption | omega | (refine ⟨?_, ?_⟩ <;> omega) | (simp only [Room, lenS]; omega) | decide | skip) | (refine Stp.go ?_) | (refine WPA.ifT ?_) | (refine WPA.ifF ?_) | (refine WLA.no rfl rfl ?_) | ((first | refine WPA.dec ?_ | ((fail_if_success (guard_target =~ WLA _ _ _ _ _ _ (put1 _ _ (.bool true)) _)); (fail_if_success (guard_target =~ WLA _ _ _ _ _ _ (put1 _ _ (.bool false)) _)); refine WLA.dec rfl rfl ?_) | refine WLA.pk ?_); first | refine .inl ⟨by first | assumption | omega | with_reducible rfl | (refine fun h => h ?_; first | assumption | with_reducible rfl) | (simp only [lenS] <;> omega) | decide, ?_⟩ | refine .inr ⟨by first | assumption | omega | with_reducible rfl | (refine fun h => h ?_; first | assumption | with_reducible rfl) | (simp only [lenS] <;> omega) | decide, ?_⟩) | ((first | refine WPA.ifBt ?_ ?_ | refine WPA.ifBnf ?_ ?_); assumption) | ((first | refine WPA.ifBnt ?_ ?_ | refine WPA.ifBf ?_ ?_); assumption) | ((first | refine WPA.ifs ?_ ?_ | refine WPA.ifB ?_ ?_) <;> intro hc) | ((fail_if_success (guard_target =~ WLA _ _ _ _ _ _ (put1 _ _ (.bool true)) _)); (fail_if_success (guard_target =~ WLA _ _ _ _ _ _ (put1 _ _ (.bool false)) _)); (first | refine WLA.both rfl rfl ?_ ?_ | refine WLA.bothB rfl rfl ?_ ?_) <;> intro hg))
  revert x; intro M
  refine WPA.loopS (σ := Nat) (fun i => [(0, .pointer (some ⟨S, 0, none⟩)), (1, .int .i64 o), (2, .slice s.a s.n s.cap), (3, .int .i64 f), (8, .int .i64 0), (9, .map (some M)), (31, .slice s.a s.n s.cap), (32, .int .i64 es.length), (33, .int .i64 i)])
    (fun i => i ≤ es.length ∧ (∀ k : Nat, k < i → (at_ es (k : Int)).1 = o) ∧ (ids.take i).flatten.Nodup) (fun i => SL w0 I (MapH M (cntF (ids.take i).flatten) :: StoreR S m :: L')) (fun i => es.length - i) 0 ⟨rfl, rfl, rfl, rfl, rfl, rfl, rfl, rfl, rfl, trivial⟩ ⟨Nat.zero_le _, fun k hk => absurd hk (Nat.not_lt_zero k), by simp⟩ (fun w h => by rw [List.take_zero, List.flatten_nil, cnt_nil]; exact h.to) ?_
  rintro i ρ ⟨hil, hio, hin⟩
  by_cases hlt : i < es.length
  · have hlt' : (i : Int) < es.length := by omega
    have hir : (0 : Int) ≤ i ∧ (i : Int) < es.length := by omega
    have hBi := hB i hlt
    have hpre := fun j hn => flat_pre (ids := ids) (i := i) (j := j) (by omega) hn
    have hsuc := flat_take_succ (ids := ids) (i := i) (by omega)
    have hlen : (ids.getD i []).length ≤ 1000000 := by rw [List.getD_eq_getElem?_getD, List.getElem?_eq_getElem (by omega)]; exact hi _ (List.getElem_mem _)
    generalize ids.getD i [] = cur at hBi hpre hsuc hlen
    by_cases hor : (at_ es (i : Int)).1 = o
    case neg =>
      have he1 : e = 1 := he.elim (fun h => h.2) fun h => absurd (h.1.1 i hlt) hor
      subst he1
      obtain ⟨q, hq⟩ : ∃ q, at_ es (i : Int) = q := ⟨_, rfl⟩
      rw [hq] at hor hBi
      have hor' : q.1 ≠ o := hor
      repeat' (first | ((rw [hq])) | ((first | refine WLA.m rfl rfl ?_ ?_ | refine WLA.st rfl ?_ ?_ | refine WLA.x rfl rfl ?_ (fun x => ?_) | refine WLA.x0 rfl ?_ (fun x => ?_)); first | exact trivial | exact rfl | assumption | omega | (refine ⟨?_, ?_⟩ <;> omega) | (simp only [Room, lenS]; omega) | decide | skip) | (refine Stp.go ?_) | (refine WPA.ifT ?_) | (refine WPA.ifF ?_) | ((first | refine WPA.dec ?_); first | refine .inl ⟨by first | assumption | omega | with_reducible rfl | (refine fun h => h ?_; first | assumption | with_reducible rfl) | (simp only [lenS] <;> omega) | decide, ?_⟩ | refine .inr ⟨by first | assumption | omega | with_reducible rfl | (refine fun h => h ?_; first | assumption | with_reducible rfl) | (simp only [lenS] <;> omega) | decide, ?_⟩) | ((first | refine WPA.ifBt ?_ ?_ | refine WPA.ifBnf ?_ ?_); assumption) | ((first | refine WPA.ifBnt ?_ ?_ | refine WPA.ifBf ?_ ?_); assumption) | ((first | refine WPA.ifs ?_ ?_ | refine WPA.ifB ?_ ?_) <;> intro hc))
      exact QQ.end_ rfl () rfl fun w h => h.to
    obtain ⟨q, hq⟩ : ∃ q, at_ es (i : Int) = q := ⟨_, rfl⟩
    rw [hq] at hor hBi
    obtain ⟨qo, qn, qs⟩ := q
    dsimp only at hor hBi
    subst hor
    have hoo : ¬ qo ≠ qo := fun h => h rfl
    generalize (ids.take i).flatten = pre at hin hpre hsuc
    repeat' (first | ((rw [hq])) | ((first | refine WLA.m rfl rfl ?_ ?_ | refine WLA.st rfl ?_ ?_ | refine WLA.x rfl rfl ?_ (fun x => ?_) | refine WLA.x0 rfl ?_ (fun x => ?_)); first | exact trivial | exact rfl | assumption | omega | (refine ⟨?_, ?_⟩ <;> omega) | (simp only [Room, lenS]; omega) | decide | skip) | (refine Stp.go ?_) | (refine WPA.ifT ?_) | (refine WPA.ifF ?_) | ((first | refine WPA.dec ?_); first | refine .inl ⟨by first | assumption | omega | with_reducible rfl | (refine fun h => h ?_; first | assumption | with_reducible rfl) | (simp only [lenS] <;> omega) | decide, ?_⟩ | refine .inr ⟨by first | assumption | omega | with_reducible rfl | (refine fun h => h ?_; first | assumption | with_reducible rfl) | (simp only [lenS] <;> omega) | decide, ?_⟩) | ((first | refine WPA.ifBt ?_ ?_ | refine WPA.ifBnf ?_ ?_); assumption) | ((first | refine WPA.ifBnt ?_ ?_ | refine WPA.ifBf ?_ ?_); assumption) | ((first | refine WPA.ifs ?_ ?_ | refine WPA.ifB ?_ ?_) <;> intro hc))
    revert x; intro X
    refine WPA.loopS (σ := Nat) (fun j => [(0, .pointer (some ⟨S, 0, none⟩)), (1, .int .i64 qo), (2, .slice s.a s.n s.cap), (3, .int .i64 f), (8, .int .i64 0), (9, .map (some M)), (31, .slice s.a s.n s.cap), (32, .int .i64 es.length), (33, .int .i64 i), (42, .slice qs.a qs.n qs.cap), (43, .int .i64 cur.length), (44, .int .i64 j)])
      (fun j => j ≤ cur.length ∧ (pre ++ cur.take j).Nodup) (fun j => SL w0 I (MapH M (cntF (pre ++ cur.take j)) :: StoreR S m :: L')) (fun j => cur.length - j) 0 ⟨rfl, rfl, rfl, rfl, rfl, rfl, rfl, rfl, rfl, rfl, rfl, rfl, trivial⟩ ⟨Nat.zero_le _, by rw [List.take_zero, List.append_nil]; exact hin⟩ (fun w h => by rw [List.take_zero, List.append_nil]; exact h.to) ?_
    rintro j ρ ⟨hj, hnd⟩
    by_cases hjl : j < cur.length
    · have hjl' : (j : Int) < cur.length := by omega
      have hjr : (0 : Int) ≤ j ∧ (j : Int) < cur.length := by omega
      obtain ⟨k, hk⟩ : ∃ k : Int, at_ cur (j : Int) = k := ⟨_, rfl⟩
      have htk : cur.take (j + 1) = cur.take j ++ [k] := by rw [List.take_add_one, List.getElem?_eq_getElem hjl, ← hk, at_nat cur j hjl]; rfl
      have hns := nodup_snoc (k := k) hnd
      rw [List.append_assoc, ← htk] at hns
      have hcs := cnt_snoc (pre ++ cur.take j) k
      rw [List.append_assoc, ← htk] at hcs
      have hc0 : 0 ≤ cntF (pre ++ cur.take j) k := by unfold cntF; omega
      have hc1 : cntF (pre ++ cur.take j) k ≤ 1 := by unfold cntF; have := List.nodup_iff_count.1 hnd k; omega
      have hself : setF (cntF (pre ++ cur.take j)) k (cntF (pre ++ cur.take j) k + 1) k = cntF (pre ++ cur.take j) k + 1 := if_pos rfl
      have hp1 := hpre (j + 1)
      generalize hnx : pre ++ cur.take (j + 1) = nx at hns hcs hp1
      generalize cntF (pre ++ cur.take j) = g at hns hcs hc0 hc1 hself
      generalize hgk : g k = c at hns hcs hc0 hc1 hself
      by_cases hcp : 0 < c
      · have hcp' : (1 : Int) < c + 1 := by omega
        have he1 : e = 1 := he.elim (fun h => h.2) fun h => absurd hcp (hns.1 (hp1 h.1.2))
        subst he1
        repeat' (first | ((rw [hk])) | ((rw [hgk])) | ((rw [hself])) | ((first | refine WLA.m rfl rfl ?_ ?_ | refine WLA.st rfl ?_ ?_ | refine WLA.x rfl rfl ?_ (fun x => ?_) | refine WLA.x0 rfl ?_ (fun x => ?_)); first | exact trivial | exact rfl | assumption | omega | (refine ⟨?_, ?_⟩ <;> omega) | (simp only [Room, lenS]; omega) | decide | skip) | (refine Stp.go ?_) | (refine WPA.ifT ?_) | (refine WPA.ifF ?_) | ((first | refine WPA.dec ?_); first | refine .inl ⟨by first | assumption | omega | with_reducible rfl | (refine fun h => h ?_; first | assumption | with_reducible rfl) | (simp only [lenS] <;> omega) | decide, ?_⟩ | refine .inr ⟨by first | assumption | omega | with_reducible rfl | (refine fun h => h ?_; first | assumption | with_reducible rfl) | (simp only [lenS] <;> omega) | decide, ?_⟩) | ((first | refine WPA.ifBt ?_ ?_ | refine WPA.ifBnf ?_ ?_); assumption) | ((first | refine WPA.ifBnt ?_ ?_ | refine WPA.ifBf ?_ ?_); assumption) | ((first | refine WPA.ifs ?_ ?_ | refine WPA.ifB ?_ ?_) <;> intro hc))
        exact QQ.end_ rfl () rfl fun w h => h.to
      · have hcp' : ¬ (1 : Int) < c + 1 := by omega
        repeat' (first | ((rw [hk])) | ((rw [hgk])) | ((rw [hself])) | ((first | refine WLA.m rfl rfl ?_ ?_ | refine WLA.st rfl ?_ ?_ | refine WLA.x rfl rfl ?_ (fun x => ?_) | refine WLA.x0 rfl ?_ (fun x => ?_)); first | exact trivial | exact rfl | assumption | omega | (refine ⟨?_, ?_⟩ <;> omega) | (simp only [Room, lenS]; omega) | decide | skip) | (refine Stp.go ?_) | (refine WPA.ifT ?_) | (refine WPA.ifF ?_) | ((first | refine WPA.dec ?_); first | refine .inl ⟨by first | assumption | omega | with_reducible rfl | (refine fun h => h ?_; first | assumption | with_reducible rfl) | (simp only [lenS] <;> omega) | decide, ?_⟩ | refine .inr ⟨by first | assumption | omega | with_reducible rfl | (refine fun h => h ?_; first | assumption | with_reducible rfl) | (simp only [lenS] <;> omega) | decide, ?_⟩) | ((first | refine WPA.ifBt ?_ ?_ | refine WPA.ifBnf ?_ ?_); assumption) | ((first | refine WPA.ifBnt ?_ ?_ | refine WPA.ifBf ?_ ?_); assumption) | ((first | refine WPA.ifs ?_ ?_ | refine WPA.ifB ?_ ?_) <;> intro hc))
        exact QQ.loopS (j + 1) ⟨rfl, rfl, rfl, rfl, rfl, rfl, rfl, rfl, rfl, rfl, rfl, rfl, trivial⟩ ⟨hjl, by rw [hnx]; exact hns.2 hcp⟩ (by omega) (fun w h => by rw [hnx, ← hcs]; exact h.to)
    · have hjl' : ¬ (j : Int) < cur.length := by omega
      rw [List.take_of_length_le (by omega), ← hsuc] at hnd ⊢
      repeat' (first | ((first | refine WLA.m rfl rfl ?_ ?_ | refine WLA.st rfl ?_ ?_ | refine WLA.x rfl rfl ?_ (fun x => ?_) | refine WLA.x0 rfl ?_ (fun x => ?_)); first | exact trivial | exact rfl | assumption | omega | (refine ⟨?_, ?_⟩ <;> omega) | (simp only [Room, lenS]; omega) | decide | skip) | (refine Stp.go ?_) | (refine WPA.ifT ?_) | (refine WPA.ifF ?_) | ((first | refine WPA.dec ?_); first | refine .inl ⟨by first | assumption | omega | with_reducible rfl | (refine fun h => h ?_; first | assumption | with_reducible rfl) | (simp only [lenS] <;> omega) | decide, ?_⟩ | refine .inr ⟨by first | assumption | omega | with_reducible rfl | (refine fun h => h ?_; first | assumption | with_reducible rfl) | (simp only [lenS] <;> omega) | decide, ?_⟩) | ((first | refine WPA.ifBt ?_ ?_ | refine WPA.ifBnf ?_ ?_); assumption) | ((first | refine WPA.ifBnt ?_ ?_ | refine WPA.ifBf ?_ ?_); assumption) | ((first | refine WPA.ifs ?_ ?_ | refine WPA.ifB ?_ ?_) <;> intro hc))
      refine QQ.loopS (i + 1) ⟨rfl, rfl, rfl, rfl, rfl, rfl, rfl, rfl, rfl, trivial⟩ ⟨hlt, fun k hk => ?_, hnd⟩ (by omega) (fun w h => h.to)
      by_cases hki : k = i
      · subst hki; rw [hq]
      · exact hio k (by omega)
  · have hlt' : ¬ (i : Int) < es.length := by omega
    have hie : i = es.length := by omega
    subst hie
    have hA : ChkA o es ids := ⟨hio, by rw [hl, List.take_length] at hin; exact hin⟩
    obtain ⟨_, ⟨hm1, hm2⟩, T, hT, he⟩ := he.resolve_left fun h => h.1 hA
    generalize cntF (ids.take es.length).flatten = fz
    repeat' (first | ((first | refine WLA.m rfl rfl ?_ ?_ | refine WLA.st rfl ?_ ?_ | refine WLA.x rfl rfl ?_ (fun x => ?_) | refine WLA.x0 rfl ?_ (fun x => ?_)); first | exact trivial | exact rfl | assumption | omega | (refine ⟨?_, ?_⟩ <;> omega) | (simp only [Room, lenS]; omega) | decide | skip) | (refine Stp.go ?_) | (refine WPA.ifT ?_) | (refine WPA.ifF ?_) | ((first | refine WPA.dec ?_); first | refine .inl ⟨by first | assumption | omega | with_reducible rfl | (refine fun h => h ?_; first | assumption | with_reducible rfl) | (simp only [lenS] <;> omega) | decide, ?_⟩ | refine .inr ⟨by first | assumption | omega | with_reducible rfl | (refine fun h => h ?_; first | assumption | with_reducible rfl) | (simp only [lenS] <;> omega) | decide, ?_⟩) | ((first | refine WPA.ifBt ?_ ?_ | refine WPA.ifBnf ?_ ?_); assumption) | ((first | refine WPA.ifBnt ?_ ?_ | refine WPA.ifBf ?_ ?_); assumption) | ((first | refine WPA.ifs ?_ ?_ | refine WPA.ifB ?_ ?_) <;> intro hc))
    refine WPA.loopS (σ := Nat) (fun i => [(0, .pointer (some ⟨S, 0, none⟩)), (1, .int .i64 o), (2, .slice s.a s.n s.cap), (3, .int .i64 f), (8, .int .i64 0), (58, .slice s.a s.n s.cap), (59, .int .i64 es.length), (60, .int .i64 i)])
      (fun i => i ≤ es.length ∧ fstN (fun i => rdE (readS o (at_ es (i : Int)).2.1 (T i))) i = 0) (fun i => SL w0 I (StoreR S m :: L')) (fun i => es.length - i) 0 ⟨rfl, rfl, rfl, rfl, rfl, rfl, rfl, rfl, trivial⟩ ⟨Nat.zero_le _, rfl⟩ (fun w h => h.to) ?_
    rintro i ρ ⟨hil, hz⟩
    by_cases hlt : i < es.length
    · have hlt' : (i : Int) < es.length := by omega
      have hir : (0 : Int) ≤ i ∧ (i : Int) < es.length := by omega
      have hBi := hB i hlt
      have hTi := hT i hlt
      have hoi := hio i hlt
      have hlen : (ids.getD i []).length ≤ 1000000 := by rw [List.getD_eq_getElem?_getD, List.getElem?_eq_getElem (by omega)]; exact hi _ (List.getElem_mem _)
      have hsu := fstN_succ hz
      have hhe := fun h => fstN_here (i := i) hz h es.length hlt
      obtain ⟨q, hq⟩ : ∃ q, at_ es (i : Int) = q := ⟨_, rfl⟩
      rw [hq] at hoi hBi hTi hsu hhe
      obtain ⟨qo, qn, qs⟩ := q
      dsimp only at hoi hBi hTi hsu hhe
      subst hoi
      have hrr : ∀ {L L' : List HP} [FindK L StoreR S m L'], Tr Tryz.prog 18 #[.pointer (some ⟨S, 0, none⟩), .agg #[.int .i64 qo, .int .i64 qn, .slice qs.a qs.n qs.cap]] (SL w0 I L) (fun x : SV => .tuple #[.slice x.a x.n x.cap, .int .i64 (rdE (readS qo qn (T i)))]) (fun x => SL w0 I (CtsH x ((readS qo qn (T i)).getD []) :: StoreR S m :: L')) := fun {L L'} _ => runRead_tr ⟨ho.1, hTi.1⟩ hBi hm1 hm2 hlen hTi.2 rfl
      generalize rdE (readS qo qn (T i)) = z at hrr hsu hhe
      by_cases hz0 : z = 0
      · subst hz0
        repeat' (first | ((rw [hq])) | ((first | refine WLA.m rfl rfl ?_ ?_ | refine WLA.st rfl ?_ ?_ | refine WLA.x rfl rfl ?_ (fun x => ?_) | refine WLA.x0 rfl ?_ (fun x => ?_)); first | exact trivial | exact rfl | assumption | omega | (refine ⟨?_, ?_⟩ <;> omega) | (simp only [Room, lenS]; omega) | decide | skip) | (refine Stp.go ?_) | (guard_target =~ WLA _ _ _ _ _ (⟨_, .call ⟨.value (.func 18), _, _⟩, _, _, _, _⟩ :: _) _ _; refine WLA.call rfl rfl (hrr) ?_; rintro ⟨⟩) | (refine WPA.ifT ?_) | (refine WPA.ifF ?_) | ((first | refine WPA.dec ?_); first | refine .inl ⟨by first | assumption | omega | with_reducible rfl | (refine fun h => h ?_; first | assumption | with_reducible rfl) | (simp only [lenS] <;> omega) | decide, ?_⟩ | refine .inr ⟨by first | assumption | omega | with_reducible rfl | (refine fun h => h ?_; first | assumption | with_reducible rfl) | (simp only [lenS] <;> omega) | decide, ?_⟩) | ((first | refine WPA.ifBt ?_ ?_ | refine WPA.ifBnf ?_ ?_); assumption) | ((first | refine WPA.ifBnt ?_ ?_ | refine WPA.ifBf ?_ ?_); assumption) | ((first | refine WPA.ifs ?_ ?_ | refine WPA.ifB ?_ ?_) <;> intro hc))
        exact QQ.loopS (i + 1) ⟨rfl, rfl, rfl, rfl, rfl, rfl, rfl, rfl, trivial⟩ ⟨hlt, hsu⟩ (by omega) (fun w h => h.to)
      · have hez : e = z := he.trans (hhe hz0)
        subst hez
        repeat' (first | ((rw [hq])) | ((first | refine WLA.m rfl rfl ?_ ?_ | refine WLA.st rfl ?_ ?_ | refine WLA.x rfl rfl ?_ (fun x => ?_) | refine WLA.x0 rfl ?_ (fun x => ?_)); first | exact trivial | exact rfl | assumption | omega | (refine ⟨?_, ?_⟩ <;> omega) | (simp only [Room, lenS]; omega) | decide | skip) | (refine Stp.go ?_) | (guard_target =~ WLA _ _ _ _ _ (⟨_, .call ⟨.value (.func 18), _, _⟩, _, _, _, _⟩ :: _) _ _; refine WLA.call rfl rfl (hrr) ?_; rintro ⟨⟩) | (refine WPA.ifT ?_) | (refine WPA.ifF ?_) | ((first | refine WPA.dec ?_); first | refine .inl ⟨by first | assumption | omega | with_reducible rfl | (refine fun h => h ?_; first | assumption | with_reducible rfl) | (simp only [lenS] <;> omega) | decide, ?_⟩ | refine .inr ⟨by first | assumption | omega | with_reducible rfl | (refine fun h => h ?_; first | assumption | with_reducible rfl) | (simp only [lenS] <;> omega) | decide, ?_⟩) | ((first | refine WPA.ifBt ?_ ?_ | refine WPA.ifBnf ?_ ?_); assumption) | ((first | refine WPA.ifBnt ?_ ?_ | refine WPA.ifBf ?_ ?_); assumption) | ((first | refine WPA.ifs ?_ ?_ | refine WPA.ifB ?_ ?_) <;> intro hc))
        exact QQ.end_ rfl () rfl fun w h => h.to
    · have hlt' : ¬ (i : Int) < es.length := by omega
      have hie : i = es.length := by omega
      subst hie
      rw [hz] at he
      subst he
      repeat' (first | ((first | refine WLA.m rfl rfl ?_ ?_ | refine WLA.st rfl ?_ ?_ | refine WLA.x rfl rfl ?_ (fun x => ?_) | refine WLA.x0 rfl ?_ (fun x => ?_)); first | exact trivial | exact rfl | assumption | omega | (refine ⟨?_, ?_⟩ <;> omega) | (simp only [Room, lenS]; omega) | decide | skip) | (refine Stp.go ?_) | (refine WPA.ifT ?_) | (refine WPA.ifF ?_) | ((first | refine WPA.dec ?_); first | refine .inl ⟨by first | assumption | omega | with_reducible rfl | (refine fun h => h ?_; first | assumption | with_reducible rfl) | (simp only [lenS] <;> omega) | decide, ?_⟩ | refine .inr ⟨by first | assumption | omega | with_reducible rfl | (refine fun h => h ?_; first | assumption | with_reducible rfl) | (simp only [lenS] <;> omega) | decide, ?_⟩) | ((first | refine WPA.ifBt ?_ ?_ | refine WPA.ifBnf ?_ ?_); assumption) | ((first | refine WPA.ifBnt ?_ ?_ | refine WPA.ifBf ?_ ?_); assumption) | ((first | refine WPA.ifs ?_ ?_ | refine WPA.ifB ?_ ?_) <;> intro hc))
      exact QQ.end_ rfl () rfl fun w h => h.to
end
end Go.Proofs.YtamnobjdgjbmbaaGreat
namespace Go.Fw
open Go Go.RowKit
set_option linter.unusedVariables false
theorem SL.borrow {w0 : World} {I : Foot} {p : HP} {L : List HP} {w : World} (h : SL w0 I (p :: L) w) : ∃ R, p R ∧ SL w0 (R ++ I) L w ∧ ∀ L' w', SL w0 (R ++ I) L' w' → SL w0 I (p :: L') w' := by
  obtain ⟨H, R, Rs, h1, hp, h2, h3⟩ := h.uncons
  refine ⟨R, hp, ?_, fun L' w' h' => ?_⟩
  · have key : ∀ (R : Foot) (H : HeapP) (I : Foot), (∀ b o, (b, o) ∈ I → H b = some o) → St w0 H (R ++ Rs.flatten) w → ∃ H', (∀ b o, (b, o) ∈ R ++ I → H' b = some o) ∧ St w0 H' Rs.flatten w := by
      intro R
      induction R with
      | nil => intro H I h1 h3; exact ⟨H, h1, h3⟩
      | cons q R ih =>
        intro H I h1 h3
        obtain ⟨H1, hle, hb, h4⟩ := St.freeze (b := q.1) (o := q.2) h3
        obtain ⟨H2, h5, h6⟩ := ih H1 ((q.1, q.2) :: I) (fun b o hm => by
          rcases List.mem_cons.1 hm with e | hm
          · cases e; exact hb
          · exact hle _ _ (h1 b o hm)) h4
        refine ⟨H2, fun b o hm => h5 b o ?_, h6⟩
        simp only [List.cons_append, List.mem_cons, List.mem_append] at hm ⊢
        rcases hm with e | hm | hm
        · exact .inr (.inl e)
        · exact .inl hm
        · exact .inr (.inr hm)
    obtain ⟨H', h4, h5⟩ := key R H I h1 h3
    exact ⟨H', Rs, h4, h2, h5⟩
  · obtain ⟨H', Rs', a1, a2, a3⟩ := h'
    classical
    have hR : ∀ q ∈ R, H q.1 = none ∧ w0.heap.size ≤ q.1 := fun q hq => (h3.own q (List.mem_append_left _ hq)).2
    have hR2 : ∀ q ∈ R, H' q.1 = some q.2 := fun q hq => a1 q.1 q.2 (List.mem_append_left _ hq)
    have hn := h3.nodup
    rw [List.map_append, List.nodup_append] at hn
    refine SL.cons (H := fun b => if b ∈ R.map (·.1) then none else H' b) (fun b o hb => ?_) hp a2 ⟨a3.below, fun b o hb => ?_, fun q hq => ?_, ?_, a3.drw⟩
    · have hnb : ¬ b ∈ R.map (·.1) := fun hm => by
        obtain ⟨q, hq, rfl⟩ := List.mem_map.1 hm
        have := h1 _ _ hb
        rw [(hR q hq).1] at this; cases this
      simp only [hnb, if_false]
      exact a1 b o (List.mem_append_right _ hb)
    · by_cases hm : b ∈ R.map (·.1)
      · simp only [hm, if_true] at hb; cases hb
      · simp only [hm, if_false] at hb; exact a3.imm b o hb
    · rcases List.mem_append.1 hq with hq | hq
      · have hm : q.1 ∈ R.map (·.1) := List.mem_map_of_mem hq
        exact ⟨a3.imm _ _ (hR2 q hq), by simp only [hm, if_true], (hR q hq).2⟩
      · obtain ⟨g1, g2, g3⟩ := a3.own q hq
        refine ⟨g1, ?_, g3⟩
        show (if q.1 ∈ R.map (·.1) then none else H' q.1) = none
        split
        · rfl
        · exact g2
    · rw [List.map_append, List.nodup_append]
      refine ⟨hn.1, a3.nodup, fun a ha b hb e => ?_⟩
      obtain ⟨q, hq, rfl⟩ := List.mem_map.1 ha
      obtain ⟨r, hr, rfl⟩ := List.mem_map.1 hb
      have := hR2 q hq
      rw [e, (a3.own r hr).2.1] at this; cases this
theorem RowH.perm {α : Type} [Enc α] {e : TypeId} {l l' : List (SV × List α)} (h : l.Perm l') : ∀ {L : List HP}, Ent (RowH e (l.map Prod.fst) (l.map Prod.snd) :: L) (RowH e (l'.map Prod.fst) (l'.map Prod.snd) :: L) := by
  induction h with
  | nil => exact Ent.refl
  | cons x _ ih =>
    intro L
    simp only [List.map_cons, RowH]
    exact Ent.unstar.trans ((Ent.cons ih).trans (Ent.star Ent.refl))
  | swap x y l =>
    intro L
    simp only [List.map_cons, RowH]
    exact Ent.unstar.trans ((Ent.cons Ent.unstar).trans (Ent.swap.trans ((Ent.cons (Ent.star Ent.refl)).trans (Ent.star Ent.refl))))
  | trans _ _ i1 i2 => exact i1.trans i2
theorem Tr.ap {P : Program} {f : FuncId} {args : Array Value} {A : World → Prop} {τ : Type} {val : τ → Value} {B : τ → World → Prop} (h : Tr P f args A val B) {w : World} (hw : A w) : Calls P f args w fun e w' => ∃ x, e = .returned (val x) ∧ B x w' := h w hw
theorem Tr.mk {P : Program} {f : FuncId} {args : Array Value} {A : World → Prop} {τ : Type} {val : τ → Value} {B : τ → World → Prop} (h : ∀ w, A w → Calls P f args w fun e w' => ∃ x, e = .returned (val x) ∧ B x w') : Tr P f args A val B := h
end Go.Fw
namespace Go.Proofs.YtamnobjdgjbmbaaGreat
open Go Go.Fw Go.RowKit
set_option linter.unusedVariables false
set_option linter.unusedSimpArgs false
set_option maxRecDepth 100000
set_option maxHeartbeats 16000000
set_option synthInstance.maxHeartbeats 200000
set_option synthInstance.maxSize 100000
attribute [local irreducible] WPA WLA WDA WDQ WDE QQ seqQ blockQ loopQ fnQ OpP OpT Tr TrP SL SLd OwnS LitS Bk BkE Ob
attribute [local irreducible] vS keyS parL RowH CtsH
def LsI (J : Foot) (vs : List SV) (ls : List (List Ct)) : Prop := vs.length = ls.length ∧ ∀ j : Nat, j < ls.length → LstI J (at_ vs (j : Int)) (ls.getD j [])
theorem LsI.sub {J J' : Foot} {vs : List SV} {ls : List (List Ct)} (h : LsI J vs ls) (hs : SubI J' J) : LsI J' vs ls := ⟨h.1, fun j hj => (h.2 j hj).sub hs⟩
theorem LsI.good {J : Foot} {vs : List SV} {ls : List (List Ct)} (h : LsI J vs ls) (hg : ∀ ms ∈ ls, Ris id ms ∧ ∀ m ∈ ms, m.1.length ≤ 1000000) {w0 : World} {L : List HP} {w : World} (hw : SL w0 J L w) :
    (∀ v ∈ vs, GoodL J (rd Int J) (rd Pe J) v) ∧ (vs.flatMap (rd Pe J)).map (moP (rd Int J)) = ls.flatten := by
  have hl := h.1
  have key : ∀ j (hj : j < vs.length), SlI J vs[j] Pe inferInstance (rd Pe J vs[j]) ∧ GrG J (rd Int J) (rd Pe J vs[j]) ∧ (rd Pe J vs[j]).map (ctP (rd Int J)) = ls[j]'(by omega) := fun j hj => by
    have h1 := (h.2 j (by omega)).good hw
    rw [at_nat vs j hj, List.getD_eq_getElem?_getD, List.getElem?_eq_getElem (show j < ls.length by omega), Option.getD_some] at h1
    exact h1
  constructor
  · intro v hv
    obtain ⟨j, hj, rfl⟩ := List.getElem_of_mem hv
    obtain ⟨k1, k2, k3⟩ := key j hj
    have hgj := hg _ (List.getElem_mem (show j < ls.length by omega))
    rw [← k3] at hgj
    refine ⟨k1, fun p hp => ⟨k2 p hp, ?_⟩, ?_⟩
    · exact hgj.2 _ (List.mem_map.2 ⟨p, hp, rfl⟩)
    · have := hgj.1
      unfold Ris at this ⊢
      rw [List.pairwise_map] at this
      exact this
  · have e : vs.map (fun v => (rd Pe J v).map (ctP (rd Int J))) = ls := List.ext_getElem (by simp [hl]) fun j j1 j2 => by
      rw [List.getElem_map]; exact (key j (by rw [List.length_map] at j1; exact j1)).2.2
    rw [← e]
    clear e key hg hl h
    induction vs with
    | nil => rfl
    | cons v vs ih => rw [List.flatMap_cons, List.map_append, ih, List.map_cons, List.flatten_cons]; rfl
section
variable {L L' : List HP} {w0 : World} {I : Foot}
section
variable {s : SV} {ms : List Ct}
theorem runWrite_trI {S : Nat} {m m' : BS} {o e a b : Int} {ids : List Int} [h : FindK L StoreR S m L'] (ok : m.Ok) (hs : LstI I s ms) (hl : ∀ m ∈ ms, m.1.length ≤ 1000) (hn : ms.length ≤ 1000000) (he : e = errW o ms m) (hx : WrX o ms m e a b m' ids) :
    Tr Tryz.prog 22 #[.pointer (some ⟨S, 0, none⟩), .int .i64 o, .slice s.a s.n s.cap] (SL w0 I L) (fun r : SV => .tuple #[.agg #[.int .i64 a, .int .i64 b, .slice r.a r.n r.cap], .int .i64 e]) (fun r => SL w0 I (OwnS 3 r ids :: StoreR S m' :: L')) := by
  refine Tr.mk fun w hw => ?_
  obtain ⟨h1, h2, h3⟩ := hs.good hw
  rw [← h3] at he hx hl hn
  rw [List.length_map] at hn
  exact (runWrite_tr ok h1 h2 (fun p hp => hl _ (List.mem_map.2 ⟨p, hp, rfl⟩)) hn he hx).ap hw
theorem Wrong_trI {o : Int} (hs : LstI I s ms) (hl : ∀ m ∈ ms, m.1.length ≤ 1000000) (hn : ms.length ≤ 1000000) :
    Tr Tryz.prog 10 #[.int .i64 o, .slice s.a s.n s.cap] (SL w0 I L) (fun _ : Unit => .int .i64 (wrong o ms)) (fun _ => SL w0 I L) := by
  refine Tr.mk fun w hw => ?_
  obtain ⟨h1, h2, h3⟩ := hs.good hw
  have := Wrong_tr (w0 := w0) (L := L) (o := o) h1 h2 (fun p hp => by rw [← h3] at hl; exact hl _ (List.mem_map.2 ⟨p, hp, rfl⟩)) (by rw [← h3, List.length_map] at hn; exact hn)
  rw [h3] at this
  exact this.ap hw
end
end
theorem wrong_len8 {o : Int} {ms : List Ct} (h : wrong o ms = 0) : ∀ m ∈ ms, m.1.length ≤ 8 := fun m hm => by
  have h1 := (wrong_good h m hm).1
  have h2 := (wrong_zero h).1
  omega
end Go.Proofs.YtamnobjdgjbmbaaGreat
namespace Go.Fw
open Go Go.RowKit Go.Sort
set_option linter.unusedVariables false
set_option linter.unusedSimpArgs false
set_option maxHeartbeats 2000000
theorem St.grown {w0 : World} {H : HeapP} {L : Foot} {w : World} (h : St w0 H L w) (os : Array Obj) : St w0 H L (grow w os) := by
  have hk : ∀ b u, w.heap[b]? = some u → (grow w os).heap[b]? = some u := fun b u e => by
    rw [heap_grow_old w os (Array.getElem?_eq_some_iff.1 e).1]; exact e
  refine ⟨⟨h.below.os, h.below.tape, h.below.output, ?_, fun k hk' => ?_⟩, fun b u e => hk b u (h.imm b u e), fun p hp => ?_, h.nodup, h.drw⟩
  · have := h.below.size; simp only [grow, Array.size_append]; omega
  · rw [heap_grow_old w os (by have := h.below.size; omega)]; exact h.below.block k hk'
  · obtain ⟨h1, h2, h3⟩ := h.own p hp; exact ⟨hk _ _ h1, h2, h3⟩
theorem SL.row {α : Type} [Enc α] {w0 : World} {I : Foot} {L : List HP} {w : World} {e : TypeId} {s : SV} {xs : List α} (h : SL w0 I (OwnS e s xs :: L) w) (hn : 0 < xs.length) : ∃ g, s.a = some ⟨g, 0, none⟩ ∧ s.n = xs.length ∧ g < w.heap.size ∧ ∀ F : Array Value, F.toList = flat xs → Holds id w g 0 F := by
  obtain ⟨H, R, Rs, h1, hp, h2, h3⟩ := h.uncons
  have hsn := OwnR.len hp
  rcases hp.2 with ⟨q1, q2, q3⟩ | ⟨gb, cap, cur, q1, q2, q3, q4, q5, q6⟩
  · omega
  · simp only [Value.slice.injEq] at q1
    subst q6
    have hat := h3.at_ (j := 0) rfl
    refine ⟨gb, q1.1, hsn, (Array.getElem?_eq_some_iff.1 hat).1, fun F hF j hj => ⟨?_, ?_⟩⟩
    · have hj' : j < (flat xs).length := by rw [← hF]; simpa using hj
      have hg : (flat xs)[j]? = some (F[j]!) := by
        rw [← hF]; simp [hj]
      rw [← q5, List.getElem?_take] at hg
      split at hg
      · simp only [World.cell?, hat, Nat.zero_add, id]
        simpa using hg
      · cases hg
    · simp only [World.frozen?, hat]
      simp
theorem SL.drw {w0 : World} {I : Foot} {L : List HP} {w : World} (h : SL w0 I L w) : w0.drawn ≤ w.drawn := by
  obtain ⟨H, Rs, _, _, h⟩ := h; exact h.drw
end Go.Fw
namespace Go.Proofs.YtamnobjdgjbmbaaGreat
open Go Go.Fw Go.RowKit
set_option linter.unusedVariables false
set_option linter.unusedSimpArgs false
set_option maxRecDepth 100000
set_option maxHeartbeats 16000000
set_option synthInstance.maxHeartbeats 200000
set_option synthInstance.maxSize 100000
attribute [local irreducible] WPA WLA WDA WDQ WDE QQ seqQ blockQ loopQ fnQ OpP OpT Tr TrP SL SLd OwnS LitS Bk BkE Ob
attribute [local irreducible] vS keyS parL RowH CtsH MarksH
section
variable {L L' : List HP} {w0 : World} {I : Foot} {S : Nat}
theorem Runs_nil {o f : Int} {s : SV} : Tr Tryz.prog 14 #[.pointer none, .int .i64 o, .slice s.a s.n s.cap, .int .i64 f] (SL w0 I L) (fun _ : Unit => .tuple #[.agg #[.int .i64 0, .int .i64 0, .slice none 0 0], .int .i64 0, .int .i64 11]) (fun _ => SL w0 I L) := by
  refine Tr.intro Tryz.func14 rfl Tryz.ntmps14 rfl ?_
  repeat' (first | ((first | refine WLA.m rfl rfl ?_ ?_ | refine WLA.st rfl ?_ ?_ | refine WLA.x rfl rfl ?_ (fun x => ?_) | refine WLA.x0 rfl ?_ (fun x => ?_)); first | exact trivial | exact rfl | assumption | omega | (refine ⟨?_, ?_⟩ <;> omega) | (simp only [Room, lenS]; omega) | decide | skip) | (refine Stp.go ?_) | (guard_target =~ WLA _ _ _ _ _ (⟨_, .call ⟨.value (.func 42), _, _⟩, _, _, _, _⟩ :: _) _ _; refine WLA.call rfl rfl (mck_nil) ?_; rintro ⟨⟩) | (refine WPA.ifT ?_) | (refine WPA.ifF ?_) | ((first | refine WPA.dec ?_); first | refine .inl ⟨by first | assumption | omega | with_reducible rfl | (refine fun h => h ?_; first | assumption | with_reducible rfl) | (simp only [lenS] <;> omega) | decide, ?_⟩ | refine .inr ⟨by first | assumption | omega | with_reducible rfl | (refine fun h => h ?_; first | assumption | with_reducible rfl) | (simp only [lenS] <;> omega) | decide, ?_⟩) | ((first | refine WPA.ifBt ?_ ?_ | refine WPA.ifBnf ?_ ?_); assumption) | ((first | refine WPA.ifBnt ?_ ?_ | refine WPA.ifBf ?_ ?_); assumption) | ((first | refine WPA.ifs ?_ ?_ | refine WPA.ifB ?_ ?_) <;> intro hc))
  exact QQ.endc rfl () rfl fun w h => h.to
theorem Runs_bad {m : BS} {o f e : Int} {s : SV} [h : FindK L StoreR S m L'] (he : e ≠ 0) (hck : ∀ {L L' : List HP} [FindK L StoreR S m L'], Tr Tryz.prog 42 #[.pointer (some ⟨S, 0, none⟩), .int .i64 o, .slice s.a s.n s.cap, .int .i64 f] (SL w0 I L) (fun _ : Unit => .int .i64 e) (fun _ => SL w0 I (StoreR S m :: L'))) :
    Tr Tryz.prog 14 #[.pointer (some ⟨S, 0, none⟩), .int .i64 o, .slice s.a s.n s.cap, .int .i64 f] (SL w0 I L) (fun _ : Unit => .tuple #[.agg #[.int .i64 0, .int .i64 0, .slice none 0 0], .int .i64 0, .int .i64 e]) (fun _ => SL w0 I (StoreR S m :: L')) := by
  refine Tr.at h.out ?_
  refine Tr.intro Tryz.func14 rfl Tryz.ntmps14 rfl ?_
  repeat' (first | ((first | refine WLA.m rfl rfl ?_ ?_ | refine WLA.st rfl ?_ ?_ | refine WLA.x rfl rfl ?_ (fun x => ?_) | refine WLA.x0 rfl ?_ (fun x => ?_)); first | exact trivial | exact rfl | assumption | omega | (refine ⟨?_, ?_⟩ <;> omega) | (simp only [Room, lenS]; omega) | decide | skip) | (refine Stp.go ?_) | (guard_target =~ WLA _ _ _ _ _ (⟨_, .call ⟨.value (.func 42), _, _⟩, _, _, _, _⟩ :: _) _ _; refine WLA.call rfl rfl (hck) ?_; rintro ⟨⟩) | (refine WPA.ifT ?_) | (refine WPA.ifF ?_) | ((first | refine WPA.dec ?_); first | refine .inl ⟨by first | assumption | omega | with_reducible rfl | (refine fun h => h ?_; first | assumption | with_reducible rfl) | (simp only [lenS] <;> omega) | decide, ?_⟩ | refine .inr ⟨by first | assumption | omega | with_reducible rfl | (refine fun h => h ?_; first | assumption | with_reducible rfl) | (simp only [lenS] <;> omega) | decide, ?_⟩) | ((first | refine WPA.ifBt ?_ ?_ | refine WPA.ifBnf ?_ ?_); assumption) | ((first | refine WPA.ifBnt ?_ ?_ | refine WPA.ifBf ?_ ?_); assumption) | ((first | refine WPA.ifs ?_ ?_ | refine WPA.ifB ?_ ?_) <;> intro hc))
  exact QQ.endc rfl () rfl fun w h => h.to
end
end Go.Proofs.YtamnobjdgjbmbaaGreat
namespace Go.Proofs.YtamnobjdgjbmbaaGreat
open Go Go.Fw Go.RowKit
set_option linter.unusedVariables false
set_option linter.unusedSimpArgs false
set_option maxRecDepth 100000
set_option maxHeartbeats 16000000
set_option synthInstance.maxHeartbeats 200000
set_option synthInstance.maxSize 100000
attribute [local irreducible] WPA WLA WDA WDQ WDE QQ seqQ blockQ loopQ fnQ OpP OpT Tr TrP SL SLd OwnS LitS Bk BkE Ob
attribute [local irreducible] RowH
theorem live_tr21 (w0 : World) (I : Foot) (L : List HP) : Tr Tryz.prog 9 #[] (SL w0 I L) (fun _ : Unit => .bool true) (fun _ => SL w0 I L) := by
  refine Tr.intro Tryz.func9 rfl Tryz.ntmps9 rfl ?_
  repeat' ((fail_if_success (guard_target =~ WPA _ _ _ (.region 3 _ _) _ _ _)); first | (guard_target =~ WLA _ _ _ _ _ (⟨_, .build _ _, _, _, _, _⟩ :: _) _ _; refine WLA.freeze fun R hR => ?_; have hs := SlI.ofLit hR; clear hR; refine WLA.m rfl rfl trivial ?_) | ((first | refine WLA.m rfl rfl ?_ ?_ | refine WLA.st rfl ?_ ?_ | refine WLA.x rfl rfl ?_ (fun x => ?_) | refine WLA.x0 rfl ?_ (fun x => ?_)); first | exact trivial | exact rfl | assumption | omega | (refine ⟨?_, ?_⟩ <;> omega) | (simp only [Room, lenS]; omega) | decide | skip) | (refine Stp.go ?_) | (refine WPA.ifT ?_) | (refine WPA.ifF ?_) | ((first | refine WPA.dec ?_); first | refine .inl ⟨by first | assumption | omega | with_reducible rfl | (refine fun h => h ?_; first | assumption | with_reducible rfl) | (simp only [lenS] <;> omega) | decide, ?_⟩ | refine .inr ⟨by first | assumption | omega | with_reducible rfl | (refine fun h => h ?_; first | assumption | with_reducible rfl) | (simp only [lenS] <;> omega) | decide, ?_⟩) | ((first | refine WPA.ifBt ?_ ?_ | refine WPA.ifBnf ?_ ?_); assumption) | ((first | refine WPA.ifBnt ?_ ?_ | refine WPA.ifBf ?_ ?_); assumption) | ((first | refine WPA.ifs ?_ ?_ | refine WPA.ifB ?_ ?_) <;> intro hc))
  rename_i g1 R1 k1 g3 R2 k3 sa g5 R3 k5 g2
  refine WPA.freeze fun RB hB => ?_
  have gB := SlI.ofLit hB
  refine WPA.freeze fun RA hA => ?_
  have gA := SlI.ofLit hA
  have hsub : SubI (RA ++ (RB ++ (R ++ (R3 ++ (R2 ++ (R1 ++ I)))))) I := inferInstance
  have j1 : SlI (RA ++ (RB ++ (R ++ (R3 ++ (R2 ++ (R1 ++ I)))))) g1 Int inferInstance [1] := inferInstance
  have j3 : SlI (RA ++ (RB ++ (R ++ (R3 ++ (R2 ++ (R1 ++ I)))))) g3 Int inferInstance [3] := inferInstance
  have j5 : SlI (RA ++ (RB ++ (R ++ (R3 ++ (R2 ++ (R1 ++ I)))))) g5 Int inferInstance [1] := inferInstance
  have j2 : SlI (RA ++ (RB ++ (R ++ (R3 ++ (R2 ++ (R1 ++ I)))))) g2 Int inferInstance [2] := inferInstance
  have ja : SlI (RA ++ (RB ++ (R ++ (R3 ++ (R2 ++ (R1 ++ I)))))) sa (SV × Int) inferInstance [(g1, 2), (g3, 1)] := inferInstance
  have jb : SlI (RA ++ (RB ++ (R ++ (R3 ++ (R2 ++ (R1 ++ I)))))) x (SV × Int) inferInstance [(g5, 5), (g2, 1)] := inferInstance
  generalize RA ++ (RB ++ (R ++ (R3 ++ (R2 ++ (R1 ++ I))))) = J at hsub j1 j3 j5 j2 ja jb
  refine WPA.rd j1 fun e1 => WPA.rd j3 fun e3 => WPA.rd j5 fun e5 => WPA.rd j2 fun e2 => WPA.rd ja fun ea => WPA.rd jb fun eb => ?_
  have hG : ∀ h ∈ [sa, x], GoodL J (rd Int J) (rd (SV × Int) J) h := by
    intro h hm
    simp only [List.mem_cons, List.not_mem_nil, or_false] at hm
    rcases hm with rfl | rfl
    · refine goodL_rd ja ea (fun p hp => ?_) ?_
      · simp only [List.mem_cons, List.not_mem_nil, or_false] at hp
        rcases hp with rfl | rfl
        · dsimp only; rw [e1]; exact ⟨j1, by decide⟩
        · dsimp only; rw [e3]; exact ⟨j3, by decide⟩
      · unfold Ris; simp only [List.pairwise_cons, List.mem_cons, List.not_mem_nil, or_false, forall_eq, e1, e3]; simp [ltL, cmpL]
    · refine goodL_rd jb eb (fun p hp => ?_) ?_
      · simp only [List.mem_cons, List.not_mem_nil, or_false] at hp
        rcases hp with rfl | rfl
        · dsimp only; rw [e5]; exact ⟨j5, by decide⟩
        · dsimp only; rw [e2]; exact ⟨j2, by decide⟩
      · unfold Ris; simp only [List.pairwise_cons, List.mem_cons, List.not_mem_nil, or_false, forall_eq, e5, e2]; simp [ltL, cmpL]
  have hrem : remL (rd Int J) (rd (SV × Int) J) ([sa, x].map fun h => (h, 0)) = [([1], 2), ([3], 1), ([1], 5), ([2], 1)] := by simp [remL, remC, moP, ea, eb, e1, e3, e5, e2]
  have hL : ∀ {s : SV} {L : List HP} [RdS J L s SV inferInstance [sa, x]], Tr Tryz.prog 36 #[.slice s.a s.n s.cap] (SL w0 J L) (fun x : SV × List (SV × Int) => .slice x.1.a x.1.n x.1.cap)
      (fun x w => x.2.map Prod.snd = ([([1], 7), ([2], 1), ([3], 1)] : List Ct).map Prod.snd ∧ SL w0 J (OwnS 84 x.1 x.2 :: RowH 3 (x.2.map Prod.fst) (([([1], 7), ([2], 1), ([3], 1)] : List Ct).map Prod.fst) :: L) w) := by
    intro s L _
    have := Lists_tr (s := s) (L := L) (w0 := w0) hG (by rw [hrem]; simp)
    rw [hrem, show ([([1], 2), ([3], 1), ([1], 5), ([2], 1)] : List Ct).foldl putM [] = [([1], 7), ([2], 1), ([3], 1)] from by decide +kernel] at this
    exact this
  have p1 : passes 2 5 = 3 := by rw [passes, dif_pos (by decide), show cd 5 2 = 3 from by decide, passes, dif_pos (by decide), show cd 3 2 = 2 from by decide, passes, dif_pos (by decide), show cd 2 2 = 1 from by decide, passes, dif_neg (by decide)]; rfl
  have p2 : passes 3 9 = 2 := by rw [passes, dif_pos (by decide), show cd 9 3 = 3 from by decide, passes, dif_pos (by decide), show cd 3 3 = 1 from by decide, passes, dif_neg (by decide)]; rfl
  have q1 : passes 2 5 = 3 := p1
  repeat' (first | ((first | refine WLA.m rfl rfl ?_ ?_ | refine WLA.st rfl ?_ ?_ | refine WLA.x rfl rfl ?_ (fun x => ?_) | refine WLA.x0 rfl ?_ (fun x => ?_)); first | exact trivial | exact rfl | assumption | omega | (refine ⟨?_, ?_⟩ <;> omega) | (simp only [Room, lenS]; omega) | decide | skip) | (refine Stp.go ?_) | (guard_target =~ WLA _ _ _ _ _ (⟨_, .call ⟨.value (.func 36), _, _⟩, _, _, _, _⟩ :: _) _ _; refine WLA.call rfl rfl (hL) ?_; rintro ⟨r, cs⟩; refine WLA.pure fun hcs => ?_; dsimp only at hcs ⊢; refine WLA.ent Ent.swap ?_; refine WLA.freeze fun R hR => ?_) | (guard_target =~ WLA _ _ _ _ _ (⟨_, .call ⟨.value (.func 37), _, _⟩, _, _, _, _⟩ :: _) _ _; refine WLA.cq rfl rfl (Passes_tr (by decide)) ?_) | (guard_target =~ WLA _ _ _ _ _ (⟨_, .call ⟨.value (.func 19), _, _⟩, _, _, _, _⟩ :: _) _ _; refine WLA.cq rfl rfl (Same_trC hcs (row_at hR hcs) (by decide) (by decide)) ?_) | (refine WPA.ifT ?_) | (refine WPA.ifF ?_) | (refine WLA.no rfl rfl ?_) | ((first | refine WPA.dec ?_ | ((fail_if_success (guard_target =~ WLA _ _ _ _ _ _ (put1 _ _ (.bool true)) _)); (fail_if_success (guard_target =~ WLA _ _ _ _ _ _ (put1 _ _ (.bool false)) _)); refine WLA.dec rfl rfl ?_) | refine WLA.pk ?_); first | refine .inl ⟨by first | assumption | omega | with_reducible rfl | (refine fun h => h ?_; first | assumption | with_reducible rfl) | (simp only [lenS] <;> omega) | decide, ?_⟩ | refine .inr ⟨by first | assumption | omega | with_reducible rfl | (refine fun h => h ?_; first | assumption | with_reducible rfl) | (simp only [lenS] <;> omega) | decide, ?_⟩) | ((first | refine WPA.ifBt ?_ ?_ | refine WPA.ifBnf ?_ ?_); assumption) | ((first | refine WPA.ifBnt ?_ ?_ | refine WPA.ifBf ?_ ?_); assumption) | ((first | refine WPA.ifs ?_ ?_ | refine WPA.ifB ?_ ?_) <;> intro hc) | ((fail_if_success (guard_target =~ WLA _ _ _ _ _ _ (put1 _ _ (.bool true)) _)); (fail_if_success (guard_target =~ WLA _ _ _ _ _ _ (put1 _ _ (.bool false)) _)); (first | refine WLA.both rfl rfl ?_ ?_ | refine WLA.bothB rfl rfl ?_ ?_) <;> intro hg))
  exact QQ.end_ rfl () (congrArg Value.bool (by decide)) fun w h => (h.unI.sub hsub.out).to
end Go.Proofs.YtamnobjdgjbmbaaGreat
namespace Go.Proofs.YtamnobjdgjbmbaaGreat
open Go Go.Fw Go.RowKit
set_option linter.unusedVariables false
set_option linter.unusedSimpArgs false
set_option maxRecDepth 100000
set_option maxHeartbeats 16000000
set_option synthInstance.maxHeartbeats 200000
set_option synthInstance.maxSize 100000
attribute [local irreducible] WPA WLA WDA WDQ WDE QQ seqQ blockQ loopQ fnQ OpP OpT Tr TrP SL SLd OwnS LitS Bk BkE Ob
attribute [local irreducible] vS keyS parL RowH CtsH
def blkN (z : Int) (n : Nat) : Int := (n + z - 1) / z
def blkS (z : Int) (ls : List (List Ct)) : Int := (ls.map fun ms => blkN z (byS ms).size).sum
theorem blkN_le {z : Int} {n : Nat} (hz : 1 ≤ z) : 0 ≤ blkN z n ∧ blkN z n ≤ n ∧ (n : Int) ≤ z * blkN z n := by
  unfold blkN
  have h1 := Int.mul_ediv_add_emod (n + z - 1) z
  have h2 := Int.emod_lt_of_pos (n + z - 1 : Int) (by omega : 0 < z)
  have h3 := Int.emod_nonneg (n + z - 1 : Int) (by omega : z ≠ 0)
  generalize (n + z - 1 : Int) / z = q at h1
  generalize (n + z - 1 : Int) % z = r at h1 h2 h3
  have hq0 : 0 ≤ q := by
    by_cases h : q < 0
    · have : z * q ≤ z * (-1) := Int.mul_le_mul_of_nonneg_left (by omega) (by omega)
      omega
    · omega
  refine ⟨hq0, ?_, by omega⟩
  by_cases h : (n : Int) < q
  · have h4 : z * (n + 1) ≤ z * q := Int.mul_le_mul_of_nonneg_left (by omega) (by omega)
    rw [Int.mul_add, Int.mul_one] at h4
    have h5 : 1 * (n : Int) ≤ z * n := Int.mul_le_mul_of_nonneg_right hz (by omega)
    omega
  · omega
theorem blkN_eq {z c : Int} {n : Nat} (hz : 1 ≤ z) (h1 : c * z < n + z) (h2 : (n : Int) ≤ c * z) : c = blkN z n := by
  unfold blkN
  have e : (n + z - 1 : Int) = (n + z - 1 - z * c) + z * c := by omega
  rw [e, Int.add_mul_ediv_left _ _ (by omega : z ≠ 0), Int.ediv_eq_zero_of_lt]
  · omega
  · rw [Int.mul_comm]; omega
  · rw [Int.mul_comm]; omega
theorem blkS_snoc (z : Int) (ls : List (List Ct)) (ms : List Ct) : blkS z (ls ++ [ms]) = blkS z ls + blkN z (byS ms).size := by
  unfold blkS; rw [List.map_append, List.sum_append]; simp
theorem blkS_nonneg {z : Int} (hz : 1 ≤ z) : ∀ ls : List (List Ct), 0 ≤ blkS z ls
  | [] => Int.le_refl 0
  | ms :: ls => by
    have h1 := blkS_nonneg hz ls
    have h2 := (blkN_le (n := (byS ms).size) hz).1
    have : blkS z (ms :: ls) = blkN z (byS ms).size + blkS z ls := rfl
    omega
theorem blkS_take {z : Int} (hz : 1 ≤ z) {ls : List (List Ct)} {i : Nat} (hi : i < ls.length) : blkS z (ls.take i) + blkN z (byS (ls.getD i [])).size ≤ blkS z ls := by
  have e : ls = (ls.take i ++ [ls.getD i []]) ++ ls.drop (i + 1) := by
    rw [List.append_assoc, List.singleton_append, List.getD_eq_getElem?_getD, List.getElem?_eq_getElem hi, Option.getD_some, List.getElem_cons_drop, List.take_append_drop]
  have h1 := blkS_nonneg hz (ls.drop (i + 1))
  have h2 : blkS z ls = blkS z (ls.take i ++ [ls.getD i []]) + blkS z (ls.drop (i + 1)) := by
    conv => lhs; rw [e]
    unfold blkS; rw [List.map_append, List.sum_append]
  rw [blkS_snoc] at h2
  omega
theorem flat_pre_len {ls : List (List Ct)} {i : Nat} (hi : i < ls.length) : (ls.take i).flatten.length + (ls.getD i []).length ≤ ls.flatten.length := by
  have e : ls = (ls.take i ++ [ls.getD i []]) ++ ls.drop (i + 1) := by
    rw [List.append_assoc, List.singleton_append, List.getD_eq_getElem?_getD, List.getElem?_eq_getElem hi, Option.getD_some, List.getElem_cons_drop, List.take_append_drop]
  conv => rhs; rw [e]
  simp
end Go.Proofs.YtamnobjdgjbmbaaGreat
