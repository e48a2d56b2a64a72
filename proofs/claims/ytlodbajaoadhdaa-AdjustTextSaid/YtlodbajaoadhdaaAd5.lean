/- Adjusted counts: the reference. Conditions: none. -/
import Derived.Test.YtlodbajaoadhdaaAd4
namespace Go.Proofs.Ytlodbajaoadhdaa
open Go Go.Fw Go.RowKit
set_option linter.unusedVariables false
set_option linter.unusedSimpArgs false
set_option maxRecDepth 100000
set_option maxHeartbeats 16000000
set_option synthInstance.maxHeartbeats 200000
set_option synthInstance.maxSize 100000
attribute [local irreducible] WPA WLA WDA WDQ WDE QQ seqQ blockQ loopQ fnQ OpP OpT Tr TrP SL SLd OwnS LitS Bk BkE Ob
attribute [local irreducible] RowH
theorem WPA.know {ro : Option Nat} {P : Program} {n : Nat} {Q : Hnd} {ρ : Env} {A : World → Prop} {c : Code} {φ : Prop} (h : ∀ w, A w → φ) (k : φ → WPA ro P n c Q ρ A) : WPA ro P n c Q ρ A := by
  unfold WPA at k ⊢; exact fun m a w ha hA => k (h w hA) m a w ha hA
/-- A list that is there for good, and what it holds. -/
def LstI (J : Foot) (v : SV) (ms : List Ct) : Prop := ∃ cs : List Cn, SlI J v Cn inferInstance cs ∧ cs.map Prod.snd = ms.map Prod.snd ∧ ∀ i : Nat, i < cs.length → SlI J (at_ cs (i : Int)).1 Int inferInstance (ms.getD i ([], 0)).1
theorem LstI.sub {J J' : Foot} {v : SV} {ms : List Ct} (h : LstI J v ms) (hs : SubI J' J) : LstI J' v ms := by
  obtain ⟨cs, h1, h2, h3⟩ := h
  exact ⟨cs, h1.sub, h2, fun i hi => (h3 i hi).sub⟩
theorem LstI.ofMap {J : Foot} {v : SV} {cs : List Cn} {kg : SV → List Int} (h : SlI J v Cn inferInstance cs) (hg : GrG J kg cs) : LstI J v (cs.map (moP kg)) :=
  ⟨cs, h, by rw [List.map_map]; rfl, fun i hi => by
    rw [List.getD_eq_getElem?_getD, List.getElem?_map, List.getElem?_eq_getElem hi, at_nat cs i hi]
    exact hg _ (List.getElem_mem _)⟩
theorem LstI.ofRow {J R1 R2 : Foot} {v : SV} {cs : List Cn} {ms : List Ct} {e t : TypeId} (h : OwnS t v cs R1) (hR : RowH e (cs.map Prod.fst) (ms.map Prod.fst) R2) (hl : cs.map Prod.snd = ms.map Prod.snd) (s1 : SubI J R1) (s2 : SubI J R2) : LstI J v ms := by
  have e1 : cs.length = ms.length := by have := congrArg List.length hl; simpa using this
  refine ⟨cs, (SlI.ofOwn h).sub, hl, fun i hi => ?_⟩
  have h := RowH.frozen hR i (by rw [List.length_map]; exact hi) (by rw [List.length_map]; omega)
  rw [List.getD_eq_getElem?_getD, List.getD_eq_getElem?_getD, List.getElem?_map, List.getElem?_map, List.getElem?_eq_getElem hi, List.getElem?_eq_getElem (show i < ms.length by omega)] at h
  rw [at_nat cs i hi, List.getD_eq_getElem?_getD, List.getElem?_eq_getElem (show i < ms.length by omega)]
  exact h.sub
/-- Lists of lists. -/
def LstsI (J : Foot) (s : SV) (A : List (List Ct)) : Prop := ∃ vs : List SV, SlI J s SV inferInstance vs ∧ vs.length = A.length ∧ ∀ i : Nat, i < A.length → LstI J (at_ vs (i : Int)) (A.getD i [])
theorem LstsI.sub {J J' : Foot} {s : SV} {A : List (List Ct)} (h : LstsI J s A) (hs : SubI J' J) : LstsI J' s A := by
  obtain ⟨vs, h1, h2, h3⟩ := h
  exact ⟨vs, h1.sub, h2, fun i hi => (h3 i hi).sub hs⟩
/-- How many end with g, and have one word more. -/
def aheadN (kg : SV → List Int) (ps : List Cn) (g : List Int) : Int := (ps.countP fun p => decide ((kg p.1).drop 1 = g) : Nat)
/-- What becomes of the number of p. -/
def valN (kg : SV → List Int) (pg : SV → List Cn) (hs : List SV) (n : Nat) (p : Cn) : Int := if (n : Int) + 1 < hs.length ∧ at_ (kg p.1) 0 ≠ 1 then aheadN kg (pg (at_ hs ((n : Int) + 1))) (kg p.1) else p.2
def adjN (kg : SV → List Int) (pg : SV → List Cn) (hs : List SV) (n : Nat) : List Ct := (pg (at_ hs (n : Int))).map fun p => (kg p.1, valN kg pg hs n p)
def adjA (kg : SV → List Int) (pg : SV → List Cn) (hs : List SV) : List (List Ct) := (List.range hs.length).map (adjN kg pg hs)
theorem adjA_len {kg : SV → List Int} {pg : SV → List Cn} {hs : List SV} : (adjA kg pg hs).length = hs.length := by unfold adjA; rw [List.length_map, List.length_range]
theorem adjA_at {kg : SV → List Int} {pg : SV → List Cn} {hs : List SV} {n : Nat} (h : n < hs.length) : (adjA kg pg hs).getD n [] = adjN kg pg hs n := by
  unfold adjA
  rw [List.getD_eq_getElem?_getD, List.getElem?_map, List.getElem?_range h]; rfl
theorem NstI.sub {I J : Foot} {kg : SV → List Int} {pg : SV → List Cn} {hs : List SV} (h : NstI I kg pg hs) (hs' : SubI J I) : NstI J kg pg hs := fun v hv => ⟨(h v hv).1.sub, fun p hp => ((h v hv).2 p hp).sub⟩
section
variable {kg : SV → List Int} {pg : SV → List Cn} {L : List HP} {w0 : World} {I : Foot}
theorem rAhead23_tr {s g : SV} {ps : List Cn} {gs : List Int} [hr : RdS I L s Cn inferInstance ps] [hgs : RdS I L g Int inferInstance gs] (hg : GrG I kg ps) (hl : ∀ p ∈ ps, 1 ≤ (kg p.1).length ∧ (kg p.1).length ≤ 1000000) (hn : ps.length ≤ 1000000) (h2 : gs.length ≤ 1000000) :
    TrP Try.prog 106 #[.slice s.a s.n s.cap, .slice g.a g.n g.cap] (SL w0 I L) (.int .i64 (aheadN kg ps gs)) := by
  refine TrP.ofD fun u => Tr.intro Try.func106 rfl Try.ntmps106 rfl ?_
  repeat' (first | ((first | refine WLA.m rfl rfl ?_ ?_ | refine WLA.st rfl ?_ ?_ | refine WLA.x rfl rfl ?_ (fun x => ?_) | refine WLA.x0 rfl ?_ (fun x => ?_)); first | exact trivial | exact rfl | assumption | omega | (refine ⟨?_, ?_⟩ <;> omega) | (simp only [Room, List.length_set, List.length_append, List.length_cons, List.length_nil, List.length_replicate]; omega) | decide | skip) | (refine Stp.go ?_) | (refine WPA.ifT ?_) | (refine WPA.ifF ?_) | ((first | refine WPA.dec ?_); first | refine .inl ⟨by first | assumption | omega | with_reducible rfl | (refine fun h => h ?_; first | assumption | with_reducible rfl) | (simp only [List.length_append, List.length_cons, List.length_nil, List.length_set] <;> omega) | decide, ?_⟩ | refine .inr ⟨by first | assumption | omega | with_reducible rfl | (refine fun h => h ?_; first | assumption | with_reducible rfl) | (simp only [List.length_append, List.length_cons, List.length_nil, List.length_set] <;> omega) | decide, ?_⟩) | ((first | refine WPA.ifBt ?_ ?_ | refine WPA.ifBnf ?_ ?_); assumption) | ((first | refine WPA.ifBnt ?_ ?_ | refine WPA.ifBf ?_ ?_); assumption) | ((first | refine WPA.ifs ?_ ?_ | refine WPA.ifB ?_ ?_) <;> intro hc))
  refine WPA.loopS (σ := Nat) (fun i => [(0, .slice s.a s.n s.cap), (1, .slice g.a g.n g.cap), (5, .int .i64 (aheadN kg (ps.take i) gs)), (6, .int .i64 i)]) (fun i => i ≤ ps.length)
    (fun i => SLd w0 I L u) (fun i => ps.length - i) 0 ⟨rfl, rfl, rfl, rfl, trivial⟩ (Nat.zero_le _) (fun w h => h) ?_
  rintro i ρ hi
  by_cases hlt : i < ps.length
  · have hlt' : (i : Int) < ps.length := by omega
    have ei := at_nat ps i hlt
    have hm : at_ ps (i : Int) ∈ ps := by rw [ei]; exact List.getElem_mem _
    have hgi := hg.at hlt
    have hli := hl _ hm
    have hct := cutL_tail hli.1
    have hcl : (cutL (kg (at_ ps (i : Int)).1) 1 (kg (at_ ps (i : Int)).1).length).length ≤ 1000000000 := by rw [hct, List.length_drop]; omega
    have hb : (1 : Int) ≤ (kg (at_ ps (i : Int)).1).length := by omega
    have hab : 0 ≤ aheadN kg (ps.take i) gs ∧ aheadN kg (ps.take i) gs ≤ 1000000 := by
      have := List.countP_le_length (p := fun p : Cn => decide ((kg p.1).drop 1 = gs)) (l := ps.take i)
      rw [List.length_take] at this
      unfold aheadN; omega
    have hst : aheadN kg (ps.take (i + 1)) gs = aheadN kg (ps.take i) gs + if (kg (at_ ps (i : Int)).1).drop 1 = gs then 1 else 0 := by
      unfold aheadN
      rw [List.take_add_one, List.getElem?_eq_getElem hlt, ei, List.countP_append]
      simp only [Option.toList_some, List.countP_cons, List.countP_nil]
      by_cases h : (kg ps[i].1).drop 1 = gs
      · rw [if_pos h, decide_eq_true h]; rfl
      · rw [if_neg h, decide_eq_false h]; rfl
    by_cases c1 : (kg (at_ ps (i : Int)).1).length = gs.length + 1
    · have c1' : ((kg (at_ ps (i : Int)).1).length : Int) = (gs.length : Int) + 1 := by omega
      by_cases c2 : (kg (at_ ps (i : Int)).1).drop 1 = gs
      · rw [if_pos c2] at hst
        have c2' := hct.trans c2
        repeat' (first | ((first | refine WLA.m rfl rfl ?_ ?_ | refine WLA.st rfl ?_ ?_ | refine WLA.x rfl rfl ?_ (fun x => ?_) | refine WLA.x0 rfl ?_ (fun x => ?_)); first | exact trivial | exact rfl | assumption | omega | (refine ⟨?_, ?_⟩ <;> omega) | (simp only [Room, List.length_set, List.length_append, List.length_cons, List.length_nil, List.length_replicate]; omega) | decide | skip) | (refine Stp.go ?_) | (guard_target =~ WLA _ _ _ _ _ (⟨_, .call ⟨.value (.func 18), _, _⟩, _, _, _, _⟩ :: _) _ _; refine WLA.cq rfl rfl (Ints_tr hcl) ?_) | (refine WPA.ifT ?_) | (refine WPA.ifF ?_) | (refine WLA.no rfl rfl ?_) | ((first | refine WPA.dec ?_ | ((fail_if_success (guard_target =~ WLA _ _ _ _ _ _ (put1 _ _ (.bool true)) _)); (fail_if_success (guard_target =~ WLA _ _ _ _ _ _ (put1 _ _ (.bool false)) _)); refine WLA.dec rfl rfl ?_) | refine WLA.pk ?_); first | refine .inl ⟨by first | assumption | omega | with_reducible rfl | (refine fun h => h ?_; first | assumption | with_reducible rfl) | (simp only [List.length_append, List.length_cons, List.length_nil, List.length_set] <;> omega) | decide, ?_⟩ | refine .inr ⟨by first | assumption | omega | with_reducible rfl | (refine fun h => h ?_; first | assumption | with_reducible rfl) | (simp only [List.length_append, List.length_cons, List.length_nil, List.length_set] <;> omega) | decide, ?_⟩) | ((first | refine WPA.ifBt ?_ ?_ | refine WPA.ifBnf ?_ ?_); assumption) | ((first | refine WPA.ifBnt ?_ ?_ | refine WPA.ifBf ?_ ?_); assumption) | ((first | refine WPA.ifs ?_ ?_ | refine WPA.ifB ?_ ?_) <;> intro hc) | ((fail_if_success (guard_target =~ WLA _ _ _ _ _ _ (put1 _ _ (.bool true)) _)); (fail_if_success (guard_target =~ WLA _ _ _ _ _ _ (put1 _ _ (.bool false)) _)); (first | refine WLA.both rfl rfl ?_ ?_ | refine WLA.bothB rfl rfl ?_ ?_) <;> intro hg))
        refine QQ.loopS (i + 1) ⟨rfl, rfl, ?_, rfl, trivial⟩ hlt (by omega) (fun w h => h)
        show Value.int .i64 _ = Value.int .i64 _
        rw [hst]
      · rw [if_neg c2, Int.add_zero] at hst
        have c2' : ¬ cutL (kg (at_ ps (i : Int)).1) 1 (kg (at_ ps (i : Int)).1).length = gs := fun h => c2 (hct.symm.trans h)
        repeat' (first | ((first | refine WLA.m rfl rfl ?_ ?_ | refine WLA.st rfl ?_ ?_ | refine WLA.x rfl rfl ?_ (fun x => ?_) | refine WLA.x0 rfl ?_ (fun x => ?_)); first | exact trivial | exact rfl | assumption | omega | (refine ⟨?_, ?_⟩ <;> omega) | (simp only [Room, List.length_set, List.length_append, List.length_cons, List.length_nil, List.length_replicate]; omega) | decide | skip) | (refine Stp.go ?_) | (guard_target =~ WLA _ _ _ _ _ (⟨_, .call ⟨.value (.func 18), _, _⟩, _, _, _, _⟩ :: _) _ _; refine WLA.cq rfl rfl (Ints_tr hcl) ?_) | (refine WPA.ifT ?_) | (refine WPA.ifF ?_) | (refine WLA.no rfl rfl ?_) | ((first | refine WPA.dec ?_ | ((fail_if_success (guard_target =~ WLA _ _ _ _ _ _ (put1 _ _ (.bool true)) _)); (fail_if_success (guard_target =~ WLA _ _ _ _ _ _ (put1 _ _ (.bool false)) _)); refine WLA.dec rfl rfl ?_) | refine WLA.pk ?_); first | refine .inl ⟨by first | assumption | omega | with_reducible rfl | (refine fun h => h ?_; first | assumption | with_reducible rfl) | (simp only [List.length_append, List.length_cons, List.length_nil, List.length_set] <;> omega) | decide, ?_⟩ | refine .inr ⟨by first | assumption | omega | with_reducible rfl | (refine fun h => h ?_; first | assumption | with_reducible rfl) | (simp only [List.length_append, List.length_cons, List.length_nil, List.length_set] <;> omega) | decide, ?_⟩) | ((first | refine WPA.ifBt ?_ ?_ | refine WPA.ifBnf ?_ ?_); assumption) | ((first | refine WPA.ifBnt ?_ ?_ | refine WPA.ifBf ?_ ?_); assumption) | ((first | refine WPA.ifs ?_ ?_ | refine WPA.ifB ?_ ?_) <;> intro hc) | ((fail_if_success (guard_target =~ WLA _ _ _ _ _ _ (put1 _ _ (.bool true)) _)); (fail_if_success (guard_target =~ WLA _ _ _ _ _ _ (put1 _ _ (.bool false)) _)); (first | refine WLA.both rfl rfl ?_ ?_ | refine WLA.bothB rfl rfl ?_ ?_) <;> intro hg))
        refine QQ.loopS (i + 1) ⟨rfl, rfl, ?_, rfl, trivial⟩ hlt (by omega) (fun w h => h)
        show Value.int .i64 _ = Value.int .i64 _
        rw [hst]
    · have c1' : ¬ ((kg (at_ ps (i : Int)).1).length : Int) = (gs.length : Int) + 1 := by omega
      have c2 : ¬ (kg (at_ ps (i : Int)).1).drop 1 = gs := fun h => c1 (by have := congrArg List.length h; rw [List.length_drop] at this; omega)
      rw [if_neg c2, Int.add_zero] at hst
      repeat' (first | ((first | refine WLA.m rfl rfl ?_ ?_ | refine WLA.st rfl ?_ ?_ | refine WLA.x rfl rfl ?_ (fun x => ?_) | refine WLA.x0 rfl ?_ (fun x => ?_)); first | exact trivial | exact rfl | assumption | omega | (refine ⟨?_, ?_⟩ <;> omega) | (simp only [Room, List.length_set, List.length_append, List.length_cons, List.length_nil, List.length_replicate]; omega) | decide | skip) | (refine Stp.go ?_) | (refine WPA.ifT ?_) | (refine WPA.ifF ?_) | (refine WLA.no rfl rfl ?_) | ((first | refine WPA.dec ?_ | ((fail_if_success (guard_target =~ WLA _ _ _ _ _ _ (put1 _ _ (.bool true)) _)); (fail_if_success (guard_target =~ WLA _ _ _ _ _ _ (put1 _ _ (.bool false)) _)); refine WLA.dec rfl rfl ?_) | refine WLA.pk ?_); first | refine .inl ⟨by first | assumption | omega | with_reducible rfl | (refine fun h => h ?_; first | assumption | with_reducible rfl) | (simp only [List.length_append, List.length_cons, List.length_nil, List.length_set] <;> omega) | decide, ?_⟩ | refine .inr ⟨by first | assumption | omega | with_reducible rfl | (refine fun h => h ?_; first | assumption | with_reducible rfl) | (simp only [List.length_append, List.length_cons, List.length_nil, List.length_set] <;> omega) | decide, ?_⟩) | ((first | refine WPA.ifBt ?_ ?_ | refine WPA.ifBnf ?_ ?_); assumption) | ((first | refine WPA.ifBnt ?_ ?_ | refine WPA.ifBf ?_ ?_); assumption) | ((first | refine WPA.ifs ?_ ?_ | refine WPA.ifB ?_ ?_) <;> intro hc) | ((fail_if_success (guard_target =~ WLA _ _ _ _ _ _ (put1 _ _ (.bool true)) _)); (fail_if_success (guard_target =~ WLA _ _ _ _ _ _ (put1 _ _ (.bool false)) _)); (first | refine WLA.both rfl rfl ?_ ?_ | refine WLA.bothB rfl rfl ?_ ?_) <;> intro hg))
      refine QQ.loopS (i + 1) ⟨rfl, rfl, ?_, rfl, trivial⟩ hlt (by omega) (fun w h => h)
      show Value.int .i64 _ = Value.int .i64 _
      rw [hst]
  · have hlt' : ¬ (i : Int) < ps.length := by omega
    rw [List.take_of_length_le (by omega)]
    repeat' (first | ((first | refine WLA.m rfl rfl ?_ ?_ | refine WLA.st rfl ?_ ?_ | refine WLA.x rfl rfl ?_ (fun x => ?_) | refine WLA.x0 rfl ?_ (fun x => ?_)); first | exact trivial | exact rfl | assumption | omega | (refine ⟨?_, ?_⟩ <;> omega) | (simp only [Room, List.length_set, List.length_append, List.length_cons, List.length_nil, List.length_replicate]; omega) | decide | skip) | (refine Stp.go ?_) | (refine WPA.ifT ?_) | (refine WPA.ifF ?_) | ((first | refine WPA.dec ?_); first | refine .inl ⟨by first | assumption | omega | with_reducible rfl | (refine fun h => h ?_; first | assumption | with_reducible rfl) | (simp only [List.length_append, List.length_cons, List.length_nil, List.length_set] <;> omega) | decide, ?_⟩ | refine .inr ⟨by first | assumption | omega | with_reducible rfl | (refine fun h => h ?_; first | assumption | with_reducible rfl) | (simp only [List.length_append, List.length_cons, List.length_nil, List.length_set] <;> omega) | decide, ?_⟩) | ((first | refine WPA.ifBt ?_ ?_ | refine WPA.ifBnf ?_ ?_); assumption) | ((first | refine WPA.ifBnt ?_ ?_ | refine WPA.ifBf ?_ ?_); assumption) | ((first | refine WPA.ifs ?_ ?_ | refine WPA.ifB ?_ ?_) <;> intro hc))
    exact QQ.end_ rfl () rfl fun w h => h
theorem rSame_tr {a b : SV} {A : List (List Ct)} (ha : LstsI I a A) (hb : LstsI I b A) (hA : ∀ ms ∈ A, ms.length ≤ 1000000 ∧ ∀ m ∈ ms, m.1.length ≤ 1000000000) (hn : A.length ≤ 1000000) :
    TrP Try.prog 65 #[.slice a.a a.n a.cap, .slice b.a b.n b.cap] (SL w0 I L) (.bool true) := by
  refine TrP.ofD fun u => Tr.intro Try.func65 rfl Try.ntmps65 rfl ?_
  obtain ⟨vs, a1, a2, a3⟩ := ha
  obtain ⟨us, b1, b2, b3⟩ := hb
  have hl : ¬ (vs.length : Int) ≠ us.length := by omega
  repeat' (first | ((first | refine WLA.m rfl rfl ?_ ?_ | refine WLA.st rfl ?_ ?_ | refine WLA.x rfl rfl ?_ (fun x => ?_) | refine WLA.x0 rfl ?_ (fun x => ?_)); first | exact trivial | exact rfl | assumption | omega | (refine ⟨?_, ?_⟩ <;> omega) | (simp only [Room, List.length_set, List.length_append, List.length_cons, List.length_nil, List.length_replicate]; omega) | decide | skip) | (refine Stp.go ?_) | (refine WPA.ifT ?_) | (refine WPA.ifF ?_) | ((first | refine WPA.dec ?_); first | refine .inl ⟨by first | assumption | omega | with_reducible rfl | (refine fun h => h ?_; first | assumption | with_reducible rfl) | (simp only [List.length_append, List.length_cons, List.length_nil, List.length_set] <;> omega) | decide, ?_⟩ | refine .inr ⟨by first | assumption | omega | with_reducible rfl | (refine fun h => h ?_; first | assumption | with_reducible rfl) | (simp only [List.length_append, List.length_cons, List.length_nil, List.length_set] <;> omega) | decide, ?_⟩) | ((first | refine WPA.ifBt ?_ ?_ | refine WPA.ifBnf ?_ ?_); assumption) | ((first | refine WPA.ifBnt ?_ ?_ | refine WPA.ifBf ?_ ?_); assumption) | ((first | refine WPA.ifs ?_ ?_ | refine WPA.ifB ?_ ?_) <;> intro hc))
  refine WPA.loopS (σ := Nat) (fun i => [(0, .slice a.a a.n a.cap), (1, .slice b.a b.n b.cap), (5, .int .i64 i)]) (fun i => i ≤ vs.length)
    (fun i => SLd w0 I L u) (fun i => vs.length - i) 0 ⟨rfl, rfl, rfl, trivial⟩ (Nat.zero_le _) (fun w h => h) ?_
  rintro i ρ hi
  by_cases hlt : i < vs.length
  · have hlt' : (i : Int) < vs.length := by omega
    have hlt2 : (i : Int) < us.length := by omega
    obtain ⟨cs, p1, p2, p3⟩ := a3 i (by omega)
    obtain ⟨ds, q1, q2, q3⟩ := b3 i (by omega)
    have hm : A.getD i [] ∈ A := by rw [List.getD_eq_getElem?_getD, List.getElem?_eq_getElem (show i < A.length by omega)]; exact List.getElem_mem _
    obtain ⟨m1, m2⟩ := hA _ hm
    generalize A.getD i [] = ms at p2 p3 q2 q3 m1 m2
    have hs : ¬ ¬ ms = ms := fun h => h rfl
    repeat' (first | ((first | refine WLA.m rfl rfl ?_ ?_ | refine WDQ.m rfl rfl ?_ ?_ | refine WLA.st rfl ?_ ?_ | refine WLA.x rfl rfl ?_ (fun x => ?_) | refine WLA.x0 rfl ?_ (fun x => ?_)); first | exact trivial | exact rfl | assumption | omega | (refine ⟨?_, ?_⟩ <;> omega) | (simp only [Room, List.length_set, List.length_append, List.length_cons, List.length_nil, List.length_replicate]; omega) | decide | skip) | (refine Stp.go ?_) | (guard_target =~ WLA _ _ _ _ _ (⟨_, .call ⟨.value (.func 47), _, _⟩, _, _, _, _⟩ :: _) _ _; refine WLA.cq rfl rfl (Same_tr p2 q2 (fun i hi ↦ RdS.imm (h := p3 i hi)) (fun i hi ↦ RdS.imm (h := q3 i hi)) m2 m1) ?_) | (refine WPA.ifT ?_) | (refine WPA.ifF ?_) | ((first | refine WPA.dec ?_); first | refine .inl ⟨by first | assumption | omega | with_reducible rfl | (refine fun h => h ?_; first | assumption | with_reducible rfl) | (simp only [List.length_append, List.length_cons, List.length_nil, List.length_set] <;> omega) | decide, ?_⟩ | refine .inr ⟨by first | assumption | omega | with_reducible rfl | (refine fun h => h ?_; first | assumption | with_reducible rfl) | (simp only [List.length_append, List.length_cons, List.length_nil, List.length_set] <;> omega) | decide, ?_⟩) | ((first | refine WPA.ifBt ?_ ?_ | refine WPA.ifBnf ?_ ?_); assumption) | ((first | refine WPA.ifBnt ?_ ?_ | refine WPA.ifBf ?_ ?_); assumption) | ((first | refine WPA.ifs ?_ ?_ | refine WPA.ifB ?_ ?_) <;> intro hc) | (guard_target =~ WPA _ _ _ (.region 6 _ true) _ _ _; refine WPA.drawT 8 (.q 0 (.q 1 (.q 2 (.q 3 (.q 4 (.q 5 (.q 6 (.q 7 .fin)))))))) mixed ?_ ?_; kernel_rfl) | (refine WDA.finish (tl := [⟨_, _, _, _, _, _⟩, ⟨_, _, _, _, _, _⟩]) rfl ?_) | (refine WDQ.see rfl ?_) | (guard_target =~ WDQ _ _ _ _ _ _ _ ⟨_, .call ⟨.value (.func 47), _, _⟩, _, _, _, _⟩ _ _ _; refine WDQ.cq rfl rfl (Same_tr p2 q2 (fun i hi ↦ RdS.imm (h := p3 i hi)) (fun i hi ↦ RdS.imm (h := q3 i hi)) m2 m1) ?_))
    exact QQ.loopS (i + 1) ⟨rfl, rfl, rfl, trivial⟩ hlt (by omega) (fun w h => h)
  · have hlt' : ¬ (i : Int) < vs.length := by omega
    repeat' (first | ((first | refine WLA.m rfl rfl ?_ ?_ | refine WLA.st rfl ?_ ?_ | refine WLA.x rfl rfl ?_ (fun x => ?_) | refine WLA.x0 rfl ?_ (fun x => ?_)); first | exact trivial | exact rfl | assumption | omega | (refine ⟨?_, ?_⟩ <;> omega) | (simp only [Room, List.length_set, List.length_append, List.length_cons, List.length_nil, List.length_replicate]; omega) | decide | skip) | (refine Stp.go ?_) | (refine WPA.ifT ?_) | (refine WPA.ifF ?_) | ((first | refine WPA.dec ?_); first | refine .inl ⟨by first | assumption | omega | with_reducible rfl | (refine fun h => h ?_; first | assumption | with_reducible rfl) | (simp only [List.length_append, List.length_cons, List.length_nil, List.length_set] <;> omega) | decide, ?_⟩ | refine .inr ⟨by first | assumption | omega | with_reducible rfl | (refine fun h => h ?_; first | assumption | with_reducible rfl) | (simp only [List.length_append, List.length_cons, List.length_nil, List.length_set] <;> omega) | decide, ?_⟩) | ((first | refine WPA.ifBt ?_ ?_ | refine WPA.ifBnf ?_ ?_); assumption) | ((first | refine WPA.ifBnt ?_ ?_ | refine WPA.ifBf ?_ ?_); assumption) | ((first | refine WPA.ifs ?_ ?_ | refine WPA.ifB ?_ ?_) <;> intro hc))
    exact QQ.end_ rfl () rfl fun w h => h
structure RS where
  n : Nat
  J : Foot
  out : SV
  vs : List SV
theorem rCounts_tr {s : SV} {hs : List SV} [hr : SlI I s SV inferInstance hs] (hN : NstI I kg pg hs) (hk : ∀ n, n < hs.length → ∀ p ∈ pg (at_ hs (n : Int)), (kg p.1).length = n + 1) (hp : ∀ h ∈ hs, (pg h).length ≤ 1000000) (hn : hs.length ≤ 8) :
    Tr Try.prog 66 #[.slice s.a s.n s.cap] (SL w0 I L) (fun x : SV × Foot => .slice x.1.a x.1.n x.1.cap) (fun x w => (SubI x.2 I ∧ LstsI x.2 x.1 (adjA kg pg hs)) ∧ SL w0 x.2 L w) := by
  refine Tr.intro Try.func66 rfl Try.ntmps66 rfl ?_
  repeat' (first | ((first | refine WLA.m rfl rfl ?_ ?_ | refine WLA.st rfl ?_ ?_ | refine WLA.x rfl rfl ?_ (fun x => ?_) | refine WLA.x0 rfl ?_ (fun x => ?_)); first | exact trivial | exact rfl | assumption | omega | (refine ⟨?_, ?_⟩ <;> omega) | (simp only [Room, List.length_set, List.length_append, List.length_cons, List.length_nil, List.length_replicate]; omega) | decide | skip) | (refine Stp.go ?_) | (refine WPA.ifT ?_) | (refine WPA.ifF ?_) | ((first | refine WPA.dec ?_); first | refine .inl ⟨by first | assumption | omega | with_reducible rfl | (refine fun h => h ?_; first | assumption | with_reducible rfl) | (simp only [List.length_append, List.length_cons, List.length_nil, List.length_set] <;> omega) | decide, ?_⟩ | refine .inr ⟨by first | assumption | omega | with_reducible rfl | (refine fun h => h ?_; first | assumption | with_reducible rfl) | (simp only [List.length_append, List.length_cons, List.length_nil, List.length_set] <;> omega) | decide, ?_⟩) | ((first | refine WPA.ifBt ?_ ?_ | refine WPA.ifBnf ?_ ?_); assumption) | ((first | refine WPA.ifBnt ?_ ?_ | refine WPA.ifBf ?_ ?_); assumption) | ((first | refine WPA.ifs ?_ ?_ | refine WPA.ifB ?_ ?_) <;> intro hc))
  refine WPA.loopS (σ := RS) (fun y => [(0, .slice s.a s.n s.cap), (3, .slice y.out.a y.out.n y.out.cap), (4, .int .i64 y.n)])
    (fun y => (y.n ≤ hs.length ∧ y.vs.length = y.n) ∧ SubI y.J I ∧ ∀ j : Nat, j < y.n → LstI y.J (at_ y.vs (j : Int)) (adjN kg pg hs j))
    (fun y => SL w0 y.J (OwnS 61 y.out y.vs :: L)) (fun y => hs.length - y.n) ⟨0, I, SV.nil, []⟩ ⟨rfl, rfl, rfl, trivial⟩ ⟨⟨Nat.zero_le _, rfl⟩, inferInstance, fun j hj => absurd hj (Nat.not_lt_zero _)⟩ (fun w h => h.to) ?_
  rintro ⟨n, J, out, vs⟩ ρ ⟨⟨hni, hvl⟩, hJ, hL⟩
  dsimp only at hni hvl hJ hL ⊢
  haveI := hJ
  haveI hrJ : SlI J s SV inferInstance hs := hr.sub
  have hNJ := hN.sub hJ
  by_cases hlt : n < hs.length
  · have hlt' : (n : Int) < hs.length := by omega
    obtain ⟨hsl, hgr⟩ := hNJ.at hlt
    have hm : at_ hs (n : Int) ∈ hs := by rw [at_nat hs n hlt]; exact List.getElem_mem _
    have hkl := hk n hlt
    have hpl := hp _ hm
    have hval : ∀ p, (at_ hs (n : Int)) = (at_ hs (n : Int)) → valN kg pg hs n p = valN kg pg hs n p := fun _ _ => rfl
    have hcnt : adjN kg pg hs n = (pg (at_ hs (n : Int))).map fun p => (kg p.1, valN kg pg hs n p) := rfl
    generalize hX : at_ hs (n : Int) = hd at hsl hgr hkl hpl hcnt
    generalize hps : pg hd = ps at hsl hgr hkl hpl hcnt
    repeat' (first | ((rw [hX])) | ((first | refine WLA.m rfl rfl ?_ ?_ | refine WLA.st rfl ?_ ?_ | refine WLA.x rfl rfl ?_ (fun x => ?_) | refine WLA.x0 rfl ?_ (fun x => ?_)); first | exact trivial | exact rfl | assumption | omega | (refine ⟨?_, ?_⟩ <;> omega) | (simp only [Room, List.length_set, List.length_append, List.length_cons, List.length_nil, List.length_replicate]; omega) | decide | skip) | (refine Stp.go ?_) | (refine WPA.ifT ?_) | (refine WPA.ifF ?_) | ((first | refine WPA.dec ?_); first | refine .inl ⟨by first | assumption | omega | with_reducible rfl | (refine fun h => h ?_; first | assumption | with_reducible rfl) | (simp only [List.length_append, List.length_cons, List.length_nil, List.length_set] <;> omega) | decide, ?_⟩ | refine .inr ⟨by first | assumption | omega | with_reducible rfl | (refine fun h => h ?_; first | assumption | with_reducible rfl) | (simp only [List.length_append, List.length_cons, List.length_nil, List.length_set] <;> omega) | decide, ?_⟩) | ((first | refine WPA.ifBt ?_ ?_ | refine WPA.ifBnf ?_ ?_); assumption) | ((first | refine WPA.ifBnt ?_ ?_ | refine WPA.ifBf ?_ ?_); assumption) | ((first | refine WPA.ifs ?_ ?_ | refine WPA.ifB ?_ ?_) <;> intro hc))
    refine WPA.loopS (σ := Nat × SV) (fun y => [(0, .slice s.a s.n s.cap), (3, .slice out.a out.n out.cap), (4, .int .i64 n), (5, .slice y.2.a y.2.n y.2.cap), (6, .int .i64 y.1)]) (fun y => y.1 ≤ ps.length)
      (fun y => SL w0 J (OwnS 80 y.2 ((ps.take y.1).map fun p => (p.1, valN kg pg hs n p)) :: OwnS 61 out vs :: L)) (fun y => ps.length - y.1) (0, SV.nil) ⟨rfl, rfl, rfl, rfl, rfl, trivial⟩ (Nat.zero_le _) (fun w h => ?_) ?_
    · show SL w0 J (OwnS 80 SV.nil ([] : List Cn) :: OwnS 61 out vs :: L) w
      exact h.to
    rintro ⟨i, cur⟩ ρ hi
    dsimp only at hi ⊢
    by_cases hlt2 : i < ps.length
    · have hlt2' : (i : Int) < ps.length := by omega
      have ei := at_nat ps i hlt2
      have hgi := hgr.at hlt2
      have hmi : at_ ps (i : Int) ∈ ps := by rw [ei]; exact List.getElem_mem _
      have hli := hkl _ hmi
      have hb0 : (0 : Int) < (kg (at_ ps (i : Int)).1).length := by omega
      have hta : (ps.take (i + 1)).map (fun p => (p.1, valN kg pg hs n p)) = (ps.take i).map (fun p => (p.1, valN kg pg hs n p)) ++ [((at_ ps (i : Int)).1, valN kg pg hs n (at_ ps (i : Int)))] := by
        rw [List.take_add_one, List.getElem?_eq_getElem hlt2, ei, List.map_append]; rfl
      have htl : ((ps.take i).map (fun p => (p.1, valN kg pg hs n p))).length ≤ 1000000 := by rw [List.length_map, List.length_take]; omega
      by_cases b1 : (n : Int) + 1 < hs.length
      · have b1' : (n : Int) < (hs.length : Int) - 1 := by omega
        by_cases b2 : at_ (kg (at_ ps (i : Int)).1) 0 = 1
        · have hv : valN kg pg hs n (at_ ps (i : Int)) = (at_ ps (i : Int)).2 := by unfold valN; rw [if_neg (fun h => h.2 b2)]
          have b2' : ¬ at_ (kg (at_ ps (i : Int)).1) 0 ≠ 1 := fun h => h b2
          rw [hv] at hta
          repeat' (first | ((rw [hX])) | ((first | refine WLA.m rfl rfl ?_ ?_ | refine WDQ.m rfl rfl ?_ ?_ | refine WLA.st rfl ?_ ?_ | refine WLA.x rfl rfl ?_ (fun x => ?_) | refine WLA.x0 rfl ?_ (fun x => ?_)); first | exact trivial | exact rfl | assumption | omega | (refine ⟨?_, ?_⟩ <;> omega) | (simp only [Room, List.length_set, List.length_append, List.length_cons, List.length_nil, List.length_replicate]; omega) | decide | skip) | (refine Stp.go ?_) | (refine WPA.ifT ?_) | (refine WPA.ifF ?_) | (refine WLA.no rfl rfl ?_) | ((first | refine WPA.dec ?_ | ((fail_if_success (guard_target =~ WLA _ _ _ _ _ _ (put1 _ _ (.bool true)) _)); (fail_if_success (guard_target =~ WLA _ _ _ _ _ _ (put1 _ _ (.bool false)) _)); refine WLA.dec rfl rfl ?_) | refine WLA.pk ?_); first | refine .inl ⟨by first | assumption | omega | with_reducible rfl | (refine fun h => h ?_; first | assumption | with_reducible rfl) | (simp only [List.length_append, List.length_cons, List.length_nil, List.length_set] <;> omega) | decide, ?_⟩ | refine .inr ⟨by first | assumption | omega | with_reducible rfl | (refine fun h => h ?_; first | assumption | with_reducible rfl) | (simp only [List.length_append, List.length_cons, List.length_nil, List.length_set] <;> omega) | decide, ?_⟩) | ((first | refine WPA.ifBt ?_ ?_ | refine WPA.ifBnf ?_ ?_); assumption) | ((first | refine WPA.ifBnt ?_ ?_ | refine WPA.ifBf ?_ ?_); assumption) | ((first | refine WPA.ifs ?_ ?_ | refine WPA.ifB ?_ ?_) <;> intro hc) | ((fail_if_success (guard_target =~ WLA _ _ _ _ _ _ (put1 _ _ (.bool true)) _)); (fail_if_success (guard_target =~ WLA _ _ _ _ _ _ (put1 _ _ (.bool false)) _)); (first | refine WLA.both rfl rfl ?_ ?_ | refine WLA.bothB rfl rfl ?_ ?_) <;> intro hg) | (guard_target =~ WPA _ _ _ (.region 11 _ true) _ _ _; refine WPA.drawT 7 (.q 0 (.q 1 (.q 2 (.q 3 (.q 4 (.q 5 (.q 6 .fin))))))) mixed ?_ ?_; kernel_rfl) | (refine WDA.finish (tl := [⟨_, _, _, _, _, _⟩, ⟨_, _, _, _, _, _⟩, ⟨_, _, _, _, _, _⟩]) rfl ?_) | (refine WDQ.see rfl ?_))
          refine QQ.loopS (i + 1, x) ⟨rfl, rfl, rfl, rfl, rfl, trivial⟩ hlt2 (by dsimp only; omega) (fun w h => ?_)
          dsimp only
          rw [hta]
          exact h.to
        · have hv : valN kg pg hs n (at_ ps (i : Int)) = aheadN kg (pg (at_ hs ((n : Int) + 1))) (kg (at_ ps (i : Int)).1) := by unfold valN; rw [if_pos ⟨b1, b2⟩]
          rw [hv] at hta
          have hnx := hNJ.at (i := n + 1) (by omega)
          have hkx := hk (n + 1) (by omega)
          have hpx : (pg (at_ hs ((n + 1 : Nat) : Int))).length ≤ 1000000 := hp _ (by rw [at_nat hs (n + 1) (by omega)]; exact List.getElem_mem _)
          rw [show ((n + 1 : Nat) : Int) = (n : Int) + 1 by omega] at hnx hkx hpx
          obtain ⟨hnx1, hnx2⟩ := hnx
          have hkx2 : ∀ p ∈ pg (at_ hs ((n : Int) + 1)), 1 ≤ (kg p.1).length ∧ (kg p.1).length ≤ 1000000 := fun p hp => by have := hkx p hp; omega
          repeat' (first | ((rw [hX])) | ((first | refine WLA.m rfl rfl ?_ ?_ | refine WDQ.m rfl rfl ?_ ?_ | refine WLA.st rfl ?_ ?_ | refine WLA.x rfl rfl ?_ (fun x => ?_) | refine WLA.x0 rfl ?_ (fun x => ?_)); first | exact trivial | exact rfl | assumption | omega | (refine ⟨?_, ?_⟩ <;> omega) | (simp only [Room, List.length_set, List.length_append, List.length_cons, List.length_nil, List.length_replicate]; omega) | decide | skip) | (refine Stp.go ?_) | (guard_target =~ WLA _ _ _ _ _ (⟨_, .call ⟨.value (.func 106), _, _⟩, _, _, _, _⟩ :: _) _ _; refine WLA.cq rfl rfl (rAhead23_tr hnx2 hkx2 hpx (by omega)) ?_) | (refine WPA.ifT ?_) | (refine WPA.ifF ?_) | (refine WLA.no rfl rfl ?_) | ((first | refine WPA.dec ?_ | ((fail_if_success (guard_target =~ WLA _ _ _ _ _ _ (put1 _ _ (.bool true)) _)); (fail_if_success (guard_target =~ WLA _ _ _ _ _ _ (put1 _ _ (.bool false)) _)); refine WLA.dec rfl rfl ?_) | refine WLA.pk ?_); first | refine .inl ⟨by first | assumption | omega | with_reducible rfl | (refine fun h => h ?_; first | assumption | with_reducible rfl) | (simp only [List.length_append, List.length_cons, List.length_nil, List.length_set] <;> omega) | decide, ?_⟩ | refine .inr ⟨by first | assumption | omega | with_reducible rfl | (refine fun h => h ?_; first | assumption | with_reducible rfl) | (simp only [List.length_append, List.length_cons, List.length_nil, List.length_set] <;> omega) | decide, ?_⟩) | ((first | refine WPA.ifBt ?_ ?_ | refine WPA.ifBnf ?_ ?_); assumption) | ((first | refine WPA.ifBnt ?_ ?_ | refine WPA.ifBf ?_ ?_); assumption) | ((first | refine WPA.ifs ?_ ?_ | refine WPA.ifB ?_ ?_) <;> intro hc) | ((fail_if_success (guard_target =~ WLA _ _ _ _ _ _ (put1 _ _ (.bool true)) _)); (fail_if_success (guard_target =~ WLA _ _ _ _ _ _ (put1 _ _ (.bool false)) _)); (first | refine WLA.both rfl rfl ?_ ?_ | refine WLA.bothB rfl rfl ?_ ?_) <;> intro hg) | (guard_target =~ WPA _ _ _ (.region 11 _ true) _ _ _; refine WPA.drawT 7 (.q 0 (.q 1 (.q 2 (.q 3 (.q 4 (.q 5 (.q 6 .fin))))))) mixed ?_ ?_; kernel_rfl) | (refine WDA.finish (tl := [⟨_, _, _, _, _, _⟩, ⟨_, _, _, _, _, _⟩, ⟨_, _, _, _, _, _⟩]) rfl ?_) | (refine WDQ.see rfl ?_) | (guard_target =~ WDQ _ _ _ _ _ _ _ ⟨_, .call ⟨.value (.func 106), _, _⟩, _, _, _, _⟩ _ _ _; refine WDQ.cq rfl rfl (rAhead23_tr hnx2 hkx2 hpx (by omega)) ?_))
          refine QQ.loopS (i + 1, x) ⟨rfl, rfl, rfl, rfl, rfl, trivial⟩ hlt2 (by dsimp only; omega) (fun w h => ?_)
          dsimp only
          rw [hta]
          exact h.to
      · have b1' : ¬ (n : Int) < (hs.length : Int) - 1 := by omega
        have hv : valN kg pg hs n (at_ ps (i : Int)) = (at_ ps (i : Int)).2 := by unfold valN; rw [if_neg (fun h => b1 h.1)]
        rw [hv] at hta
        repeat' (first | ((rw [hX])) | ((first | refine WLA.m rfl rfl ?_ ?_ | refine WDQ.m rfl rfl ?_ ?_ | refine WLA.st rfl ?_ ?_ | refine WLA.x rfl rfl ?_ (fun x => ?_) | refine WLA.x0 rfl ?_ (fun x => ?_)); first | exact trivial | exact rfl | assumption | omega | (refine ⟨?_, ?_⟩ <;> omega) | (simp only [Room, List.length_set, List.length_append, List.length_cons, List.length_nil, List.length_replicate]; omega) | decide | skip) | (refine Stp.go ?_) | (refine WPA.ifT ?_) | (refine WPA.ifF ?_) | (refine WLA.no rfl rfl ?_) | ((first | refine WPA.dec ?_ | ((fail_if_success (guard_target =~ WLA _ _ _ _ _ _ (put1 _ _ (.bool true)) _)); (fail_if_success (guard_target =~ WLA _ _ _ _ _ _ (put1 _ _ (.bool false)) _)); refine WLA.dec rfl rfl ?_) | refine WLA.pk ?_); first | refine .inl ⟨by first | assumption | omega | with_reducible rfl | (refine fun h => h ?_; first | assumption | with_reducible rfl) | (simp only [List.length_append, List.length_cons, List.length_nil, List.length_set] <;> omega) | decide, ?_⟩ | refine .inr ⟨by first | assumption | omega | with_reducible rfl | (refine fun h => h ?_; first | assumption | with_reducible rfl) | (simp only [List.length_append, List.length_cons, List.length_nil, List.length_set] <;> omega) | decide, ?_⟩) | ((first | refine WPA.ifBt ?_ ?_ | refine WPA.ifBnf ?_ ?_); assumption) | ((first | refine WPA.ifBnt ?_ ?_ | refine WPA.ifBf ?_ ?_); assumption) | ((first | refine WPA.ifs ?_ ?_ | refine WPA.ifB ?_ ?_) <;> intro hc) | ((fail_if_success (guard_target =~ WLA _ _ _ _ _ _ (put1 _ _ (.bool true)) _)); (fail_if_success (guard_target =~ WLA _ _ _ _ _ _ (put1 _ _ (.bool false)) _)); (first | refine WLA.both rfl rfl ?_ ?_ | refine WLA.bothB rfl rfl ?_ ?_) <;> intro hg) | (guard_target =~ WPA _ _ _ (.region 11 _ true) _ _ _; refine WPA.drawT 7 (.q 0 (.q 1 (.q 2 (.q 3 (.q 4 (.q 5 (.q 6 .fin))))))) mixed ?_ ?_; kernel_rfl) | (refine WDA.finish (tl := [⟨_, _, _, _, _, _⟩, ⟨_, _, _, _, _, _⟩, ⟨_, _, _, _, _, _⟩]) rfl ?_) | (refine WDQ.see rfl ?_))
        refine QQ.loopS (i + 1, x) ⟨rfl, rfl, rfl, rfl, rfl, trivial⟩ hlt2 (by dsimp only; omega) (fun w h => ?_)
        dsimp only
        rw [hta]
        exact h.to
    · have hlt2' : ¬ (i : Int) < ps.length := by omega
      rw [List.take_of_length_le (by omega)]
      refine WPA.freeze fun R hR => ?_
      haveI : SlI (R ++ J) s SV inferInstance hs := hr.sub
      have hcur := SlI.ofOwn hR
      repeat' (first | ((rw [hX])) | ((first | refine WLA.m rfl rfl ?_ ?_ | refine WLA.st rfl ?_ ?_ | refine WLA.x rfl rfl ?_ (fun x => ?_) | refine WLA.x0 rfl ?_ (fun x => ?_)); first | exact trivial | exact rfl | assumption | omega | (refine ⟨?_, ?_⟩ <;> omega) | (simp only [Room, List.length_set, List.length_append, List.length_cons, List.length_nil, List.length_replicate]; omega) | decide | skip) | (refine Stp.go ?_) | (refine WPA.ifT ?_) | (refine WPA.ifF ?_) | ((first | refine WPA.dec ?_); first | refine .inl ⟨by first | assumption | omega | with_reducible rfl | (refine fun h => h ?_; first | assumption | with_reducible rfl) | (simp only [List.length_append, List.length_cons, List.length_nil, List.length_set] <;> omega) | decide, ?_⟩ | refine .inr ⟨by first | assumption | omega | with_reducible rfl | (refine fun h => h ?_; first | assumption | with_reducible rfl) | (simp only [List.length_append, List.length_cons, List.length_nil, List.length_set] <;> omega) | decide, ?_⟩) | ((first | refine WPA.ifBt ?_ ?_ | refine WPA.ifBnf ?_ ?_); assumption) | ((first | refine WPA.ifBnt ?_ ?_ | refine WPA.ifBf ?_ ?_); assumption) | ((first | refine WPA.ifs ?_ ?_ | refine WPA.ifB ?_ ?_) <;> intro hc))
      refine QQ.loopS ⟨n + 1, R ++ J, x, vs ++ [cur]⟩ ⟨rfl, rfl, rfl, trivial⟩ ⟨⟨hlt, by simp [hvl]⟩, inferInstance, fun j hj => ?_⟩ (by dsimp only; omega) (fun w h => h.to)
      dsimp only at hj ⊢
      rcases Nat.lt_or_ge j n with h1 | h1
      · rw [at_nat _ j (by simp; omega), List.getElem_append_left (by omega), ← at_nat vs j (by omega)]
        exact (hL j h1).sub inferInstance
      · have hjn : j = n := by omega
        subst hjn
        rw [at_nat _ j (by simp; omega), List.getElem_append_right (by omega)]
        simp only [hvl, Nat.sub_self, List.getElem_singleton]
        rw [hcnt]
        refine ⟨ps.map fun p : Cn => ((p.1, valN kg pg hs j p) : Cn), SlI.left, by rw [List.map_map, List.map_map]; rfl, fun i hi => ?_⟩
        rw [List.length_map] at hi
        rw [at_nat _ i (by rw [List.length_map]; exact hi), List.getElem_map, List.getD_eq_getElem?_getD, List.getElem?_map, List.getElem?_eq_getElem hi]
        have := (hgr _ (List.getElem_mem hi)).sub (I' := R ++ J)
        exact this
  · have hlt' : ¬ (n : Int) < hs.length := by omega
    have hne : n = hs.length := by omega
    subst hne
    repeat' (first | ((first | refine WLA.m rfl rfl ?_ ?_ | refine WLA.st rfl ?_ ?_ | refine WLA.x rfl rfl ?_ (fun x => ?_) | refine WLA.x0 rfl ?_ (fun x => ?_)); first | exact trivial | exact rfl | assumption | omega | (refine ⟨?_, ?_⟩ <;> omega) | (simp only [Room, List.length_set, List.length_append, List.length_cons, List.length_nil, List.length_replicate]; omega) | decide | skip) | (refine Stp.go ?_) | (refine WPA.ifT ?_) | (refine WPA.ifF ?_) | ((first | refine WPA.dec ?_); first | refine .inl ⟨by first | assumption | omega | with_reducible rfl | (refine fun h => h ?_; first | assumption | with_reducible rfl) | (simp only [List.length_append, List.length_cons, List.length_nil, List.length_set] <;> omega) | decide, ?_⟩ | refine .inr ⟨by first | assumption | omega | with_reducible rfl | (refine fun h => h ?_; first | assumption | with_reducible rfl) | (simp only [List.length_append, List.length_cons, List.length_nil, List.length_set] <;> omega) | decide, ?_⟩) | ((first | refine WPA.ifBt ?_ ?_ | refine WPA.ifBnf ?_ ?_); assumption) | ((first | refine WPA.ifBnt ?_ ?_ | refine WPA.ifBf ?_ ?_); assumption) | ((first | refine WPA.ifs ?_ ?_ | refine WPA.ifB ?_ ?_) <;> intro hc))
    refine QQ.freeze fun R hR => ?_
    refine QQ.end_ rfl (out, R ++ J) rfl fun w h => ⟨⟨inferInstance, ?_⟩, h⟩
    have hcur := SlI.ofOwn hR
    refine ⟨vs, SlI.left, by rw [adjA_len]; exact hvl, fun i hi => ?_⟩
    rw [adjA_len] at hi
    rw [adjA_at hi]
    exact (hL i hi).sub inferInstance
end
end Go.Proofs.Ytlodbajaoadhdaa
