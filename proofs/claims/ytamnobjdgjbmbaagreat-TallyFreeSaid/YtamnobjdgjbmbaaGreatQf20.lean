/- Texts that TallyFree_law leans on, part 20. Conditions: none. -/
import Derived.Test.YtamnobjdgjbmbaaGreatQf19
namespace Go.Proofs.YtamnobjdgjbmbaaGreat
open Go Go.Fw Go.RowKit
set_option linter.unusedVariables false
set_option linter.unusedSimpArgs false
set_option maxRecDepth 100000
set_option maxHeartbeats 16000000
set_option synthInstance.maxHeartbeats 200000
set_option synthInstance.maxSize 100000
attribute [local irreducible] WPA WLA WDA WDQ WDE QQ seqQ blockQ loopQ fnQ OpP OpT Tr TrP SL SLd OwnS LitS Bk BkE Ob
attribute [local irreducible] vS keyS parL RowH CtsH mrg grp RunsH CntH cntC cntR
abbrev ST := Int × Int × Int × Int
structure OW where
  i : Nat
  r : SV
  vs : List SV
  q : SV
  qs : List ST
  J : Foot
structure OR where
  i : Nat
  r : SV
  vs : List SV
  J : Foot
def OrdI (J : Foot) (gs : List (List Int)) (n : Nat) (vs : List SV) : Prop := vs.length = n ∧ ∀ j : Nat, j < n → LstI J (at_ vs (j : Int)) (mrg ((eachL gs ((j : Int) + 1)).map one))
def StsI (gs : List (List Int)) (n : Nat) (qs : List ST) : Prop := qs.length = n ∧ ∀ j : Nat, j < n → (at_ qs (j : Int)).1 = (eachL gs ((j : Int) + 1)).length
theorem OrdI.sub {J J' : Foot} {gs : List (List Int)} {n : Nat} {vs : List SV} (h : OrdI J gs n vs) [s : SubI J' J] : OrdI J' gs n vs := ⟨h.1, fun j hj => (h.2 j hj).sub s⟩
theorem OrdI.snoc {J : Foot} {gs : List (List Int)} {n : Nat} {vs : List SV} {v : SV} (h : OrdI J gs n vs) (hv : LstI J v (mrg ((eachL gs ((n : Int) + 1)).map one))) : OrdI J gs (n + 1) (vs ++ [v]) := by
  refine ⟨by simp [h.1], fun j hj => ?_⟩
  have hl := h.1
  rw [at_nat _ j (by simp; omega), List.getElem_append]
  by_cases e : j < vs.length
  · rw [dif_pos e, ← at_nat vs j e]; exact h.2 j (by omega)
  · rw [dif_neg e]
    have : j = n := by omega
    subst this
    have e0 : j - vs.length = 0 := by omega
    simpa [e0] using hv
theorem StsI.snoc {gs : List (List Int)} {n : Nat} {qs : List ST} {v : ST} (h : StsI gs n qs) (hv : v.1 = (eachL gs ((n : Int) + 1)).length) : StsI gs (n + 1) (qs ++ [v]) := by
  refine ⟨by simp [h.1], fun j hj => ?_⟩
  have hl := h.1
  rw [at_nat _ j (by simp; omega), List.getElem_append]
  by_cases e : j < qs.length
  · rw [dif_pos e, ← at_nat qs j e]; exact h.2 j (by omega)
  · rw [dif_neg e]
    have : j = n := by omega
    subst this
    have e0 : j - qs.length = 0 := by omega
    simpa [e0] using hv
theorem eachL_good {o : Int} {gs : List (List Int)} (ho : 0 ≤ o) (hk : ∀ g ∈ gs, okKey g) : GoodG o (eachL gs o) := fun g hg => by
  unfold eachL at hg
  obtain ⟨p, hp, hg⟩ := List.mem_flatMap.1 hg
  unfold gramsL at hg
  obtain ⟨i, hi, rfl⟩ := List.mem_map.1 hg
  refine ⟨?_, fun x hx => ?_⟩
  · have := gramA_len (p := p) (n := o) (i := i) (by simpa using hi)
    omega
  · unfold gramA cutL at hx
    split at hx
    · exact hk p hp x (List.mem_of_mem_drop (List.mem_of_mem_take hx))
    · cases hx
section
variable {L L' L1 L2 : List HP} {w0 : World} {I : Foot}
theorem Orders_arg {s : SV} {o b z f : Int} (ho : ¬ (1 ≤ o ∧ o ≤ 8)) :
    Tr Tryz.prog 32 #[.slice s.a s.n s.cap, .int .i64 o, .agg #[.int .i64 b, .int .i64 z, .int .i64 f]] (SL w0 I L) (fun _ : Unit => .tuple #[.slice SV.nil.a SV.nil.n SV.nil.cap, .slice SV.nil.a SV.nil.n SV.nil.cap, .int .i64 1]) (fun _ => SL w0 I L) := by
  refine Tr.intro Tryz.func32 rfl Tryz.ntmps32 rfl ?_
  by_cases o1 : o < 1
  · skip
    repeat' (first | ((first | refine WLA.m rfl rfl ?_ ?_ | refine WLA.st rfl ?_ ?_ | refine WLA.x rfl rfl ?_ (fun x => ?_) | refine WLA.x0 rfl ?_ (fun x => ?_)); first | exact trivial | exact rfl | assumption | omega | (refine ⟨?_, ?_⟩ <;> omega) | (simp only [Room, lenS]; omega) | decide | skip) | (refine Stp.go ?_) | (refine WPA.ifT ?_) | (refine WPA.ifF ?_) | (refine WLA.no rfl rfl ?_) | ((first | refine WPA.dec ?_ | ((fail_if_success (guard_target =~ WLA _ _ _ _ _ _ (put1 _ _ (.bool true)) _)); (fail_if_success (guard_target =~ WLA _ _ _ _ _ _ (put1 _ _ (.bool false)) _)); refine WLA.dec rfl rfl ?_) | refine WLA.pk ?_); first | refine .inl ⟨by first | assumption | omega | with_reducible rfl | (refine fun h => h ?_; first | assumption | with_reducible rfl) | (simp only [lenS] <;> omega) | decide, ?_⟩ | refine .inr ⟨by first | assumption | omega | with_reducible rfl | (refine fun h => h ?_; first | assumption | with_reducible rfl) | (simp only [lenS] <;> omega) | decide, ?_⟩) | ((first | refine WPA.ifBt ?_ ?_ | refine WPA.ifBnf ?_ ?_); assumption) | ((first | refine WPA.ifBnt ?_ ?_ | refine WPA.ifBf ?_ ?_); assumption) | ((first | refine WPA.ifs ?_ ?_ | refine WPA.ifB ?_ ?_) <;> intro hc) | ((fail_if_success (guard_target =~ WLA _ _ _ _ _ _ (put1 _ _ (.bool true)) _)); (fail_if_success (guard_target =~ WLA _ _ _ _ _ _ (put1 _ _ (.bool false)) _)); (first | refine WLA.both rfl rfl ?_ ?_ | refine WLA.bothB rfl rfl ?_ ?_) <;> intro hg))
    exact QQ.end_ rfl () rfl fun w h => h.to
  · have o2 : 8 < o := by omega
    repeat' (first | ((first | refine WLA.m rfl rfl ?_ ?_ | refine WLA.st rfl ?_ ?_ | refine WLA.x rfl rfl ?_ (fun x => ?_) | refine WLA.x0 rfl ?_ (fun x => ?_)); first | exact trivial | exact rfl | assumption | omega | (refine ⟨?_, ?_⟩ <;> omega) | (simp only [Room, lenS]; omega) | decide | skip) | (refine Stp.go ?_) | (refine WPA.ifT ?_) | (refine WPA.ifF ?_) | (refine WLA.no rfl rfl ?_) | ((first | refine WPA.dec ?_ | ((fail_if_success (guard_target =~ WLA _ _ _ _ _ _ (put1 _ _ (.bool true)) _)); (fail_if_success (guard_target =~ WLA _ _ _ _ _ _ (put1 _ _ (.bool false)) _)); refine WLA.dec rfl rfl ?_) | refine WLA.pk ?_); first | refine .inl ⟨by first | assumption | omega | with_reducible rfl | (refine fun h => h ?_; first | assumption | with_reducible rfl) | (simp only [lenS] <;> omega) | decide, ?_⟩ | refine .inr ⟨by first | assumption | omega | with_reducible rfl | (refine fun h => h ?_; first | assumption | with_reducible rfl) | (simp only [lenS] <;> omega) | decide, ?_⟩) | ((first | refine WPA.ifBt ?_ ?_ | refine WPA.ifBnf ?_ ?_); assumption) | ((first | refine WPA.ifBnt ?_ ?_ | refine WPA.ifBf ?_ ?_); assumption) | ((first | refine WPA.ifs ?_ ?_ | refine WPA.ifB ?_ ?_) <;> intro hc) | ((fail_if_success (guard_target =~ WLA _ _ _ _ _ _ (put1 _ _ (.bool true)) _)); (fail_if_success (guard_target =~ WLA _ _ _ _ _ _ (put1 _ _ (.bool false)) _)); (first | refine WLA.both rfl rfl ?_ ?_ | refine WLA.bothB rfl rfl ?_ ?_) <;> intro hg))
    exact QQ.end_ rfl () rfl fun w h => h.to
theorem Orders_tr {s : SV} {hs : List SV} {gs : List (List Int)} {o z : Int} {B f : Nat} [hsl : SlI I s SV inferInstance hs] (hg : GsI I hs gs) (hc : CfOk B z f) (ho : 1 ≤ o ∧ o ≤ 8) (hn : hs.length ≤ 1000) (hl : ∀ g ∈ gs, g.length ≤ 1000) (hall : sumN gs ≤ 300) (hk : ∀ g ∈ gs, okKey g) :
    Tr Tryz.prog 32 #[.slice s.a s.n s.cap, .int .i64 o, .agg #[.int .i64 B, .int .i64 z, .int .i64 f]] (SL w0 I L)
      (fun x : OW => .tuple #[.slice x.r.a x.r.n x.r.cap, .slice x.q.a x.q.n x.q.cap, .int .i64 0])
      (fun x w => (SubI x.J I ∧ OrdI x.J gs o.toNat x.vs ∧ StsI gs o.toNat x.qs) ∧ SL w0 x.J (OwnS 27 x.r x.vs :: OwnS 66 x.q x.qs :: L) w) := by
  refine Tr.intro Tryz.func32 rfl Tryz.ntmps32 rfl ?_
  have o1 : ¬ o < 1 := by omega
  have o2 : ¬ 8 < o := by omega
  obtain ⟨O, rfl⟩ : ∃ O : Nat, o = (O : Int) := ⟨o.toNat, by omega⟩
  rw [Int.toNat_natCast]
  repeat' (first | ((first | refine WLA.m rfl rfl ?_ ?_ | refine WLA.st rfl ?_ ?_ | refine WLA.x rfl rfl ?_ (fun x => ?_) | refine WLA.x0 rfl ?_ (fun x => ?_)); first | exact trivial | exact rfl | assumption | omega | (refine ⟨?_, ?_⟩ <;> omega) | (simp only [Room, lenS]; omega) | decide | skip) | (refine Stp.go ?_) | (refine WPA.ifT ?_) | (refine WPA.ifF ?_) | (refine WLA.no rfl rfl ?_) | ((first | refine WPA.dec ?_ | ((fail_if_success (guard_target =~ WLA _ _ _ _ _ _ (put1 _ _ (.bool true)) _)); (fail_if_success (guard_target =~ WLA _ _ _ _ _ _ (put1 _ _ (.bool false)) _)); refine WLA.dec rfl rfl ?_) | refine WLA.pk ?_); first | refine .inl ⟨by first | assumption | omega | with_reducible rfl | (refine fun h => h ?_; first | assumption | with_reducible rfl) | (simp only [lenS] <;> omega) | decide, ?_⟩ | refine .inr ⟨by first | assumption | omega | with_reducible rfl | (refine fun h => h ?_; first | assumption | with_reducible rfl) | (simp only [lenS] <;> omega) | decide, ?_⟩) | ((first | refine WPA.ifBt ?_ ?_ | refine WPA.ifBnf ?_ ?_); assumption) | ((first | refine WPA.ifBnt ?_ ?_ | refine WPA.ifBf ?_ ?_); assumption) | ((first | refine WPA.ifs ?_ ?_ | refine WPA.ifB ?_ ?_) <;> intro hc) | ((fail_if_success (guard_target =~ WLA _ _ _ _ _ _ (put1 _ _ (.bool true)) _)); (fail_if_success (guard_target =~ WLA _ _ _ _ _ _ (put1 _ _ (.bool false)) _)); (first | refine WLA.both rfl rfl ?_ ?_ | refine WLA.bothB rfl rfl ?_ ?_) <;> intro hg))
  revert x; intro X5
  refine WPA.loopS (σ := OW) (fun y => [(0, .slice s.a s.n s.cap), (5, .pointer (some ⟨X5, 0, none⟩)), (9, .slice y.r.a y.r.n y.r.cap), (10, .slice y.q.a y.q.n y.q.cap), (21, .int .i64 O), (22, .int .i64 y.i)])
    (fun y => y.i ≤ O ∧ SubI y.J I ∧ OrdI y.J gs y.i y.vs ∧ StsI gs y.i y.qs) (fun y => SL w0 y.J (OwnS 27 y.r y.vs :: OwnS 66 y.q y.qs :: Bk X5 63 [.int .i64 B, .int .i64 z, .int .i64 f] :: L)) (fun y => O - y.i) ⟨0, SV.nil, [], SV.nil, [], I⟩ ⟨rfl, rfl, rfl, rfl, rfl, rfl, trivial⟩
    ⟨Nat.zero_le _, inferInstance, ⟨rfl, fun j hj => absurd hj (Nat.not_lt_zero j)⟩, rfl, fun j hj => absurd hj (Nat.not_lt_zero j)⟩ (fun w h => h.to) ?_
  rintro ⟨i, r, vs, q, qs, J⟩ ρ ⟨hi, hJ, hO, hS⟩
  dsimp only at hi hJ hO hS ⊢
  have hv1 := hO.1
  have hq1 := hS.1
  by_cases hlt : i < O
  · have hlt' : (i : Int) < O := by omega
    have hsum := each_sum (o := (i : Int) + 1) gs
    have hGG : GoodG ((i : Int) + 1) (eachL gs ((i : Int) + 1)) := eachL_good (by omega) hk
    have hct := fun {L : List HP} => Count_good (L := L) (w0 := w0) (I := J) (s := s) (o := (i : Int) + 1) (hsl := hsl.sub) hg.sub hc (by omega) hn hl (by omega) hGG
    generalize ((cntC ((i : Int) + 1) z B (eachL gs ((i : Int) + 1))).2.length : Int) = n1 at hct
    generalize ((cntR ((i : Int) + 1) z B f (eachL gs ((i : Int) + 1))).2.2.1 : Int) = n2 at hct
    generalize (cntR ((i : Int) + 1) z B f (eachL gs ((i : Int) + 1))).1.peak = n3 at hct
    repeat' (first | ((first | refine WLA.m rfl rfl ?_ ?_ | refine WLA.st rfl ?_ ?_ | refine WLA.x rfl rfl ?_ (fun x => ?_) | refine WLA.x0 rfl ?_ (fun x => ?_)); first | exact trivial | exact rfl | assumption | omega | (refine ⟨?_, ?_⟩ <;> omega) | (simp only [Room, lenS]; omega) | decide | skip) | (refine Stp.go ?_) | (guard_target =~ WLA _ _ _ _ _ (⟨_, .call ⟨.value (.func 25), _, _⟩, _, _, _, _⟩ :: _) _ _; refine WLA.call rfl rfl (hct) ?_; rintro y) | (refine WPA.ifT ?_) | (refine WPA.ifF ?_) | ((first | refine WPA.dec ?_); first | refine .inl ⟨by first | assumption | omega | with_reducible rfl | (refine fun h => h ?_; first | assumption | with_reducible rfl) | (simp only [lenS] <;> omega) | decide, ?_⟩ | refine .inr ⟨by first | assumption | omega | with_reducible rfl | (refine fun h => h ?_; first | assumption | with_reducible rfl) | (simp only [lenS] <;> omega) | decide, ?_⟩) | ((first | refine WPA.ifBt ?_ ?_ | refine WPA.ifBnf ?_ ?_); assumption) | ((first | refine WPA.ifBnt ?_ ?_ | refine WPA.ifBf ?_ ?_); assumption) | ((first | refine WPA.ifs ?_ ?_ | refine WPA.ifB ?_ ?_) <;> intro hc))
    revert x; intro q2
    revert x; intro _
    revert x; intro r2
    refine QQ.ent (EntC.out (L' := CtsH y (mrg ((eachL gs ((i : Int) + 1)).map one)) :: OwnS 27 r2 (vs ++ [y]) :: OwnS 66 q2 (qs ++ [(((eachL gs ((i : Int) + 1)).length : Int), n1, n2, n3)]) :: Bk X5 63 [.int .i64 B, .int .i64 z, .int .i64 f] :: L)) ?_
    refine QQ.freeze fun R hR => ?_
    have hy : LstI (R ++ J) y _ := (LstI.ofCts hR).sub inferInstance
    exact QQ.loopS ⟨i + 1, r2, vs ++ [y], q2, qs ++ [_], R ++ J⟩ ⟨rfl, rfl, rfl, rfl, rfl, rfl, trivial⟩ ⟨hlt, inferInstance, hO.sub.snoc hy, hS.snoc (v := (((eachL gs ((i : Int) + 1)).length : Int), n1, n2, n3)) rfl⟩ (by dsimp only; omega) (fun w h => h.to)
  · have hlt' : ¬ (i : Int) < O := by omega
    have hiO : i = O := by omega
    subst hiO
    repeat' (first | ((first | refine WLA.m rfl rfl ?_ ?_ | refine WLA.st rfl ?_ ?_ | refine WLA.x rfl rfl ?_ (fun x => ?_) | refine WLA.x0 rfl ?_ (fun x => ?_)); first | exact trivial | exact rfl | assumption | omega | (refine ⟨?_, ?_⟩ <;> omega) | (simp only [Room, lenS]; omega) | decide | skip) | (refine Stp.go ?_) | (refine WPA.ifT ?_) | (refine WPA.ifF ?_) | ((first | refine WPA.dec ?_); first | refine .inl ⟨by first | assumption | omega | with_reducible rfl | (refine fun h => h ?_; first | assumption | with_reducible rfl) | (simp only [lenS] <;> omega) | decide, ?_⟩ | refine .inr ⟨by first | assumption | omega | with_reducible rfl | (refine fun h => h ?_; first | assumption | with_reducible rfl) | (simp only [lenS] <;> omega) | decide, ?_⟩) | ((first | refine WPA.ifBt ?_ ?_ | refine WPA.ifBnf ?_ ?_); assumption) | ((first | refine WPA.ifBnt ?_ ?_ | refine WPA.ifBf ?_ ?_); assumption) | ((first | refine WPA.ifs ?_ ?_ | refine WPA.ifB ?_ ?_) <;> intro hc))
    exact QQ.end_ rfl ⟨i, r, vs, q, qs, J⟩ rfl fun w h => ⟨⟨hJ, hO, hS⟩, h.to⟩
theorem rOrders_tr {s : SV} {hs : List SV} {gs : List (List Int)} {O : Nat} [hsl : SlI I s SV inferInstance hs] (hg : GsI I hs gs) (ho : O ≤ 8) (hn : hs.length ≤ 1000) (hl : ∀ g ∈ gs, g.length ≤ 1000) (hall : sumN gs ≤ 300) (hk : ∀ g ∈ gs, okKey g) :
    Tr Tryz.prog 33 #[.slice s.a s.n s.cap, .int .i64 O] (SL w0 I L)
      (fun x : OR => .slice x.r.a x.r.n x.r.cap)
      (fun x w => (SubI x.J I ∧ OrdI x.J gs O x.vs) ∧ SL w0 x.J (OwnS 27 x.r x.vs :: L) w) := by
  refine Tr.intro Tryz.func33 rfl Tryz.ntmps33 rfl ?_
  repeat' (first | ((first | refine WLA.m rfl rfl ?_ ?_ | refine WLA.st rfl ?_ ?_ | refine WLA.x rfl rfl ?_ (fun x => ?_) | refine WLA.x0 rfl ?_ (fun x => ?_)); first | exact trivial | exact rfl | assumption | omega | (refine ⟨?_, ?_⟩ <;> omega) | (simp only [Room, lenS]; omega) | decide | skip) | (refine Stp.go ?_) | (refine WPA.ifT ?_) | (refine WPA.ifF ?_) | ((first | refine WPA.dec ?_); first | refine .inl ⟨by first | assumption | omega | with_reducible rfl | (refine fun h => h ?_; first | assumption | with_reducible rfl) | (simp only [lenS] <;> omega) | decide, ?_⟩ | refine .inr ⟨by first | assumption | omega | with_reducible rfl | (refine fun h => h ?_; first | assumption | with_reducible rfl) | (simp only [lenS] <;> omega) | decide, ?_⟩) | ((first | refine WPA.ifBt ?_ ?_ | refine WPA.ifBnf ?_ ?_); assumption) | ((first | refine WPA.ifBnt ?_ ?_ | refine WPA.ifBf ?_ ?_); assumption) | ((first | refine WPA.ifs ?_ ?_ | refine WPA.ifB ?_ ?_) <;> intro hc))
  refine WPA.loopS (σ := OR) (fun y => [(0, .slice s.a s.n s.cap), (1, .int .i64 O), (5, .slice y.r.a y.r.n y.r.cap), (6, .int .i64 ((y.i : Int) + 1))])
    (fun y => y.i ≤ O ∧ SubI y.J I ∧ OrdI y.J gs y.i y.vs) (fun y => SL w0 y.J (OwnS 27 y.r y.vs :: L)) (fun y => O - y.i) ⟨0, SV.nil, [], I⟩ ⟨rfl, rfl, rfl, rfl, trivial⟩
    ⟨Nat.zero_le _, inferInstance, ⟨rfl, fun j hj => absurd hj (Nat.not_lt_zero j)⟩⟩ (fun w h => h.to) ?_
  rintro ⟨i, r, vs, J⟩ ρ ⟨hi, hJ, hO⟩
  dsimp only at hi hJ hO ⊢
  have hv1 := hO.1
  by_cases hlt : i < O
  · have hlt' : (i : Int) + 1 ≤ O := by omega
    have hsum := each_sum (o := (i : Int) + 1) gs
    have hGG : GoodG ((i : Int) + 1) (eachL gs ((i : Int) + 1)) := eachL_good (by omega) hk
    have hrc := fun {L : List HP} => rCount_tr (w0 := w0) (I := J) (L := L) (s := s) (o := (i : Int) + 1) (hsl := hsl.sub) hg.sub hn hl (by omega) (fun g hg => by have := (hGG g hg).1; omega)
    repeat' (first | ((first | refine WLA.m rfl rfl ?_ ?_ | refine WLA.st rfl ?_ ?_ | refine WLA.x rfl rfl ?_ (fun x => ?_) | refine WLA.x0 rfl ?_ (fun x => ?_)); first | exact trivial | exact rfl | assumption | omega | (refine ⟨?_, ?_⟩ <;> omega) | (simp only [Room, lenS]; omega) | decide | skip) | (refine Stp.go ?_) | (guard_target =~ WLA _ _ _ _ _ (⟨_, .call ⟨.value (.func 30), _, _⟩, _, _, _, _⟩ :: _) _ _; refine WLA.call rfl rfl (hrc) ?_; rintro ⟨c, K⟩; dsimp only; refine WLA.pure fun hcc => ?_) | (refine WPA.ifT ?_) | (refine WPA.ifF ?_) | ((first | refine WPA.dec ?_); first | refine .inl ⟨by first | assumption | omega | with_reducible rfl | (refine fun h => h ?_; first | assumption | with_reducible rfl) | (simp only [lenS] <;> omega) | decide, ?_⟩ | refine .inr ⟨by first | assumption | omega | with_reducible rfl | (refine fun h => h ?_; first | assumption | with_reducible rfl) | (simp only [lenS] <;> omega) | decide, ?_⟩) | ((first | refine WPA.ifBt ?_ ?_ | refine WPA.ifBnf ?_ ?_); assumption) | ((first | refine WPA.ifBnt ?_ ?_ | refine WPA.ifBf ?_ ?_); assumption) | ((first | refine WPA.ifs ?_ ?_ | refine WPA.ifB ?_ ?_) <;> intro hc))
    have := hcc.1
    exact QQ.loopS ⟨i + 1, x, vs ++ [c], K⟩ ⟨rfl, rfl, rfl, rfl, trivial⟩ ⟨hlt, ⟨fun z hz => hcc.1.out (hJ.out hz)⟩, hO.sub.snoc hcc.2⟩ (by dsimp only; omega) (fun w h => h.to)
  · have hlt' : ¬ (i : Int) + 1 ≤ O := by omega
    have hiO : i = O := by omega
    subst hiO
    repeat' (first | ((first | refine WLA.m rfl rfl ?_ ?_ | refine WLA.st rfl ?_ ?_ | refine WLA.x rfl rfl ?_ (fun x => ?_) | refine WLA.x0 rfl ?_ (fun x => ?_)); first | exact trivial | exact rfl | assumption | omega | (refine ⟨?_, ?_⟩ <;> omega) | (simp only [Room, lenS]; omega) | decide | skip) | (refine Stp.go ?_) | (refine WPA.ifT ?_) | (refine WPA.ifF ?_) | ((first | refine WPA.dec ?_); first | refine .inl ⟨by first | assumption | omega | with_reducible rfl | (refine fun h => h ?_; first | assumption | with_reducible rfl) | (simp only [lenS] <;> omega) | decide, ?_⟩ | refine .inr ⟨by first | assumption | omega | with_reducible rfl | (refine fun h => h ?_; first | assumption | with_reducible rfl) | (simp only [lenS] <;> omega) | decide, ?_⟩) | ((first | refine WPA.ifBt ?_ ?_ | refine WPA.ifBnf ?_ ?_); assumption) | ((first | refine WPA.ifBnt ?_ ?_ | refine WPA.ifBf ?_ ?_); assumption) | ((first | refine WPA.ifs ?_ ?_ | refine WPA.ifB ?_ ?_) <;> intro hc))
    exact QQ.end_ rfl ⟨i, r, vs, J⟩ rfl fun w h => ⟨⟨hJ, hO⟩, h.to⟩
end
end Go.Proofs.YtamnobjdgjbmbaaGreat
namespace Go.Proofs.YtamnobjdgjbmbaaGreat
open Go Go.Fw Go.RowKit
set_option linter.unusedVariables false
set_option linter.unusedSimpArgs false
set_option maxRecDepth 100000
set_option maxHeartbeats 16000000
set_option synthInstance.maxHeartbeats 200000
set_option synthInstance.maxSize 100000
attribute [local irreducible] WPA WLA WDA WDQ WDE QQ seqQ blockQ loopQ fnQ OpP OpT Tr TrP SL SLd OwnS LitS Bk BkE Ob
instance : Und Tryz.prog 75 (.array 2 63) := ⟨Tryz.underlying75⟩
attribute [local irreducible] vS keyS parL RowH CtsH mrg grp RunsH CntH cntC cntR eachL
section
variable {L L' L1 L2 : List HP} {w0 : World} {I : Foot}
theorem TallyFree_tr {s : SV} {hs : List SV} {gs : List (List Int)} {o b z f b' z' f' : Int} [hsl : SlI I s SV inferInstance hs] (hg : GsI I hs gs) :
    Tr Tryz.prog 7 #[.slice s.a s.n s.cap, .int .i64 o, .agg #[.int .i64 b, .int .i64 z, .int .i64 f, .int .i64 b', .int .i64 z', .int .i64 f']] (SL w0 I []) (fun _ : Unit => .bool true) (fun _ => SL w0 I []) := by
  refine Tr.intro Tryz.func7 rfl Tryz.ntmps7 rfl ?_
  have hbt : (!true) = false := rfl
  have hbf : (!false) = true := rfl
  have hsm0 := fun {L : List HP} => Small22_tr (w0 := w0) (I := I) (L := L) (s := s) hg
  by_cases hsm : Sm22 gs
  case neg =>
    rw [decide_eq_false hsm] at hsm0
    repeat' (first | ((rw [hbf])) | ((first | refine WLA.m rfl rfl ?_ ?_ | refine WLA.st rfl ?_ ?_ | refine WLA.x rfl rfl ?_ (fun x => ?_) | refine WLA.x0 rfl ?_ (fun x => ?_)); first | exact trivial | exact rfl | assumption | omega | (refine ⟨?_, ?_⟩ <;> omega) | (simp only [Room, lenS]; omega) | decide | skip) | (refine Stp.go ?_) | (guard_target =~ WLA _ _ _ _ _ (⟨_, .call ⟨.value (.func 23), _, _⟩, _, _, _, _⟩ :: _) _ _; refine WLA.cq rfl rfl (hsm0) ?_) | (guard_target =~ WLA _ _ _ _ _ (⟨_, .call ⟨.value (.func 24), _, _⟩, _, _, _, _⟩ :: _) _ _; refine WLA.call rfl rfl (live_tr22 _ _ _) ?_; rintro ⟨⟩) | (refine WPA.ifT ?_) | (refine WPA.ifF ?_) | (refine WLA.no rfl rfl ?_) | ((first | refine WPA.dec ?_ | ((fail_if_success (guard_target =~ WLA _ _ _ _ _ _ (put1 _ _ (.bool true)) _)); (fail_if_success (guard_target =~ WLA _ _ _ _ _ _ (put1 _ _ (.bool false)) _)); refine WLA.dec rfl rfl ?_) | refine WLA.pk ?_); first | refine .inl ⟨by first | assumption | omega | with_reducible rfl | (refine fun h => h ?_; first | assumption | with_reducible rfl) | (simp only [lenS] <;> omega) | decide, ?_⟩ | refine .inr ⟨by first | assumption | omega | with_reducible rfl | (refine fun h => h ?_; first | assumption | with_reducible rfl) | (simp only [lenS] <;> omega) | decide, ?_⟩) | ((first | refine WPA.ifBt ?_ ?_ | refine WPA.ifBnf ?_ ?_); assumption) | ((first | refine WPA.ifBnt ?_ ?_ | refine WPA.ifBf ?_ ?_); assumption) | ((first | refine WPA.ifs ?_ ?_ | refine WPA.ifB ?_ ?_) <;> intro hc) | ((fail_if_success (guard_target =~ WLA _ _ _ _ _ _ (put1 _ _ (.bool true)) _)); (fail_if_success (guard_target =~ WLA _ _ _ _ _ _ (put1 _ _ (.bool false)) _)); (first | refine WLA.both rfl rfl ?_ ?_ | refine WLA.bothB rfl rfl ?_ ?_) <;> intro hg))
    exact QQ.end_ rfl () rfl fun w h => h.to
  rw [decide_eq_true hsm] at hsm0
  have his := fun {L : List HP} => is_tr (L := L) (w0 := w0) (I := I) (b := b) (z := z) (f := f)
  have his2 := fun {L : List HP} => is_tr (L := L) (w0 := w0) (I := I) (b := b') (z := z') (f := f')
  by_cases hc : CfOk b z f
  case neg =>
    rw [decide_eq_false hc] at his
    repeat' (first | ((rw [hbt])) | ((rw [hbf])) | ((first | refine WLA.m rfl rfl ?_ ?_ | refine WLA.st rfl ?_ ?_ | refine WLA.x rfl rfl ?_ (fun x => ?_) | refine WLA.x0 rfl ?_ (fun x => ?_)); first | exact trivial | exact rfl | assumption | omega | (refine ⟨?_, ?_⟩ <;> omega) | (simp only [Room, lenS]; omega) | decide | skip) | (refine Stp.go ?_) | (guard_target =~ WLA _ _ _ _ _ (⟨_, .call ⟨.value (.func 23), _, _⟩, _, _, _, _⟩ :: _) _ _; refine WLA.cq rfl rfl (hsm0) ?_) | (guard_target =~ WLA _ _ _ _ _ (⟨_, .call ⟨.value (.func 27), _, _⟩, _, _, _, _⟩ :: _) _ _; refine WLA.call rfl rfl (his) ?_; rintro ⟨⟩) | (guard_target =~ WLA _ _ _ _ _ (⟨_, .call ⟨.value (.func 24), _, _⟩, _, _, _, _⟩ :: _) _ _; refine WLA.call rfl rfl (live_tr22 _ _ _) ?_; rintro ⟨⟩) | (refine WPA.ifT ?_) | (refine WPA.ifF ?_) | (refine WLA.no rfl rfl ?_) | ((first | refine WPA.dec ?_ | ((fail_if_success (guard_target =~ WLA _ _ _ _ _ _ (put1 _ _ (.bool true)) _)); (fail_if_success (guard_target =~ WLA _ _ _ _ _ _ (put1 _ _ (.bool false)) _)); refine WLA.dec rfl rfl ?_) | refine WLA.pk ?_); first | refine .inl ⟨by first | assumption | omega | with_reducible rfl | (refine fun h => h ?_; first | assumption | with_reducible rfl) | (simp only [lenS] <;> omega) | decide, ?_⟩ | refine .inr ⟨by first | assumption | omega | with_reducible rfl | (refine fun h => h ?_; first | assumption | with_reducible rfl) | (simp only [lenS] <;> omega) | decide, ?_⟩) | ((first | refine WPA.ifBt ?_ ?_ | refine WPA.ifBnf ?_ ?_); assumption) | ((first | refine WPA.ifBnt ?_ ?_ | refine WPA.ifBf ?_ ?_); assumption) | ((first | refine WPA.ifs ?_ ?_ | refine WPA.ifB ?_ ?_) <;> intro hc) | ((fail_if_success (guard_target =~ WLA _ _ _ _ _ _ (put1 _ _ (.bool true)) _)); (fail_if_success (guard_target =~ WLA _ _ _ _ _ _ (put1 _ _ (.bool false)) _)); (first | refine WLA.both rfl rfl ?_ ?_ | refine WLA.bothB rfl rfl ?_ ?_) <;> intro hg))
    exact QQ.end_ rfl () rfl fun w h => h.to
  rw [decide_eq_true hc] at his
  by_cases hc' : CfOk b' z' f'
  case neg =>
    rw [decide_eq_false hc'] at his2
    repeat' (first | ((rw [hbt])) | ((rw [hbf])) | ((first | refine WLA.m rfl rfl ?_ ?_ | refine WLA.st rfl ?_ ?_ | refine WLA.x rfl rfl ?_ (fun x => ?_) | refine WLA.x0 rfl ?_ (fun x => ?_)); first | exact trivial | exact rfl | assumption | omega | (refine ⟨?_, ?_⟩ <;> omega) | (simp only [Room, lenS]; omega) | decide | skip) | (refine Stp.go ?_) | (guard_target =~ WLA _ _ _ _ _ (⟨_, .call ⟨.value (.func 23), _, _⟩, _, _, _, _⟩ :: _) _ _; refine WLA.cq rfl rfl (hsm0) ?_) | (guard_target =~ WLA _ _ _ _ _ (⟨_, .call ⟨.value (.func 27), _, _⟩, _, _, _, _⟩ :: _) _ _; refine WLA.call rfl rfl (his) ?_; rintro ⟨⟩) | (guard_target =~ WLA _ _ _ _ _ (⟨_, .call ⟨.value (.func 27), _, _⟩, _, _, _, _⟩ :: _) _ _; refine WLA.call rfl rfl (his2) ?_; rintro ⟨⟩) | (guard_target =~ WLA _ _ _ _ _ (⟨_, .call ⟨.value (.func 24), _, _⟩, _, _, _, _⟩ :: _) _ _; refine WLA.call rfl rfl (live_tr22 _ _ _) ?_; rintro ⟨⟩) | (refine WPA.ifT ?_) | (refine WPA.ifF ?_) | (refine WLA.no rfl rfl ?_) | ((first | refine WPA.dec ?_ | ((fail_if_success (guard_target =~ WLA _ _ _ _ _ _ (put1 _ _ (.bool true)) _)); (fail_if_success (guard_target =~ WLA _ _ _ _ _ _ (put1 _ _ (.bool false)) _)); refine WLA.dec rfl rfl ?_) | refine WLA.pk ?_); first | refine .inl ⟨by first | assumption | omega | with_reducible rfl | (refine fun h => h ?_; first | assumption | with_reducible rfl) | (simp only [lenS] <;> omega) | decide, ?_⟩ | refine .inr ⟨by first | assumption | omega | with_reducible rfl | (refine fun h => h ?_; first | assumption | with_reducible rfl) | (simp only [lenS] <;> omega) | decide, ?_⟩) | ((first | refine WPA.ifBt ?_ ?_ | refine WPA.ifBnf ?_ ?_); assumption) | ((first | refine WPA.ifBnt ?_ ?_ | refine WPA.ifBf ?_ ?_); assumption) | ((first | refine WPA.ifs ?_ ?_ | refine WPA.ifB ?_ ?_) <;> intro hc) | ((fail_if_success (guard_target =~ WLA _ _ _ _ _ _ (put1 _ _ (.bool true)) _)); (fail_if_success (guard_target =~ WLA _ _ _ _ _ _ (put1 _ _ (.bool false)) _)); (first | refine WLA.both rfl rfl ?_ ?_ | refine WLA.bothB rfl rfl ?_ ?_) <;> intro hg))
    exact QQ.end_ rfl () rfl fun w h => h.to
  rw [decide_eq_true hc'] at his2
  have hll := hg.1
  have hl12 := hsm.1
  have h100 := hsm.2.2
  have hl1 : ∀ g ∈ gs, g.length ≤ 1000 := fun g hg' => by have := hsm.2.1 g hg'; omega
  have hrr := fun {L : List HP} => rRight_tr (w0 := w0) (I := I) (L := L) (s := s) hg (by omega) (fun g hg' => by have := hl1 g hg'; omega)
  by_cases hk : ∀ g ∈ gs, okKey g
  case neg =>
    rw [decide_eq_false hk] at hrr
    repeat' (first | ((rw [hbt])) | ((rw [hbf])) | ((first | refine WLA.m rfl rfl ?_ ?_ | refine WLA.st rfl ?_ ?_ | refine WLA.x rfl rfl ?_ (fun x => ?_) | refine WLA.x0 rfl ?_ (fun x => ?_)); first | exact trivial | exact rfl | assumption | omega | (refine ⟨?_, ?_⟩ <;> omega) | (simp only [Room, lenS]; omega) | decide | skip) | (refine Stp.go ?_) | (guard_target =~ WLA _ _ _ _ _ (⟨_, .call ⟨.value (.func 23), _, _⟩, _, _, _, _⟩ :: _) _ _; refine WLA.cq rfl rfl (hsm0) ?_) | (guard_target =~ WLA _ _ _ _ _ (⟨_, .call ⟨.value (.func 27), _, _⟩, _, _, _, _⟩ :: _) _ _; refine WLA.call rfl rfl (his) ?_; rintro ⟨⟩) | (guard_target =~ WLA _ _ _ _ _ (⟨_, .call ⟨.value (.func 27), _, _⟩, _, _, _, _⟩ :: _) _ _; refine WLA.call rfl rfl (his2) ?_; rintro ⟨⟩) | (guard_target =~ WLA _ _ _ _ _ (⟨_, .call ⟨.value (.func 29), _, _⟩, _, _, _, _⟩ :: _) _ _; refine WLA.call rfl rfl (hrr) ?_; rintro ⟨⟩) | (guard_target =~ WLA _ _ _ _ _ (⟨_, .call ⟨.value (.func 24), _, _⟩, _, _, _, _⟩ :: _) _ _; refine WLA.call rfl rfl (live_tr22 _ _ _) ?_; rintro ⟨⟩) | (refine WPA.ifT ?_) | (refine WPA.ifF ?_) | (refine WLA.no rfl rfl ?_) | ((first | refine WPA.dec ?_ | ((fail_if_success (guard_target =~ WLA _ _ _ _ _ _ (put1 _ _ (.bool true)) _)); (fail_if_success (guard_target =~ WLA _ _ _ _ _ _ (put1 _ _ (.bool false)) _)); refine WLA.dec rfl rfl ?_) | refine WLA.pk ?_); first | refine .inl ⟨by first | assumption | omega | with_reducible rfl | (refine fun h => h ?_; first | assumption | with_reducible rfl) | (simp only [lenS] <;> omega) | decide, ?_⟩ | refine .inr ⟨by first | assumption | omega | with_reducible rfl | (refine fun h => h ?_; first | assumption | with_reducible rfl) | (simp only [lenS] <;> omega) | decide, ?_⟩) | ((first | refine WPA.ifBt ?_ ?_ | refine WPA.ifBnf ?_ ?_); assumption) | ((first | refine WPA.ifBnt ?_ ?_ | refine WPA.ifBf ?_ ?_); assumption) | ((first | refine WPA.ifs ?_ ?_ | refine WPA.ifB ?_ ?_) <;> intro hc) | ((fail_if_success (guard_target =~ WLA _ _ _ _ _ _ (put1 _ _ (.bool true)) _)); (fail_if_success (guard_target =~ WLA _ _ _ _ _ _ (put1 _ _ (.bool false)) _)); (first | refine WLA.both rfl rfl ?_ ?_ | refine WLA.bothB rfl rfl ?_ ?_) <;> intro hg))
    exact QQ.end_ rfl () rfl fun w h => h.to
  rw [decide_eq_true hk] at hrr
  by_cases ho : 1 ≤ o ∧ o ≤ 8
  case neg =>
    have hoa := fun {L : List HP} {b z f : Int} => Orders_arg (w0 := w0) (I := I) (L := L) (s := s) (b := b) (z := z) (f := f) ho
    have hnil : SlI I SV.nil Pe inferInstance [] := SlI.nil
    by_cases o1 : o < 1
    · skip
      repeat' (first | ((rw [hbt])) | ((first | refine WLA.m rfl rfl ?_ ?_ | refine WLA.st rfl ?_ ?_ | refine WLA.x rfl rfl ?_ (fun x => ?_) | refine WLA.x0 rfl ?_ (fun x => ?_)); first | exact trivial | exact rfl | assumption | omega | (refine ⟨?_, ?_⟩ <;> omega) | (simp only [Room, lenS]; omega) | decide | skip) | (refine Stp.go ?_) | (guard_target =~ WLA _ _ _ _ _ (⟨_, .call ⟨.value (.func 23), _, _⟩, _, _, _, _⟩ :: _) _ _; refine WLA.cq rfl rfl (hsm0) ?_) | (guard_target =~ WLA _ _ _ _ _ (⟨_, .call ⟨.value (.func 27), _, _⟩, _, _, _, _⟩ :: _) _ _; refine WLA.call rfl rfl (his) ?_; rintro ⟨⟩) | (guard_target =~ WLA _ _ _ _ _ (⟨_, .call ⟨.value (.func 27), _, _⟩, _, _, _, _⟩ :: _) _ _; refine WLA.call rfl rfl (his2) ?_; rintro ⟨⟩) | (guard_target =~ WLA _ _ _ _ _ (⟨_, .call ⟨.value (.func 29), _, _⟩, _, _, _, _⟩ :: _) _ _; refine WLA.call rfl rfl (hrr) ?_; rintro ⟨⟩) | (guard_target =~ WLA _ _ _ _ _ (⟨_, .call ⟨.value (.func 32), _, _⟩, _, _, _, _⟩ :: _) _ _; refine WLA.call rfl rfl (hoa) ?_; rintro ⟨⟩) | (guard_target =~ WLA _ _ _ _ _ (⟨_, .call ⟨.value (.func 24), _, _⟩, _, _, _, _⟩ :: _) _ _; refine WLA.call rfl rfl (live_tr22 _ _ _) ?_; rintro ⟨⟩) | (refine WPA.ifT ?_) | (refine WPA.ifF ?_) | (refine WLA.no rfl rfl ?_) | ((first | refine WPA.dec ?_ | ((fail_if_success (guard_target =~ WLA _ _ _ _ _ _ (put1 _ _ (.bool true)) _)); (fail_if_success (guard_target =~ WLA _ _ _ _ _ _ (put1 _ _ (.bool false)) _)); refine WLA.dec rfl rfl ?_) | refine WLA.pk ?_); first | refine .inl ⟨by first | assumption | omega | with_reducible rfl | (refine fun h => h ?_; first | assumption | with_reducible rfl) | (simp only [lenS] <;> omega) | decide, ?_⟩ | refine .inr ⟨by first | assumption | omega | with_reducible rfl | (refine fun h => h ?_; first | assumption | with_reducible rfl) | (simp only [lenS] <;> omega) | decide, ?_⟩) | ((first | refine WPA.ifBt ?_ ?_ | refine WPA.ifBnf ?_ ?_); assumption) | ((first | refine WPA.ifBnt ?_ ?_ | refine WPA.ifBf ?_ ?_); assumption) | ((first | refine WPA.ifs ?_ ?_ | refine WPA.ifB ?_ ?_) <;> intro hc) | ((fail_if_success (guard_target =~ WLA _ _ _ _ _ _ (put1 _ _ (.bool true)) _)); (fail_if_success (guard_target =~ WLA _ _ _ _ _ _ (put1 _ _ (.bool false)) _)); (first | refine WLA.both rfl rfl ?_ ?_ | refine WLA.bothB rfl rfl ?_ ?_) <;> intro hg))
      exact QQ.end_ rfl () rfl fun w h => h.to
    · have o2 : 8 < o := by omega
      repeat' (first | ((rw [hbt])) | ((first | refine WLA.m rfl rfl ?_ ?_ | refine WLA.st rfl ?_ ?_ | refine WLA.x rfl rfl ?_ (fun x => ?_) | refine WLA.x0 rfl ?_ (fun x => ?_)); first | exact trivial | exact rfl | assumption | omega | (refine ⟨?_, ?_⟩ <;> omega) | (simp only [Room, lenS]; omega) | decide | skip) | (refine Stp.go ?_) | (guard_target =~ WLA _ _ _ _ _ (⟨_, .call ⟨.value (.func 23), _, _⟩, _, _, _, _⟩ :: _) _ _; refine WLA.cq rfl rfl (hsm0) ?_) | (guard_target =~ WLA _ _ _ _ _ (⟨_, .call ⟨.value (.func 27), _, _⟩, _, _, _, _⟩ :: _) _ _; refine WLA.call rfl rfl (his) ?_; rintro ⟨⟩) | (guard_target =~ WLA _ _ _ _ _ (⟨_, .call ⟨.value (.func 27), _, _⟩, _, _, _, _⟩ :: _) _ _; refine WLA.call rfl rfl (his2) ?_; rintro ⟨⟩) | (guard_target =~ WLA _ _ _ _ _ (⟨_, .call ⟨.value (.func 29), _, _⟩, _, _, _, _⟩ :: _) _ _; refine WLA.call rfl rfl (hrr) ?_; rintro ⟨⟩) | (guard_target =~ WLA _ _ _ _ _ (⟨_, .call ⟨.value (.func 32), _, _⟩, _, _, _, _⟩ :: _) _ _; refine WLA.call rfl rfl (hoa) ?_; rintro ⟨⟩) | (guard_target =~ WLA _ _ _ _ _ (⟨_, .call ⟨.value (.func 24), _, _⟩, _, _, _, _⟩ :: _) _ _; refine WLA.call rfl rfl (live_tr22 _ _ _) ?_; rintro ⟨⟩) | (refine WPA.ifT ?_) | (refine WPA.ifF ?_) | (refine WLA.no rfl rfl ?_) | ((first | refine WPA.dec ?_ | ((fail_if_success (guard_target =~ WLA _ _ _ _ _ _ (put1 _ _ (.bool true)) _)); (fail_if_success (guard_target =~ WLA _ _ _ _ _ _ (put1 _ _ (.bool false)) _)); refine WLA.dec rfl rfl ?_) | refine WLA.pk ?_); first | refine .inl ⟨by first | assumption | omega | with_reducible rfl | (refine fun h => h ?_; first | assumption | with_reducible rfl) | (simp only [lenS] <;> omega) | decide, ?_⟩ | refine .inr ⟨by first | assumption | omega | with_reducible rfl | (refine fun h => h ?_; first | assumption | with_reducible rfl) | (simp only [lenS] <;> omega) | decide, ?_⟩) | ((first | refine WPA.ifBt ?_ ?_ | refine WPA.ifBnf ?_ ?_); assumption) | ((first | refine WPA.ifBnt ?_ ?_ | refine WPA.ifBf ?_ ?_); assumption) | ((first | refine WPA.ifs ?_ ?_ | refine WPA.ifB ?_ ?_) <;> intro hc) | ((fail_if_success (guard_target =~ WLA _ _ _ _ _ _ (put1 _ _ (.bool true)) _)); (fail_if_success (guard_target =~ WLA _ _ _ _ _ _ (put1 _ _ (.bool false)) _)); (first | refine WLA.both rfl rfl ?_ ?_ | refine WLA.bothB rfl rfl ?_ ?_) <;> intro hg))
      exact QQ.end_ rfl () rfl fun w h => h.to
  have o1 : ¬ o < 1 := by omega
  have o2 : ¬ 8 < o := by omega
  have hc2 := hc
  unfold CfOk at hc2
  have hc2' := hc'
  unfold CfOk at hc2'
  obtain ⟨B, rfl⟩ : ∃ B : Nat, b = (B : Int) := ⟨b.toNat, by omega⟩
  obtain ⟨F, rfl⟩ : ∃ F : Nat, f = (F : Int) := ⟨f.toNat, by omega⟩
  obtain ⟨B', rfl⟩ : ∃ B : Nat, b' = (B : Int) := ⟨b'.toNat, by omega⟩
  obtain ⟨F', rfl⟩ : ∃ F : Nat, f' = (F : Int) := ⟨f'.toNat, by omega⟩
  obtain ⟨O, rfl⟩ : ∃ O : Nat, o = (O : Int) := ⟨o.toNat, by omega⟩
  have hor := fun {L : List HP} => Orders_tr (w0 := w0) (I := I) (L := L) (s := s) hg hc ho (by omega) hl1 (by omega) hk
  rw [Int.toNat_natCast] at hor
  repeat' ((fail_if_success (guard_target =~ WPA _ _ _ (.region 4 _ _) _ _ _)); first | ((rw [hbt])) | ((first | refine WLA.m rfl rfl ?_ ?_ | refine WLA.st rfl ?_ ?_ | refine WLA.x rfl rfl ?_ (fun x => ?_) | refine WLA.x0 rfl ?_ (fun x => ?_)); first | exact trivial | exact rfl | assumption | omega | (refine ⟨?_, ?_⟩ <;> omega) | (simp only [Room, lenS]; omega) | decide | skip) | (refine Stp.go ?_) | (guard_target =~ WLA _ _ _ _ _ (⟨_, .call ⟨.value (.func 23), _, _⟩, _, _, _, _⟩ :: _) _ _; refine WLA.cq rfl rfl (hsm0) ?_) | (guard_target =~ WLA _ _ _ _ _ (⟨_, .call ⟨.value (.func 27), _, _⟩, _, _, _, _⟩ :: _) _ _; refine WLA.call rfl rfl (his) ?_; rintro ⟨⟩) | (guard_target =~ WLA _ _ _ _ _ (⟨_, .call ⟨.value (.func 27), _, _⟩, _, _, _, _⟩ :: _) _ _; refine WLA.call rfl rfl (his2) ?_; rintro ⟨⟩) | (guard_target =~ WLA _ _ _ _ _ (⟨_, .call ⟨.value (.func 29), _, _⟩, _, _, _, _⟩ :: _) _ _; refine WLA.call rfl rfl (hrr) ?_; rintro ⟨⟩) | (guard_target =~ WLA _ _ _ _ _ (⟨_, .call ⟨.value (.func 32), _, _⟩, _, _, _, _⟩ :: _) _ _; refine WLA.call rfl rfl (hor) ?_; rintro ⟨i1, r1, v1, q1, s1, J1⟩; dsimp only; refine WLA.pure fun hc1 => ?_) | (refine WPA.ifT ?_) | (refine WPA.ifF ?_) | (refine WLA.no rfl rfl ?_) | ((first | refine WPA.dec ?_ | ((fail_if_success (guard_target =~ WLA _ _ _ _ _ _ (put1 _ _ (.bool true)) _)); (fail_if_success (guard_target =~ WLA _ _ _ _ _ _ (put1 _ _ (.bool false)) _)); refine WLA.dec rfl rfl ?_) | refine WLA.pk ?_); first | refine .inl ⟨by first | assumption | omega | with_reducible rfl | (refine fun h => h ?_; first | assumption | with_reducible rfl) | (simp only [lenS] <;> omega) | decide, ?_⟩ | refine .inr ⟨by first | assumption | omega | with_reducible rfl | (refine fun h => h ?_; first | assumption | with_reducible rfl) | (simp only [lenS] <;> omega) | decide, ?_⟩) | ((first | refine WPA.ifBt ?_ ?_ | refine WPA.ifBnf ?_ ?_); assumption) | ((first | refine WPA.ifBnt ?_ ?_ | refine WPA.ifBf ?_ ?_); assumption) | ((first | refine WPA.ifs ?_ ?_ | refine WPA.ifB ?_ ?_) <;> intro hc) | ((fail_if_success (guard_target =~ WLA _ _ _ _ _ _ (put1 _ _ (.bool true)) _)); (fail_if_success (guard_target =~ WLA _ _ _ _ _ _ (put1 _ _ (.bool false)) _)); (first | refine WLA.both rfl rfl ?_ ?_ | refine WLA.bothB rfl rfl ?_ ?_) <;> intro hg))
  obtain ⟨hJ1, hO1, hS1⟩ := hc1
  have hor2 := fun {L : List HP} => Orders_tr (w0 := w0) (I := J1) (L := L) (s := s) (hsl := hsl.sub) hg.sub hc' ho (by omega) hl1 (by omega) hk
  rw [Int.toNat_natCast] at hor2
  repeat' ((fail_if_success (guard_target =~ WPA _ _ _ (.region 5 _ _) _ _ _)); first | ((first | refine WLA.m rfl rfl ?_ ?_ | refine WLA.st rfl ?_ ?_ | refine WLA.x rfl rfl ?_ (fun x => ?_) | refine WLA.x0 rfl ?_ (fun x => ?_)); first | exact trivial | exact rfl | assumption | omega | (refine ⟨?_, ?_⟩ <;> omega) | (simp only [Room, lenS]; omega) | decide | skip) | (refine Stp.go ?_) | (guard_target =~ WLA _ _ _ _ _ (⟨_, .call ⟨.value (.func 32), _, _⟩, _, _, _, _⟩ :: _) _ _; refine WLA.call rfl rfl (hor2) ?_; rintro ⟨i2, r2, v2, q2, s2, J2⟩; dsimp only; refine WLA.pure fun hc3 => ?_) | (refine WPA.ifT ?_) | (refine WPA.ifF ?_) | ((first | refine WPA.dec ?_); first | refine .inl ⟨by first | assumption | omega | with_reducible rfl | (refine fun h => h ?_; first | assumption | with_reducible rfl) | (simp only [lenS] <;> omega) | decide, ?_⟩ | refine .inr ⟨by first | assumption | omega | with_reducible rfl | (refine fun h => h ?_; first | assumption | with_reducible rfl) | (simp only [lenS] <;> omega) | decide, ?_⟩) | ((first | refine WPA.ifBt ?_ ?_ | refine WPA.ifBnf ?_ ?_); assumption) | ((first | refine WPA.ifBnt ?_ ?_ | refine WPA.ifBf ?_ ?_); assumption) | ((first | refine WPA.ifs ?_ ?_ | refine WPA.ifB ?_ ?_) <;> intro hc))
  obtain ⟨hJ2, hO2, hS2⟩ := hc3
  have hJ2' : SubI J2 I := ⟨fun z hz => hJ2.out (hJ1.out hz)⟩
  have hro := fun {L : List HP} => rOrders_tr (w0 := w0) (I := J2) (L := L) (s := s) (O := O) (hsl := hsl.sub) hg.sub (by omega) (by omega) hl1 (by omega) hk
  repeat' ((fail_if_success (guard_target =~ WPA _ _ _ (.region 8 _ _) _ _ _)); first | ((first | refine WLA.m rfl rfl ?_ ?_ | refine WLA.st rfl ?_ ?_ | refine WLA.x rfl rfl ?_ (fun x => ?_) | refine WLA.x0 rfl ?_ (fun x => ?_)); first | exact trivial | exact rfl | assumption | omega | (refine ⟨?_, ?_⟩ <;> omega) | (simp only [Room, lenS]; omega) | decide | skip) | (refine Stp.go ?_) | (guard_target =~ WLA _ _ _ _ _ (⟨_, .call ⟨.value (.func 33), _, _⟩, _, _, _, _⟩ :: _) _ _; refine WLA.call rfl rfl (hro) ?_; rintro ⟨i3, r3, v3, J3⟩; dsimp only; refine WLA.pure fun hc4 => ?_) | (refine WPA.ifT ?_) | (refine WPA.ifF ?_) | (refine WLA.no rfl rfl ?_) | ((first | refine WPA.dec ?_ | ((fail_if_success (guard_target =~ WLA _ _ _ _ _ _ (put1 _ _ (.bool true)) _)); (fail_if_success (guard_target =~ WLA _ _ _ _ _ _ (put1 _ _ (.bool false)) _)); refine WLA.dec rfl rfl ?_) | refine WLA.pk ?_); first | refine .inl ⟨by first | assumption | omega | with_reducible rfl | (refine fun h => h ?_; first | assumption | with_reducible rfl) | (simp only [lenS] <;> omega) | decide, ?_⟩ | refine .inr ⟨by first | assumption | omega | with_reducible rfl | (refine fun h => h ?_; first | assumption | with_reducible rfl) | (simp only [lenS] <;> omega) | decide, ?_⟩) | ((first | refine WPA.ifBt ?_ ?_ | refine WPA.ifBnf ?_ ?_); assumption) | ((first | refine WPA.ifBnt ?_ ?_ | refine WPA.ifBf ?_ ?_); assumption) | ((first | refine WPA.ifs ?_ ?_ | refine WPA.ifB ?_ ?_) <;> intro hc) | ((fail_if_success (guard_target =~ WLA _ _ _ _ _ _ (put1 _ _ (.bool true)) _)); (fail_if_success (guard_target =~ WLA _ _ _ _ _ _ (put1 _ _ (.bool false)) _)); (first | refine WLA.both rfl rfl ?_ ?_ | refine WLA.bothB rfl rfl ?_ ?_) <;> intro hg))
  obtain ⟨hJ3, hO3⟩ := hc4
  have hJ3' : SubI J3 I := ⟨fun z hz => hJ3.out (hJ2'.out hz)⟩
  have hJ31 : SubI J3 J1 := ⟨fun z hz => hJ3.out (hJ2.out hz)⟩
  replace hO1 : OrdI J3 gs O v1 := hO1.sub
  replace hO2 : OrdI J3 gs O v2 := hO2.sub
  have e1 : (v1.length : Int) = O := by have := hO1.1; omega
  have e2 : (v2.length : Int) = O := by have := hO2.1; omega
  have e3 : (v3.length : Int) = O := by have := hO3.1; omega
  have e4 : (s1.length : Int) = O := by have := hS1.1; omega
  have e5 : (s2.length : Int) = O := by have := hS2.1; omega
  revert x; intro X5
  repeat' (first | ((first | refine WLA.m rfl rfl ?_ ?_ | refine WLA.st rfl ?_ ?_ | refine WLA.x rfl rfl ?_ (fun x => ?_) | refine WLA.x0 rfl ?_ (fun x => ?_)); first | exact trivial | exact rfl | assumption | omega | (refine ⟨?_, ?_⟩ <;> omega) | (simp only [Room, lenS]; omega) | decide | skip) | (refine Stp.go ?_) | (refine WPA.ifT ?_) | (refine WPA.ifF ?_) | (refine WLA.no rfl rfl ?_) | ((first | refine WPA.dec ?_ | ((fail_if_success (guard_target =~ WLA _ _ _ _ _ _ (put1 _ _ (.bool true)) _)); (fail_if_success (guard_target =~ WLA _ _ _ _ _ _ (put1 _ _ (.bool false)) _)); refine WLA.dec rfl rfl ?_) | refine WLA.pk ?_); first | refine .inl ⟨by first | assumption | omega | with_reducible rfl | (refine fun h => h ?_; first | assumption | with_reducible rfl) | (simp only [lenS] <;> omega) | decide, ?_⟩ | refine .inr ⟨by first | assumption | omega | with_reducible rfl | (refine fun h => h ?_; first | assumption | with_reducible rfl) | (simp only [lenS] <;> omega) | decide, ?_⟩) | ((first | refine WPA.ifBt ?_ ?_ | refine WPA.ifBnf ?_ ?_); assumption) | ((first | refine WPA.ifBnt ?_ ?_ | refine WPA.ifBf ?_ ?_); assumption) | ((first | refine WPA.ifs ?_ ?_ | refine WPA.ifB ?_ ?_) <;> intro hc) | ((fail_if_success (guard_target =~ WLA _ _ _ _ _ _ (put1 _ _ (.bool true)) _)); (fail_if_success (guard_target =~ WLA _ _ _ _ _ _ (put1 _ _ (.bool false)) _)); (first | refine WLA.both rfl rfl ?_ ?_ | refine WLA.bothB rfl rfl ?_ ?_) <;> intro hg))
  refine WPA.loopS (σ := Nat) (fun i => [(1, .int .i64 O), (7, .slice r1.a r1.n r1.cap), (8, .slice q1.a q1.n q1.cap), (10, .slice r2.a r2.n r2.cap), (11, .slice q2.a q2.n q2.cap), (13, .slice r3.a r3.n r3.cap), (14, .int .i64 i)])
    (fun i => i ≤ O) (fun _ => SL w0 J3 [OwnS 27 r3 v3, OwnS 27 r2 v2, OwnS 66 q2 s2, OwnS 27 r1 v1, OwnS 66 q1 s1]) (fun i => O - i) 0 ⟨rfl, rfl, rfl, rfl, rfl, rfl, rfl, trivial⟩ (Nat.zero_le _) (fun w h => h.to) ?_
  intro i ρ hi
  by_cases hlt : i < O
  · have hlt' : (i : Int) < O := by omega
    have hir1 : (0 : Int) ≤ i ∧ (i : Int) < v1.length := by omega
    have hir2 : (0 : Int) ≤ i ∧ (i : Int) < v2.length := by omega
    have hir3 : (0 : Int) ≤ i ∧ (i : Int) < v3.length := by omega
    have hir4 : (0 : Int) ≤ i ∧ (i : Int) < s1.length := by omega
    have hir5 : (0 : Int) ≤ i ∧ (i : Int) < s2.length := by omega
    have k1 := hO1.2 i hlt
    have k2 := hO2.2 i hlt
    have k3 := hO3.2 i hlt
    have k4 := hS1.2 i hlt
    have k5 := hS2.2 i hlt
    have hsum := each_sum (o := (i : Int) + 1) gs
    have hGG : GoodG ((i : Int) + 1) (eachL gs ((i : Int) + 1)) := eachL_good (by omega) hk
    generalize eachL gs ((i : Int) + 1) = all at k1 k2 k3 k4 k5 hsum hGG
    have hml : (mrg (all.map one)).length ≤ 300 := by have := mrg_len (all.map one); rw [List.length_map] at this; omega
    have hm9 : ∀ m ∈ mrg (all.map one), m.1.length ≤ 1000000000 := fun m hm => by
      obtain ⟨y, hy, e⟩ := mrg_key hm
      obtain ⟨g, hg', rfl⟩ := List.mem_map.1 hy
      have := (hGG g hg').1
      rw [e]; show g.length ≤ _; omega
    obtain ⟨a1, h1⟩ : ∃ q, at_ v1 (i : Int) = q := ⟨_, rfl⟩
    obtain ⟨a2, h2⟩ : ∃ q, at_ v2 (i : Int) = q := ⟨_, rfl⟩
    obtain ⟨a3, h3⟩ : ∃ q, at_ v3 (i : Int) = q := ⟨_, rfl⟩
    rw [h1] at k1
    rw [h2] at k2
    rw [h3] at k3
    have hs1 := fun {L : List HP} => Same_trI (L := L) (w0 := w0) k1 k3 hm9 (by omega)
    have hs2 := fun {L : List HP} => Same_trI (L := L) (w0 := w0) k2 k3 hm9 (by omega)
    rw [decide_eq_true rfl] at hs1 hs2
    have k6 : (at_ s1 (i : Int)).1 = (at_ s2 (i : Int)).1 := by rw [k4, k5]
    repeat' (first | ((rw [h1])) | ((rw [h2])) | ((rw [h3])) | ((rw [hbt])) | ((first | refine WLA.m rfl rfl ?_ ?_ | refine WDQ.m rfl rfl ?_ ?_ | refine WLA.st rfl ?_ ?_ | refine WLA.x rfl rfl ?_ (fun x => ?_) | refine WLA.x0 rfl ?_ (fun x => ?_)); first | exact trivial | exact rfl | assumption | omega | (refine ⟨?_, ?_⟩ <;> omega) | (simp only [Room, lenS]; omega) | decide | skip) | (refine Stp.go ?_) | (guard_target =~ WLA _ _ _ _ _ (⟨_, .call ⟨.value (.func 19), _, _⟩, _, _, _, _⟩ :: _) _ _; refine WLA.cq rfl rfl (hs1) ?_) | (guard_target =~ WLA _ _ _ _ _ (⟨_, .call ⟨.value (.func 19), _, _⟩, _, _, _, _⟩ :: _) _ _; refine WLA.cq rfl rfl (hs2) ?_) | (refine WPA.ifT ?_) | (refine WPA.ifF ?_) | (refine WLA.no rfl rfl ?_) | (refine WDQ.no rfl rfl ?_) | ((first | refine WPA.dec ?_ | ((fail_if_success (guard_target =~ WLA _ _ _ _ _ _ (put1 _ _ (.bool true)) _)); (fail_if_success (guard_target =~ WLA _ _ _ _ _ _ (put1 _ _ (.bool false)) _)); refine WLA.dec rfl rfl ?_) | refine WLA.pk ?_ | refine WDQ.dec rfl rfl ?_); first | refine .inl ⟨by first | assumption | omega | with_reducible rfl | (refine fun h => h ?_; first | assumption | with_reducible rfl) | (simp only [lenS] <;> omega) | decide, ?_⟩ | refine .inr ⟨by first | assumption | omega | with_reducible rfl | (refine fun h => h ?_; first | assumption | with_reducible rfl) | (simp only [lenS] <;> omega) | decide, ?_⟩) | ((first | refine WPA.ifBt ?_ ?_ | refine WPA.ifBnf ?_ ?_); assumption) | ((first | refine WPA.ifBnt ?_ ?_ | refine WPA.ifBf ?_ ?_); assumption) | ((first | refine WPA.ifs ?_ ?_ | refine WPA.ifB ?_ ?_) <;> intro hc) | ((fail_if_success (guard_target =~ WLA _ _ _ _ _ _ (put1 _ _ (.bool true)) _)); (fail_if_success (guard_target =~ WLA _ _ _ _ _ _ (put1 _ _ (.bool false)) _)); (first | refine WLA.both rfl rfl ?_ ?_ | refine WLA.bothB rfl rfl ?_ ?_) <;> intro hg) | (guard_target =~ WPA _ _ _ (.region 13 _ true) _ _ _; refine WPA.drawT 33 (.q 0 (.q 1 (.q 2 (.q 3 (.q 4 (.q 5 (.q 6 (.q 7 (.q 8 (.q 9 (.q 10 (.q 11 (.q 12 (.q 13 (.q 14 (.q 15 (.q 16 (.q 17 (.q 18 (.q 19 (.q 20 (.q 21 (.q 22 (.q 23 (.q 24 (.q 25 (.q 26 (.q 27 (.q 28 (.q 29 (.q 30 (.q 31 (.q 32 .fin))))))))))))))))))))))))))))))))) mixed ?_ ?_; kernel_rfl) | (refine WDA.finish (tl := [⟨_, _, _, _, _, _⟩, ⟨_, _, _, _, _, _⟩]) rfl ?_) | (refine WDQ.see rfl ?_) | (guard_target =~ WDQ _ _ _ _ _ _ _ ⟨_, .call ⟨.value (.func 19), _, _⟩, _, _, _, _⟩ _ _ _; refine WDQ.cq rfl rfl (hs1) ?_) | (guard_target =~ WDQ _ _ _ _ _ _ _ ⟨_, .call ⟨.value (.func 19), _, _⟩, _, _, _, _⟩ _ _ _; refine WDQ.cq rfl rfl (hs2) ?_) | ((first | refine WDQ.both rfl rfl ?_ ?_) <;> intro hg))
    exact QQ.loopS (i + 1) ⟨rfl, rfl, rfl, rfl, rfl, rfl, rfl, trivial⟩ hlt (by omega) (fun w h => h.to)
  · have hlt' : ¬ (i : Int) < O := by omega
    repeat' (first | ((first | refine WLA.m rfl rfl ?_ ?_ | refine WLA.st rfl ?_ ?_ | refine WLA.x rfl rfl ?_ (fun x => ?_) | refine WLA.x0 rfl ?_ (fun x => ?_)); first | exact trivial | exact rfl | assumption | omega | (refine ⟨?_, ?_⟩ <;> omega) | (simp only [Room, lenS]; omega) | decide | skip) | (refine Stp.go ?_) | (guard_target =~ WLA _ _ _ _ _ (⟨_, .call ⟨.value (.func 24), _, _⟩, _, _, _, _⟩ :: _) _ _; refine WLA.call rfl rfl (live_tr22 _ _ _) ?_; rintro ⟨⟩) | (refine WPA.ifT ?_) | (refine WPA.ifF ?_) | ((first | refine WPA.dec ?_); first | refine .inl ⟨by first | assumption | omega | with_reducible rfl | (refine fun h => h ?_; first | assumption | with_reducible rfl) | (simp only [lenS] <;> omega) | decide, ?_⟩ | refine .inr ⟨by first | assumption | omega | with_reducible rfl | (refine fun h => h ?_; first | assumption | with_reducible rfl) | (simp only [lenS] <;> omega) | decide, ?_⟩) | ((first | refine WPA.ifBt ?_ ?_ | refine WPA.ifBnf ?_ ?_); assumption) | ((first | refine WPA.ifBnt ?_ ?_ | refine WPA.ifBf ?_ ?_); assumption) | ((first | refine WPA.ifs ?_ ?_ | refine WPA.ifB ?_ ?_) <;> intro hc))
    exact QQ.end_ rfl () rfl fun w h => (SL.to (L' := []) h).sub hJ3'.out
theorem TallyFree_law (W : World) (s : SV) (h1 : gSl (gSl gInt 8) 24 W s) (o : Int) (h2 : gInt W o) (x : (Int × Int × Int) × (Int × Int × Int)) (h3 : gPair (gPair gInt (gPair gInt gInt)) (gPair gInt (gPair gInt gInt)) W x) : Calls Tryz.prog 7 #[.slice s.a s.n s.cap, .int .i64 o, .agg #[.int .i64 x.1.1, .int .i64 x.1.2.1, .int .i64 x.1.2.2, .int .i64 x.2.1, .int .i64 x.2.2.1, .int .i64 x.2.2.2]] W fun e w' => e = .returned (.bool true) ∧ Below W.heap.size W w' := by
  obtain ⟨hs, h1, h2', _⟩ := h1
  haveI := SlI.all h1
  refine Calls.below (TallyFree_tr (gs := hs.map (Go.Fw.rd Int (allB W))) ⟨by simp, fun i hi => ?_⟩)
  have hm : hs[i] ∈ hs := List.getElem_mem hi
  obtain ⟨xs, m1, m2, m3⟩ := h2' _ hm
  have hr := (SlI.all m1).rd
  have e : (hs.map (Go.Fw.rd Int (allB W))).getD i [] = Go.Fw.rd Int (allB W) hs[i] := by simp [hi]
  rw [e, at_nat hs i hi]
  exact hr
end
end Go.Proofs.YtamnobjdgjbmbaaGreat
