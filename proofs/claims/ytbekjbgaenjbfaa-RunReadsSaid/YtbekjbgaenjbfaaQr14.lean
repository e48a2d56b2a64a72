/- Texts that RunReads_law leans on, part 14. Conditions: none. -/
import Derived.Test.YtbekjbgaenjbfaaQr13
namespace Go.Proofs.Ytbekjbgaenjbfaa
open Go Go.Fw Go.RowKit
set_option linter.unusedVariables false
set_option linter.unusedSimpArgs false
set_option maxRecDepth 100000
set_option maxHeartbeats 16000000
set_option synthInstance.maxHeartbeats 200000
set_option synthInstance.maxSize 100000
attribute [local irreducible] WPA WLA WDA WDQ WDE QQ seqQ blockQ loopQ fnQ OpP OpT Tr TrP SL SLd OwnS LitS Bk BkE Ob
attribute [local irreducible] vS keyS RowH
theorem parL_take {k : ByteArray} {j : Nat} (h : j < k.size / 3) : (parL k).take (j + 1) = (parL k).take j ++ [par3 k j] := by
  unfold parL
  rw [List.take_add_one, List.getElem?_map, List.getElem?_range h]; rfl
theorem rdOne_u {o : Nat} {u u' : ByteArray} {y : Ct} (h : rdOne o u = some (y, u')) : ∃ v m : Nat, o * 3 ≤ u.size ∧ uptR (u.extract (o * 3) u.size) = some (v, m) ∧ y = (parL (u.extract 0 (o * 3)), (v : Int)) ∧ u' = (u.extract (o * 3) u.size).extract m (u.extract (o * 3) u.size).size := by
  unfold rdOne at h
  rw [Nat.mul_comm 3 o] at h
  by_cases h1 : u.size < o * 3
  · rw [if_pos h1] at h; cases h
  rw [if_neg h1] at h
  obtain ⟨⟨v, m⟩, h2, h3⟩ := Option.map_eq_some_iff.1 h
  have h5 := Prod.mk.inj h3
  exact ⟨v, m, by omega, h2, h5.1.symm, h5.2.symm⟩
theorem rdOne_none {o : Nat} {u : ByteArray} (h : rdOne o u = none) : u.size < o * 3 ∨ o * 3 ≤ u.size ∧ uptR (u.extract (o * 3) u.size) = none := by
  unfold rdOne at h
  rw [Nat.mul_comm 3 o] at h
  by_cases h1 : u.size < o * 3
  · exact .inl h1
  rw [if_neg h1] at h
  exact .inr ⟨by omega, Option.map_eq_none_iff.1 h⟩
def PrsH (res : Option (List Ct)) (x : SV) : HP := match res with
  | none => fun R => R = []
  | some l => CtsH x l
theorem PrsH.none {x : SV} {L : List HP} : Ent L (PrsH none x :: L) := Ent.intro1 rfl
theorem PrsH.some {x : SV} {l : List Ct} {L : List HP} : Ent (CtsH x l :: L) (PrsH (some l) x :: L) := Ent.refl
theorem RdS.row {t : TypeId} {ss : List SV} {ts : List (List Int)} {I : Foot} {L : List HP} {i : Nat} (hi : i < ss.length) (hj : i < ts.length) : RdS I (RowH t ss ts :: L) (ss.getD i SV.nil) Int inferInstance (ts.getD i []) := ⟨fun w0 w hw => RowH.rdW hi hj hw⟩
structure PS where
  ms : List Ct
  qs : List Pe
  u : ByteArray
  x : SV
section
variable {L L' : List HP} {w0 : World} {I : Foot}
theorem Parse_tr {o n : Nat} {T : ByteArray} {res : Option (List Ct)} (ho : 1 ≤ o ∧ o ≤ 8) (hn : n ≤ 1000000) (hT : T.size ≤ 1000000000) (hr : readS o n T = res) :
    Tr Try.prog 15 #[.int .i64 o, .int .i64 n, .string T] (SL w0 I L) (fun x : SV => .tuple #[.slice x.a x.n x.cap, .bool res.isSome]) (fun x => SL w0 I (PrsH res x :: L)) := by
  refine Tr.intro Try.func15 rfl Try.ntmps15 rfl ?_
  repeat' (first | ((first | refine WLA.m rfl rfl ?_ ?_ | refine WLA.st rfl ?_ ?_ | refine WLA.x rfl rfl ?_ (fun x => ?_) | refine WLA.x0 rfl ?_ (fun x => ?_)); first | exact trivial | exact rfl | assumption | omega | (refine ⟨?_, ?_⟩ <;> omega) | (simp only [Room, List.length_set, List.length_append, List.length_cons, List.length_nil, List.length_replicate]; omega) | decide | skip) | (refine Stp.go ?_) | (refine WPA.ifT ?_) | (refine WPA.ifF ?_) | ((first | refine WPA.dec ?_); first | refine .inl ⟨by first | assumption | omega | with_reducible rfl | (refine fun h => h ?_; first | assumption | with_reducible rfl) | (simp only [List.length_append, List.length_cons, List.length_nil, List.length_set] <;> omega) | decide, ?_⟩ | refine .inr ⟨by first | assumption | omega | with_reducible rfl | (refine fun h => h ?_; first | assumption | with_reducible rfl) | (simp only [List.length_append, List.length_cons, List.length_nil, List.length_set] <;> omega) | decide, ?_⟩) | ((first | refine WPA.ifBt ?_ ?_ | refine WPA.ifBnf ?_ ?_); assumption) | ((first | refine WPA.ifBnt ?_ ?_ | refine WPA.ifBf ?_ ?_); assumption) | ((first | refine WPA.ifs ?_ ?_ | refine WPA.ifB ?_ ?_) <;> intro hc))
  revert x; intro R
  refine WPA.ent (L' := OwnS 67 SV.nil ([] : List Pe) :: RowH 3 [] ([] : List (List Int)) :: Bk R 91 [.string T, .int .i64 0] :: L) (Ent.ownNil (RowH.nil (α := Int) (e := 3))) ?_
  refine WPA.loopS (σ := PS) (fun y => [(0, .int .i64 o), (1, .int .i64 n), (2, .string T), (8, .pointer (some ⟨R, 0, none⟩)), (9, .slice y.x.a y.x.n y.x.cap), (10, .int .i64 y.ms.length)])
    (fun y => (y.qs.map Prod.snd = y.ms.map Prod.snd ∧ y.ms.length ≤ n ∧ y.u.size ≤ T.size ∧ ∀ m ∈ y.ms, m.1.length ≤ 1000000) ∧ rdN o T y.ms.length = some (y.ms, y.u))
    (fun y => SL w0 I (OwnS 67 y.x y.qs :: RowH 3 (y.qs.map Prod.fst) (y.ms.map Prod.fst) :: Bk R 91 [.string y.u, .int .i64 0] :: L)) (fun y => n - y.ms.length) ⟨[], [], T, SV.nil⟩ ⟨rfl, rfl, rfl, rfl, rfl, rfl, trivial⟩ ⟨⟨rfl, Nat.zero_le _, Nat.le_refl _, fun m h => by cases h⟩, rfl⟩ (fun w h => (h.to : SL w0 I (OwnS 67 SV.nil ([] : List Pe) :: RowH 3 [] ([] : List (List Int)) :: Bk R 91 [.string T, .int .i64 0] :: L) w)) ?_
  rintro ⟨ms, qs, u, x⟩ ρ ⟨⟨hq, hin, hus, hml⟩, hrd⟩
  dsimp only at hq hin hus hml hrd ⊢
  have hql : qs.length = ms.length := by have := congrArg List.length hq; simpa using this
  by_cases hlt : ms.length < n
  · have hlt' : (ms.length : Int) < n := by omega
    have hnx : rdN o T (ms.length + 1) = (rdOne o u).map fun r => (ms ++ [r.1], r.2) := by rw [rdN, hrd]; rfl
    have hcast : 3 * (o : Int) = ((o * 3 : Nat) : Int) := by omega
    cases hone : rdOne o u with
    | none =>
      rw [hone] at hnx
      have hres : res = none := by
        rw [← hr]; unfold readS
        rw [Int.toNat_natCast, Int.toNat_natCast, rdN_no hnx n hlt]; rfl
      subst hres
      rcases rdOne_none hone with h1 | ⟨h1, h2⟩
      · skip
        repeat' (first | ((rw [hcast])) | ((first | refine WLA.m rfl rfl ?_ ?_ | refine WLA.st rfl ?_ ?_ | refine WLA.x rfl rfl ?_ (fun x => ?_) | refine WLA.x0 rfl ?_ (fun x => ?_)); first | exact trivial | exact rfl | assumption | omega | (refine ⟨?_, ?_⟩ <;> omega) | (simp only [Room, List.length_set, List.length_append, List.length_cons, List.length_nil, List.length_replicate]; omega) | decide | skip) | (refine Stp.go ?_) | (guard_target =~ WLA _ _ _ _ _ (⟨_, .call ⟨.value (.func 38), _, _⟩, _, _, _, _⟩ :: _) _ _; first | (refine WLA.call rfl rfl (RRaw_short (by omega)) ?_; rintro ⟨⟩) | (refine WLA.call0 rfl (RRaw_short (by omega)) ?_; rintro ⟨⟩)) | (guard_target =~ WLA _ _ _ _ _ (⟨_, .call ⟨.value (.func 39), _, _⟩, _, _, _, _⟩ :: _) _ _; first | (refine WLA.call rfl rfl (RUpto_no (e := 2) (by decide)) ?_; rintro ⟨⟩) | (refine WLA.call0 rfl (RUpto_no (e := 2) (by decide)) ?_; rintro ⟨⟩)) | (refine WPA.ifT ?_) | (refine WPA.ifF ?_) | ((first | refine WPA.dec ?_); first | refine .inl ⟨by first | assumption | omega | with_reducible rfl | (refine fun h => h ?_; first | assumption | with_reducible rfl) | (simp only [List.length_append, List.length_cons, List.length_nil, List.length_set] <;> omega) | decide, ?_⟩ | refine .inr ⟨by first | assumption | omega | with_reducible rfl | (refine fun h => h ?_; first | assumption | with_reducible rfl) | (simp only [List.length_append, List.length_cons, List.length_nil, List.length_set] <;> omega) | decide, ?_⟩) | ((first | refine WPA.ifBt ?_ ?_ | refine WPA.ifBnf ?_ ?_); assumption) | ((first | refine WPA.ifBnt ?_ ?_ | refine WPA.ifBf ?_ ?_); assumption) | ((first | refine WPA.ifs ?_ ?_ | refine WPA.ifB ?_ ?_) <;> intro hc))
        exact QQ.end_ rfl SV.nil rfl fun w h => PrsH.none.sl h.to
      · have hne := uptE_ne h2
        repeat' (first | ((rw [hcast])) | ((first | refine WLA.m rfl rfl ?_ ?_ | refine WLA.st rfl ?_ ?_ | refine WLA.x rfl rfl ?_ (fun x => ?_) | refine WLA.x0 rfl ?_ (fun x => ?_)); first | exact trivial | exact rfl | assumption | omega | (refine ⟨?_, ?_⟩ <;> omega) | (simp only [Room, List.length_set, List.length_append, List.length_cons, List.length_nil, List.length_replicate]; omega) | decide | skip) | (refine Stp.go ?_) | (guard_target =~ WLA _ _ _ _ _ (⟨_, .call ⟨.value (.func 38), _, _⟩, _, _, _, _⟩ :: _) _ _; first | (refine WLA.call rfl rfl (RRaw_tr (n := o * 3) h1) ?_; rintro ⟨⟩) | (refine WLA.call0 rfl (RRaw_tr (n := o * 3) h1) ?_; rintro ⟨⟩)) | (guard_target =~ WLA _ _ _ _ _ (⟨_, .call ⟨.value (.func 39), _, _⟩, _, _, _, _⟩ :: _) _ _; first | (refine WLA.call rfl rfl (RUpto_bad h2) ?_; rintro ⟨⟩) | (refine WLA.call0 rfl (RUpto_bad h2) ?_; rintro ⟨⟩)) | (refine WPA.ifT ?_) | (refine WPA.ifF ?_) | ((first | refine WPA.dec ?_); first | refine .inl ⟨by first | assumption | omega | with_reducible rfl | (refine fun h => h ?_; first | assumption | with_reducible rfl) | (simp only [List.length_append, List.length_cons, List.length_nil, List.length_set] <;> omega) | decide, ?_⟩ | refine .inr ⟨by first | assumption | omega | with_reducible rfl | (refine fun h => h ?_; first | assumption | with_reducible rfl) | (simp only [List.length_append, List.length_cons, List.length_nil, List.length_set] <;> omega) | decide, ?_⟩) | ((first | refine WPA.ifBt ?_ ?_ | refine WPA.ifBnf ?_ ?_); assumption) | ((first | refine WPA.ifBnt ?_ ?_ | refine WPA.ifBf ?_ ?_); assumption) | ((first | refine WPA.ifs ?_ ?_ | refine WPA.ifB ?_ ?_) <;> intro hc))
        exact QQ.end_ rfl SV.nil rfl fun w h => PrsH.none.sl h.to
    | some yu =>
      obtain ⟨y, u'⟩ := yu
      rw [hone] at hnx
      have hnx2 : rdN o T (ms.length + 1) = some (ms ++ [y], u') := hnx
      obtain ⟨v, m, h1, h2, rfl, hu'⟩ := rdOne_u hone
      have hks : (u.extract 0 (o * 3)).size = o * 3 := by rw [ByteArray.size_extract]; omega
      generalize hkk : u.extract 0 (o * 3) = k at *
      repeat' (first | ((rw [hcast])) | ((rw [hkk])) | ((first | refine WLA.m rfl rfl ?_ ?_ | refine WLA.st rfl ?_ ?_ | refine WLA.x rfl rfl ?_ (fun x => ?_) | refine WLA.x0 rfl ?_ (fun x => ?_)); first | exact trivial | exact rfl | assumption | omega | (refine ⟨?_, ?_⟩ <;> omega) | (simp only [Room, List.length_set, List.length_append, List.length_cons, List.length_nil, List.length_replicate]; omega) | decide | skip) | (refine Stp.go ?_) | (guard_target =~ WLA _ _ _ _ _ (⟨_, .call ⟨.value (.func 38), _, _⟩, _, _, _, _⟩ :: _) _ _; first | (refine WLA.call rfl rfl (RRaw_tr (n := o * 3) h1) ?_; rintro ⟨⟩) | (refine WLA.call0 rfl (RRaw_tr (n := o * 3) h1) ?_; rintro ⟨⟩)) | (guard_target =~ WLA _ _ _ _ _ (⟨_, .call ⟨.value (.func 39), _, _⟩, _, _, _, _⟩ :: _) _ _; first | (refine WLA.call rfl rfl (RUpto_tr h2) ?_; rintro ⟨⟩) | (refine WLA.call0 rfl (RUpto_tr h2) ?_; rintro ⟨⟩)) | (refine WPA.ifT ?_) | (refine WPA.ifF ?_) | ((first | refine WPA.dec ?_); first | refine .inl ⟨by first | assumption | omega | with_reducible rfl | (refine fun h => h ?_; first | assumption | with_reducible rfl) | (simp only [List.length_append, List.length_cons, List.length_nil, List.length_set] <;> omega) | decide, ?_⟩ | refine .inr ⟨by first | assumption | omega | with_reducible rfl | (refine fun h => h ?_; first | assumption | with_reducible rfl) | (simp only [List.length_append, List.length_cons, List.length_nil, List.length_set] <;> omega) | decide, ?_⟩) | ((first | refine WPA.ifBt ?_ ?_ | refine WPA.ifBnf ?_ ?_); assumption) | ((first | refine WPA.ifBnt ?_ ?_ | refine WPA.ifBf ?_ ?_); assumption) | ((first | refine WPA.ifs ?_ ?_ | refine WPA.ifB ?_ ?_) <;> intro hc))
      revert x; intro C
      rw [← hu']
      have hpl := parL_len k
      refine WPA.ent (L' := Bk C 67 [.slice SV.nil.a SV.nil.n SV.nil.cap, .int .i64 v] :: OwnS 3 SV.nil ((parL k).take 0) :: Bk R 91 [.string u', .int .i64 0] :: OwnS 67 x qs :: RowH 3 (qs.map Prod.fst) (ms.map Prod.fst) :: L) (Ent.cons (Ent.ownNil Ent.refl)) ?_
      refine WPA.loopS (σ := Nat × SV) (fun y => [(0, .int .i64 o), (1, .int .i64 n), (2, .string T), (8, .pointer (some ⟨R, 0, none⟩)), (9, .slice x.a x.n x.cap), (10, .int .i64 ms.length), (11, .string k), (12, .pointer (some ⟨C, 0, none⟩)), (13, .int .i64 ((3 * y.1 : Nat) : Int))]) (fun y => y.1 ≤ o)
        (fun y => SL w0 I (Bk C 67 [.slice y.2.a y.2.n y.2.cap, .int .i64 v] :: OwnS 3 y.2 ((parL k).take y.1) :: Bk R 91 [.string u', .int .i64 0] :: OwnS 67 x qs :: RowH 3 (qs.map Prod.fst) (ms.map Prod.fst) :: L)) (fun y => o - y.1) (0, SV.nil) ⟨rfl, rfl, rfl, rfl, rfl, rfl, rfl, rfl, rfl, trivial⟩ (Nat.zero_le _) (fun w h => h.to) ?_
      rintro ⟨j, g⟩ ρ hj
      dsimp only at hj ⊢
      by_cases hjo : j < o
      · have hjl : ((3 * j : Nat) : Int) < k.size := by omega
        have i0 : (0 : Int) ≤ ((3 * j : Nat) : Int) ∧ ((3 * j : Nat) : Int) < k.size := by omega
        have i1 : (0 : Int) ≤ ((3 * j : Nat) : Int) + 1 ∧ ((3 * j : Nat) : Int) + 1 < k.size := by omega
        have i2 : (0 : Int) ≤ ((3 * j : Nat) : Int) + 2 ∧ ((3 * j : Nat) : Int) + 2 < k.size := by omega
        have r0 := bt_range k ((3 * j : Nat) : Int)
        have r1 := bt_range k (((3 * j : Nat) : Int) + 1)
        have r2 := bt_range k (((3 * j : Nat) : Int) + 2)
        have htk := parL_take (k := k) (j := j) (by omega)
        have hlen : ((parL k).take j).length ≤ 10 := by rw [List.length_take]; omega
        have e13 : ((3 * j : Nat) : Int) + 3 = ((3 * (j + 1) : Nat) : Int) := by omega
        repeat' (first | ((rw [e13])) | ((first | refine WLA.m rfl rfl ?_ ?_ | refine WDQ.m rfl rfl ?_ ?_ | refine WDP.m rfl rfl ?_ ?_ | refine WLA.st rfl ?_ ?_ | refine WLA.x rfl rfl ?_ (fun x => ?_) | refine WLA.x0 rfl ?_ (fun x => ?_) | refine WDW.x rfl rfl ?_ (fun x => ?_) | refine WDW.st rfl ?_ ?_); first | exact trivial | exact rfl | assumption | omega | (refine ⟨?_, ?_⟩ <;> omega) | (simp only [Room, List.length_set, List.length_append, List.length_cons, List.length_nil, List.length_replicate]; omega) | decide | skip) | (refine Stp.go ?_) | (refine WPA.ifT ?_) | (refine WPA.ifF ?_) | ((first | refine WPA.dec ?_); first | refine .inl ⟨by first | assumption | omega | with_reducible rfl | (refine fun h => h ?_; first | assumption | with_reducible rfl) | (simp only [List.length_append, List.length_cons, List.length_nil, List.length_set] <;> omega) | decide, ?_⟩ | refine .inr ⟨by first | assumption | omega | with_reducible rfl | (refine fun h => h ?_; first | assumption | with_reducible rfl) | (simp only [List.length_append, List.length_cons, List.length_nil, List.length_set] <;> omega) | decide, ?_⟩) | ((first | refine WPA.ifBt ?_ ?_ | refine WPA.ifBnf ?_ ?_); assumption) | ((first | refine WPA.ifBnt ?_ ?_ | refine WPA.ifBf ?_ ?_); assumption) | ((first | refine WPA.ifs ?_ ?_ | refine WPA.ifB ?_ ?_) <;> intro hc) | (guard_target =~ WPA _ _ _ (.region 13 _ true) _ _ _; refine WPA.drawT 23 (.p 1 (.q 2 (.p 4 (.p 5 (.p 6 (.p 7 (.p 8 (.p 9 (.p 10 (.p 11 (.p 12 (.p 13 (.p 14 (.p 15 (.p 16 (.p 17 (.p 18 (.p 19 (.p 20 (.p 21 (.b false 0 (.b true 3 (.e 22 .fin) false 22 (.w 3 .fin)) false 22 (.e 0 (.w 3 .fin))))))))))))))))))))))) mixed ?_ ?_; kernel_rfl) | (refine WDA.finish (tl := [⟨_, _, _, _, _, _⟩, ⟨_, _, _, _, _, _⟩, ⟨_, _, _, _, _, _⟩]) rfl ?_) | (refine WDQ.see rfl ?_) | (refine WDP.see rfl ?_) | (refine WDW.see rfl ?_) | (first | (refine WDA.two rfl rfl ?_ ?_) | (refine WDA.twoL rfl rfl ?_ ?_) | (refine WDA.twoR rfl rfl ?_ ?_) | (refine WDA.twoW rfl rfl ?_ ?_)) | (refine WDE.see rfl ?_) | (refine WDE.alloc rfl rfl (fun w h => h) (fun x => ?_)) | (refine WDE.stE rfl ?_) | (refine WDE.x rfl rfl ?_ ?_ (fun x => ?_); rotate_left 1; (intro x w h; first | exact h | exact Ent.drop1.sl h | exact SL.unI h | exact SL.to h); rotate_left 1; first | exact trivial | exact rfl | assumption | omega | (refine ⟨?_, ?_⟩ <;> omega) | (simp only [Room, List.length_set, List.length_append, List.length_cons, List.length_nil, List.length_replicate]; omega) | decide | skip))
        all_goals
          refine QQ.loopS (j + 1, x) ⟨rfl, rfl, rfl, rfl, rfl, rfl, rfl, rfl, rfl, trivial⟩ hjo (by dsimp only; omega) (fun w h => ?_)
          dsimp only
          rw [htk]
          unfold par3
          exact h.to
      · have hjl : ¬ ((3 * j : Nat) : Int) < k.size := by omega
        rw [List.take_of_length_le (by omega)]
        have hroom : Room (qs.length + 1) 32 := ⟨by omega, by omega⟩
        repeat' (first | ((first | refine WLA.m rfl rfl ?_ ?_ | refine WLA.st rfl ?_ ?_ | refine WLA.x rfl rfl ?_ (fun x => ?_) | refine WLA.x0 rfl ?_ (fun x => ?_)); first | exact trivial | exact rfl | assumption | omega | (refine ⟨?_, ?_⟩ <;> omega) | (simp only [Room, List.length_set, List.length_append, List.length_cons, List.length_nil, List.length_replicate]; omega) | decide | skip) | (refine Stp.go ?_) | (refine WPA.ifT ?_) | (refine WPA.ifF ?_) | ((first | refine WPA.dec ?_); first | refine .inl ⟨by first | assumption | omega | with_reducible rfl | (refine fun h => h ?_; first | assumption | with_reducible rfl) | (simp only [List.length_append, List.length_cons, List.length_nil, List.length_set] <;> omega) | decide, ?_⟩ | refine .inr ⟨by first | assumption | omega | with_reducible rfl | (refine fun h => h ?_; first | assumption | with_reducible rfl) | (simp only [List.length_append, List.length_cons, List.length_nil, List.length_set] <;> omega) | decide, ?_⟩) | ((first | refine WPA.ifBt ?_ ?_ | refine WPA.ifBnf ?_ ?_); assumption) | ((first | refine WPA.ifBnt ?_ ?_ | refine WPA.ifBf ?_ ?_); assumption) | ((first | refine WPA.ifs ?_ ?_ | refine WPA.ifB ?_ ?_) <;> intro hc))
        have hlen : (ms ++ [(parL k, (v : Int))]).length = ms.length + 1 := by simp
        refine QQ.loopS ⟨ms ++ [(parL k, (v : Int))], qs ++ [(g, (v : Int))], u', x⟩ ⟨rfl, rfl, rfl, rfl, rfl, by dsimp only; rw [hlen]; rfl, trivial⟩ ⟨⟨by simp [hq], by dsimp only; omega, ?_, fun m hm => ?_⟩, by dsimp only; rw [hlen, hnx2]⟩ (by dsimp only; omega) (fun w h => ?_)
        · dsimp only
          rw [hu', ByteArray.size_extract, ByteArray.size_extract]; omega
        · dsimp only at hm
          rcases List.mem_append.1 hm with hm | hm
          · exact hml m hm
          · rw [List.mem_singleton.1 hm]; dsimp only; omega
        · dsimp only
          have h2 : SL w0 I (OwnS 3 g (parL k) :: RowH 3 (qs.map Prod.fst) (ms.map Prod.fst) :: OwnS 67 x (qs ++ [(g, (v : Int))]) :: Bk R 91 [.string u', .int .i64 0] :: L) w := h.to
          have h3 := (RowH.snoc (by rw [List.length_map, List.length_map]; exact hql)).sl h2
          rw [List.map_append, List.map_append, show List.map Prod.fst [(g, (v : Int))] = [g] from rfl, show List.map Prod.fst [(parL k, (v : Int))] = [parL k] from rfl]
          exact h3.to
  · have hlt' : ¬ (ms.length : Int) < n := by omega
    have hie : ms.length = n := by omega
    have hrs : readS (o : Int) (n : Int) T = if u.size = 0 ∧ wrong o ms = 0 then some ms else none := by
      unfold readS
      rw [Int.toNat_natCast, Int.toNat_natCast, ← hie, hrd]; rfl
    rw [hr] at hrs
    by_cases hu0 : u.size = 0
    · have hue : u = ⟨#[]⟩ := by
        apply ByteArray.ext
        exact Array.eq_empty_of_size_eq_zero hu0
      have hue2 : decide (u = ⟨#[]⟩) = true := decide_eq_true hue
      have hgR : ∀ i : Nat, i < qs.length → RdS I (OwnS 67 x qs :: RowH 3 (qs.map Prod.fst) (ms.map Prod.fst) :: Bk R 91 [.string u, .int .i64 0] :: L) (at_ qs (i : Int)).1 Int inferInstance (ms.getD i ([], 0)).1 := fun i hi => by
        have h1 : RdS I (RowH 3 (qs.map Prod.fst) (ms.map Prod.fst) :: Bk R 91 [.string u, .int .i64 0] :: L) ((qs.map Prod.fst).getD i SV.nil) Int inferInstance ((ms.map Prod.fst).getD i []) := RdS.row (by rw [List.length_map]; exact hi) (by rw [List.length_map]; omega)
        have e1 : (qs.map Prod.fst).getD i SV.nil = (at_ qs (i : Int)).1 := by rw [List.getD_eq_getElem?_getD, List.getElem?_map, List.getElem?_eq_getElem hi, at_nat qs i hi]; rfl
        have e2 : (ms.map Prod.fst).getD i [] = (ms.getD i ([], 0)).1 := by rw [List.getD_eq_getElem?_getD, List.getD_eq_getElem?_getD, List.getElem?_map, List.getElem?_eq_getElem (by omega)]; rfl
        rw [e1, e2] at h1
        exact RdS.tail
      by_cases hw : wrong o ms = 0
      · rw [if_pos ⟨hu0, hw⟩] at hrs
        subst hrs
        repeat' (first | ((first | refine WLA.m rfl rfl ?_ ?_ | refine WLA.st rfl ?_ ?_ | refine WLA.x rfl rfl ?_ (fun x => ?_) | refine WLA.x0 rfl ?_ (fun x => ?_)); first | exact trivial | exact rfl | assumption | omega | (refine ⟨?_, ?_⟩ <;> omega) | (simp only [Room, List.length_set, List.length_append, List.length_cons, List.length_nil, List.length_replicate]; omega) | decide | skip) | (refine Stp.go ?_) | (guard_target =~ WLA _ _ _ _ _ (⟨_, .call ⟨.value (.func 19), _, _⟩, _, _, _, _⟩ :: _) _ _; first | (refine WLA.call rfl rfl (WrongR_tr (ms := ms) hq hgR hml (by omega)) ?_; rintro ⟨⟩) | (refine WLA.call0 rfl (WrongR_tr (ms := ms) hq hgR hml (by omega)) ?_; rintro ⟨⟩)) | (refine WPA.ifT ?_) | (refine WPA.ifF ?_) | (refine WLA.no rfl rfl ?_) | ((first | refine WPA.dec ?_ | ((fail_if_success (guard_target =~ WLA _ _ _ _ _ _ (put1 _ _ (.bool true)) _)); (fail_if_success (guard_target =~ WLA _ _ _ _ _ _ (put1 _ _ (.bool false)) _)); refine WLA.dec rfl rfl ?_) | refine WLA.pk ?_); first | refine .inl ⟨by first | assumption | omega | with_reducible rfl | (refine fun h => h ?_; first | assumption | with_reducible rfl) | (simp only [List.length_append, List.length_cons, List.length_nil, List.length_set] <;> omega) | decide, ?_⟩ | refine .inr ⟨by first | assumption | omega | with_reducible rfl | (refine fun h => h ?_; first | assumption | with_reducible rfl) | (simp only [List.length_append, List.length_cons, List.length_nil, List.length_set] <;> omega) | decide, ?_⟩) | ((first | refine WPA.ifBt ?_ ?_ | refine WPA.ifBnf ?_ ?_); assumption) | ((first | refine WPA.ifBnt ?_ ?_ | refine WPA.ifBf ?_ ?_); assumption) | ((first | refine WPA.ifs ?_ ?_ | refine WPA.ifB ?_ ?_) <;> intro hc) | ((fail_if_success (guard_target =~ WLA _ _ _ _ _ _ (put1 _ _ (.bool true)) _)); (fail_if_success (guard_target =~ WLA _ _ _ _ _ _ (put1 _ _ (.bool false)) _)); (first | refine WLA.both rfl rfl ?_ ?_ | refine WLA.bothB rfl rfl ?_ ?_) <;> intro hg))
        exact QQ.end_ rfl x (by rw [decide_eq_true hw]; rfl) fun w h => PrsH.some.sl ((CtsH.fold hq).sl (h.to : SL w0 I (OwnS 67 x qs :: RowH 3 (qs.map Prod.fst) (ms.map Prod.fst) :: L) w))
      · rw [if_neg (fun h => hw h.2)] at hrs
        subst hrs
        repeat' (first | ((first | refine WLA.m rfl rfl ?_ ?_ | refine WLA.st rfl ?_ ?_ | refine WLA.x rfl rfl ?_ (fun x => ?_) | refine WLA.x0 rfl ?_ (fun x => ?_)); first | exact trivial | exact rfl | assumption | omega | (refine ⟨?_, ?_⟩ <;> omega) | (simp only [Room, List.length_set, List.length_append, List.length_cons, List.length_nil, List.length_replicate]; omega) | decide | skip) | (refine Stp.go ?_) | (guard_target =~ WLA _ _ _ _ _ (⟨_, .call ⟨.value (.func 19), _, _⟩, _, _, _, _⟩ :: _) _ _; first | (refine WLA.call rfl rfl (WrongR_tr (ms := ms) hq hgR hml (by omega)) ?_; rintro ⟨⟩) | (refine WLA.call0 rfl (WrongR_tr (ms := ms) hq hgR hml (by omega)) ?_; rintro ⟨⟩)) | (refine WPA.ifT ?_) | (refine WPA.ifF ?_) | (refine WLA.no rfl rfl ?_) | ((first | refine WPA.dec ?_ | ((fail_if_success (guard_target =~ WLA _ _ _ _ _ _ (put1 _ _ (.bool true)) _)); (fail_if_success (guard_target =~ WLA _ _ _ _ _ _ (put1 _ _ (.bool false)) _)); refine WLA.dec rfl rfl ?_) | refine WLA.pk ?_); first | refine .inl ⟨by first | assumption | omega | with_reducible rfl | (refine fun h => h ?_; first | assumption | with_reducible rfl) | (simp only [List.length_append, List.length_cons, List.length_nil, List.length_set] <;> omega) | decide, ?_⟩ | refine .inr ⟨by first | assumption | omega | with_reducible rfl | (refine fun h => h ?_; first | assumption | with_reducible rfl) | (simp only [List.length_append, List.length_cons, List.length_nil, List.length_set] <;> omega) | decide, ?_⟩) | ((first | refine WPA.ifBt ?_ ?_ | refine WPA.ifBnf ?_ ?_); assumption) | ((first | refine WPA.ifBnt ?_ ?_ | refine WPA.ifBf ?_ ?_); assumption) | ((first | refine WPA.ifs ?_ ?_ | refine WPA.ifB ?_ ?_) <;> intro hc) | ((fail_if_success (guard_target =~ WLA _ _ _ _ _ _ (put1 _ _ (.bool true)) _)); (fail_if_success (guard_target =~ WLA _ _ _ _ _ _ (put1 _ _ (.bool false)) _)); (first | refine WLA.both rfl rfl ?_ ?_ | refine WLA.bothB rfl rfl ?_ ?_) <;> intro hg))
        exact QQ.end_ rfl x (by rw [decide_eq_false hw]; rfl) fun w h => PrsH.none.sl h.to
    · have hue : u ≠ ⟨#[]⟩ := fun e => hu0 (by rw [e]; rfl)
      rw [if_neg (fun h => hu0 h.1)] at hrs
      subst hrs
      repeat' (first | ((first | refine WLA.m rfl rfl ?_ ?_ | refine WLA.st rfl ?_ ?_ | refine WLA.x rfl rfl ?_ (fun x => ?_) | refine WLA.x0 rfl ?_ (fun x => ?_)); first | exact trivial | exact rfl | assumption | omega | (refine ⟨?_, ?_⟩ <;> omega) | (simp only [Room, List.length_set, List.length_append, List.length_cons, List.length_nil, List.length_replicate]; omega) | decide | skip) | (refine Stp.go ?_) | (refine WPA.ifT ?_) | (refine WPA.ifF ?_) | (refine WLA.no rfl rfl ?_) | ((first | refine WPA.dec ?_ | ((fail_if_success (guard_target =~ WLA _ _ _ _ _ _ (put1 _ _ (.bool true)) _)); (fail_if_success (guard_target =~ WLA _ _ _ _ _ _ (put1 _ _ (.bool false)) _)); refine WLA.dec rfl rfl ?_) | refine WLA.pk ?_); first | refine .inl ⟨by first | assumption | omega | with_reducible rfl | (refine fun h => h ?_; first | assumption | with_reducible rfl) | (simp only [List.length_append, List.length_cons, List.length_nil, List.length_set] <;> omega) | decide, ?_⟩ | refine .inr ⟨by first | assumption | omega | with_reducible rfl | (refine fun h => h ?_; first | assumption | with_reducible rfl) | (simp only [List.length_append, List.length_cons, List.length_nil, List.length_set] <;> omega) | decide, ?_⟩) | ((first | refine WPA.ifBt ?_ ?_ | refine WPA.ifBnf ?_ ?_); assumption) | ((first | refine WPA.ifBnt ?_ ?_ | refine WPA.ifBf ?_ ?_); assumption) | ((first | refine WPA.ifs ?_ ?_ | refine WPA.ifB ?_ ?_) <;> intro hc) | ((fail_if_success (guard_target =~ WLA _ _ _ _ _ _ (put1 _ _ (.bool true)) _)); (fail_if_success (guard_target =~ WLA _ _ _ _ _ _ (put1 _ _ (.bool false)) _)); (first | refine WLA.both rfl rfl ?_ ?_ | refine WLA.bothB rfl rfl ?_ ?_) <;> intro hg))
      exact QQ.end_ rfl x rfl fun w h => PrsH.none.sl h.to
end
end Go.Proofs.Ytbekjbgaenjbfaa
namespace Go.Proofs.Ytbekjbgaenjbfaa
open Go Go.Fw Go.RowKit
set_option linter.unusedVariables false
set_option linter.unusedSimpArgs false
set_option maxRecDepth 100000
set_option maxHeartbeats 16000000
set_option synthInstance.maxHeartbeats 200000
set_option synthInstance.maxSize 100000
attribute [local irreducible] WPA WLA WDA WDQ WDE QQ seqQ blockQ loopQ fnQ OpP OpT Tr TrP SL SLd OwnS LitS Bk BkE Ob
theorem vint_ne (n : Nat) : 1 ≤ (vint n).length := by
  by_cases h : n < 128
  · rw [vint_lt h]; exact Nat.le_refl 1
  · rw [vint_ge h]; exact Nat.le_add_left 1 _
theorem bN_get {s : ByteArray} {pre post : List UInt8} {b : UInt8} (h : s.data.toList = pre ++ b :: post) : bN s pre.length = b.toNat := by
  have hl : pre.length < s.data.toList.length := by rw [h, List.length_append, List.length_cons]; omega
  have h1 := bt_get hl
  unfold bN
  rw [h1]
  have : s.data.toList[pre.length] = b := by
    have h2 : s.data.toList[pre.length]? = some b := by rw [h, List.getElem?_append_right (Nat.le_refl _), Nat.sub_self]; rfl
    rw [List.getElem?_eq_getElem hl] at h2
    exact Option.some.inj h2
  rw [this]; rfl
theorem size_list' (s : ByteArray) : s.size = s.data.toList.length := by show s.data.size = _; rw [Array.length_toList]
theorem u8_nat {m : Nat} (h : m < 256) : (UInt8.ofNat m).toNat = m := by rw [UInt8.toNat_ofNat', Nat.mod_eq_of_lt h]
theorem vint_led {s : ByteArray} : ∀ (n : Nat) (pre post : List UInt8), s.data.toList = pre ++ (vint n ++ post) → ∀ f, (vint n).length ≤ f + 1 → ledN s f pre.length = pre.length + (vint n).length - 1 := by
  intro n
  induction n using Nat.strongRecOn with
  | _ n ih =>
    intro pre post h f hf
    by_cases hn : n < 128
    · rw [vint_lt hn] at h ⊢
      have hb := bN_get (pre := pre) (b := UInt8.ofNat n) (post := post) h
      rw [u8_nat (by omega)] at hb
      cases f with
      | zero => simp [ledN]
      | succ f => rw [ledN, if_neg (by omega)]; simp
    · rw [vint_ge hn] at h hf ⊢
      have hb := bN_get (pre := pre) (b := UInt8.ofNat (n % 128 + 128)) (post := vint (n / 128) ++ post) (by rw [h]; rfl)
      rw [u8_nat (by omega)] at hb
      have hv := vint_ne (n / 128)
      simp only [List.length_cons] at hf ⊢
      have hlen : pre.length < s.size := by rw [size_list', h, List.length_append]; simp
      cases f with
      | zero => omega
      | succ f =>
        rw [ledN, if_pos ⟨hlen, by omega⟩]
        have := ih (n / 128) (by omega) (pre ++ [UInt8.ofNat (n % 128 + 128)]) post (by rw [h]; simp) f (by omega)
        rw [List.length_append] at this
        simp only [List.length_cons, List.length_nil] at this
        rw [Nat.zero_add] at this
        rw [this]; omega
theorem vint_val {s : ByteArray} : ∀ (n : Nat) (pre post : List UInt8), s.data.toList = pre ++ (vint n ++ post) → valR s pre.length (vint n).length = n := by
  intro n
  induction n using Nat.strongRecOn with
  | _ n ih =>
    intro pre post h
    by_cases hn : n < 128
    · rw [vint_lt hn] at h ⊢
      have hb := bN_get (pre := pre) (b := UInt8.ofNat n) (post := post) h
      rw [u8_nat (by omega)] at hb
      show bN s pre.length % 128 + 128 * 0 = n
      rw [hb]; omega
    · rw [vint_ge hn] at h ⊢
      have hb := bN_get (pre := pre) (b := UInt8.ofNat (n % 128 + 128)) (post := vint (n / 128) ++ post) (by rw [h]; rfl)
      rw [u8_nat (by omega)] at hb
      have := ih (n / 128) (by omega) (pre ++ [UInt8.ofNat (n % 128 + 128)]) post (by rw [h]; simp)
      rw [List.length_append] at this
      show bN s pre.length % 128 + 128 * valR s (pre.length + 1) (vint (n / 128)).length = n
      rw [hb]
      have e : valR s (pre.length + 1) (vint (n / 128)).length = n / 128 := this
      rw [e]; omega
theorem vint_last {s : ByteArray} : ∀ (n : Nat) (pre post : List UInt8), s.data.toList = pre ++ (vint n ++ post) → bN s (pre.length + (vint n).length - 1) = 0 → n = 0 := by
  intro n
  induction n using Nat.strongRecOn with
  | _ n ih =>
    intro pre post h h0
    by_cases hn : n < 128
    · rw [vint_lt hn] at h h0
      have hb := bN_get (pre := pre) (b := UInt8.ofNat n) (post := post) h
      rw [u8_nat (by omega)] at hb
      have : pre.length + [UInt8.ofNat n].length - 1 = pre.length := by simp
      rw [this, hb] at h0
      exact h0
    · rw [vint_ge hn] at h h0
      have hv := vint_ne (n / 128)
      have := ih (n / 128) (by omega) (pre ++ [UInt8.ofNat (n % 128 + 128)]) post (by rw [h]; simp) (by
        rw [List.length_append]
        simp only [List.length_cons, List.length_nil] at h0 ⊢
        rw [show pre.length + (0 + 1) + (vint (n / 128)).length - 1 = pre.length + ((vint (n / 128)).length + 1) - 1 by omega]; exact h0)
      omega
theorem numR_vS {n : Nat} (hn : n ≤ 1099511627776) (r : ByteArray) : numR (vS n ++ r) = (n, (vS n).size, 0) := by
  have hd : (vS n ++ r).data.toList = [] ++ (vint n ++ r.data.toList) := by
    rw [ByteArray.data_append, Array.toList_append]
    unfold vS; simp
  have hl := vint_len 5 n (by omega)
  have h1 := vint_led n [] r.data.toList hd 10 (by omega)
  have h2 := vint_val n [] r.data.toList hd
  have h3 := vint_last n [] r.data.toList hd
  have h4 := vint_ne n
  have hsz : (vS n).size = (vint n).length := by unfold vS; show (vint n).toArray.size = _; simp
  have hs2 : (vS n ++ r).size = (vint n).length + r.size := by rw [ByteArray.size_append, hsz]
  simp only [List.length_nil, Nat.zero_add] at h1 h2 h3
  have e : lead (vS n ++ r) = (vint n).length - 1 := h1
  rw [num_ok (by omega) (by omega) (by
    rw [e]
    rintro (⟨ha, -⟩ | ⟨ha, hb⟩)
    · omega
    · have h0 := h3 hb
      subst h0
      rw [vint_lt (by omega)] at ha
      simp at ha), e, show (vint n).length - 1 + 1 = (vint n).length by omega, h2, hsz]
theorem uptR_vS {n : Nat} (hn : n ≤ 1099511627776) (r : ByteArray) : uptR (vS n ++ r) = some (n, (vS n).size) := by
  unfold uptR
  rw [numR_vS hn, if_pos ⟨rfl, hn⟩]
theorem app_left (a b : ByteArray) : (a ++ b).extract 0 a.size = a := by
  apply ByteArray.ext
  rw [ByteArray.data_extract, ByteArray.data_append]
  have : a.size = a.data.size := rfl
  rw [this]
  simp
theorem app_right (a b : ByteArray) : (a ++ b).extract a.size (a ++ b).size = b := by
  apply ByteArray.ext
  rw [ByteArray.data_extract, ByteArray.size_append, ByteArray.data_append]
  have h1 : a.size = a.data.toList.length := size_list' a
  have h2 : b.size = b.data.toList.length := size_list' b
  apply Array.toList_inj.1
  rw [Array.toList_extract, Array.toList_append, List.extract_eq_take_drop, h1, h2, List.drop_left, Nat.add_sub_cancel_left, List.take_length]
theorem byS_from (t : ByteArray) : ∀ ms : List Ct, ms.foldl (fun t m => t ++ keyS m.1 ++ vS m.2.toNat) t = t ++ byS ms
  | [] => (app_bnil t).symm
  | m :: l => by
    unfold byS
    rw [List.foldl_cons, List.foldl_cons, byS_from _ l, byS_from _ l, bnil_app, ByteArray.append_assoc, ByteArray.append_assoc, ByteArray.append_assoc]
theorem byS_cons (m : Ct) (l : List Ct) : byS (m :: l) = keyS m.1 ++ (vS m.2.toNat ++ byS l) := by
  show ((⟨#[]⟩ : ByteArray) ++ keyS m.1 ++ vS m.2.toNat |> fun t => l.foldl (fun t m => t ++ keyS m.1 ++ vS m.2.toNat) t) = _
  dsimp only
  rw [byS_from, bnil_app, ByteArray.append_assoc]
theorem rdOne_key {o : Nat} {g : List Int} {n : Int} {r : ByteArray} (hg : g.length = o) (hk : okKey g) (hn : 0 ≤ n ∧ n ≤ 1099511627776) : rdOne o (keyS g ++ (vS n.toNat ++ r)) = some ((g, n), r) := by
  have hs := keyS_size g
  have e3 : 3 * o = (keyS g).size := by omega
  unfold rdOne
  rw [e3, if_neg (by rw [ByteArray.size_append]; omega), app_left, app_right, uptR_vS (by omega), Option.map_some]
  show some ((parL (keyS g), ((n.toNat : Nat) : Int)), (vS n.toNat ++ r).extract (vS n.toNat).size (vS n.toNat ++ r).size) = _
  rw [app_right, parL_key hk, Int.toNat_of_nonneg hn.1]
theorem rdN_from {o : Nat} {u r : ByteArray} {l : List Ct} {i : Nat} (h : rdN o u i = some (l, r)) : ∀ (ms : List Ct), (∀ m ∈ ms, m.1.length = o ∧ okKey m.1 ∧ 0 ≤ m.2 ∧ m.2 ≤ 1099511627776) → r = byS ms → rdN o u (i + ms.length) = some (l ++ ms, ⟨#[]⟩)
  | [], _, hr => by subst hr; rw [List.append_nil]; exact h
  | m :: ms, hm, hr => by
    have h1 := hm m (List.mem_cons_self ..)
    rw [byS_cons] at hr
    have h2 : rdN o u (i + 1) = some (l ++ [m], byS ms) := by
      rw [rdN, h]
      show (rdOne o r).map _ = _
      rw [hr, rdOne_key h1.1 h1.2.1 h1.2.2]; rfl
    have := rdN_from h2 ms (fun m' h' => hm m' (List.mem_cons_of_mem _ h')) rfl
    rw [List.length_cons, show i + (ms.length + 1) = i + 1 + ms.length by omega, this, List.append_assoc]; rfl
theorem readS_back {o : Int} {ms : List Ct} (h : wrong o ms = 0) : readS o ms.length (byS ms) = some ms := by
  have hg := wrong_good h
  have ho := (wrong_zero h).1
  have := rdN_from (o := o.toNat) (u := byS ms) (l := []) (i := 0) rfl ms (fun m hm => by have := hg m hm; exact ⟨by omega, this.2.1, by omega, this.2.2.2⟩) rfl
  rw [Nat.zero_add, List.nil_append] at this
  unfold readS
  rw [Int.toNat_natCast, this]
  show (if (⟨#[]⟩ : ByteArray).size = 0 ∧ wrong o ms = 0 then some ms else none) = some ms
  rw [if_pos ⟨rfl, h⟩]
theorem rdN_size {o : Nat} {u : ByteArray} (ho : 1 ≤ o) : ∀ {k : Nat} {q : List Ct × ByteArray}, rdN o u k = some q → q.2.size + k ≤ u.size
  | 0, q, h => by rw [← Option.some.inj h]; exact Nat.le_refl _
  | k + 1, q, h => by
    rw [rdN] at h
    obtain ⟨q1, h1, h2⟩ := Option.bind_eq_some_iff.1 h
    obtain ⟨x, h3, h4⟩ := Option.map_eq_some_iff.1 h2
    have ih := rdN_size ho h1
    obtain ⟨y, u'⟩ := x
    obtain ⟨v, m, h5, h6, h7, h8⟩ := rdOne_u h3
    rw [← h4]
    dsimp only
    rw [h8, ByteArray.size_extract, ByteArray.size_extract]; omega
theorem readS_long {o n : Int} {u : ByteArray} (ho : 1 ≤ o) (h : (u.size : Int) < n) : readS o n u = none := by
  unfold readS
  cases hq : rdN o.toNat u n.toNat with
  | none => rfl
  | some q => have := rdN_size (by omega) hq; omega
end Go.Proofs.Ytbekjbgaenjbfaa
namespace Go.Proofs.Ytbekjbgaenjbfaa
open Go Go.Fw Go.RowKit
set_option linter.unusedVariables false
set_option linter.unusedSimpArgs false
set_option maxRecDepth 100000
set_option maxHeartbeats 16000000
set_option synthInstance.maxHeartbeats 200000
set_option synthInstance.maxSize 100000
attribute [local irreducible] WPA WLA WDA WDQ WDE QQ seqQ blockQ loopQ fnQ OpP OpT Tr TrP SL SLd OwnS LitS Bk BkE Ob
def catB (m : BS) (l : List Int) : ByteArray := l.foldr (fun i t => at_ m.ts i ++ t) ⟨#[]⟩
structure Filled (m m' : BS) (new : List Int) (u : ByteArray) : Prop where
  ok : m'.Ok
  sz : m'.size = m.size ∧ m'.most = m.most
  used : m'.used = m.used + new.length
  peak : m.used ≤ m.peak → m'.peak = max m.peak m'.used
  txb : TxB m → TxB m'
  keep : ∀ i : Int, Has m.tk i → Has m'.tk i ∧ at_ m'.ts i = at_ m.ts i
  has : ∀ i ∈ new, Has m'.tk i ∧ ¬ Has m.tk i
  nodup : new.Nodup
  cat : catB m' new = u
  num : (new.length : Int) * m.size < u.size + m.size ∧ (u.size : Int) ≤ new.length * m.size
theorem not_has_free (tk : List Bool) : ¬ Has tk (firstFree tk : Nat) := fun h => by
  have h1 := has_nat.1 h
  have h2 := padB_at tk
  unfold padB at h2
  split at h2
  · rw [h2] at h1; cases h1
  · rename_i h3; rw [List.getElem?_eq_none (by omega)] at h1; cases h1
theorem has_int {tk : List Bool} {i : Int} (h : Has tk i) : ∃ j : Nat, i = j ∧ tk[j]? = some true := by
  have h0 := h.1.1
  refine ⟨i.toNat, by omega, ?_⟩
  exact has_nat.1 (by rw [Int.toNat_of_nonneg h0]; exact h)
theorem keep_one {m : BS} {u : ByteArray} (ok : m.Ok) {i : Int} (h : Has m.tk i) : Has (m.alloc.write (firstFree m.tk : Nat) u).tk i ∧ at_ (m.alloc.write (firstFree m.tk : Nat) u).ts i = at_ m.ts i := by
  obtain ⟨j, rfl, hj⟩ := has_int h
  have hne : j ≠ firstFree m.tk := fun e => not_has_free m.tk (by rw [← e]; exact h)
  have hlt : j < m.tk.length := (List.getElem?_eq_some_iff.1 hj).1
  have hl := ok.lens
  constructor
  · refine has_nat.2 ?_
    show ((padB m.tk).set (firstFree m.tk) true)[j]? = some true
    rw [List.getElem?_set_ne (Ne.symm hne), padB_ne _ _ hne]; exact hj
  · show at_ ((padT m.tk m.ts).set ((firstFree m.tk : Nat) : Int).toNat u) (j : Int) = _
    unfold at_
    rw [List.getD_eq_getElem?_getD, List.getD_eq_getElem?_getD, Int.toNat_natCast, Int.toNat_natCast, List.getElem?_set_ne (Ne.symm hne), padT_at _ _ _ (by omega)]
theorem at_one {m : BS} {u : ByteArray} (ok : m.Ok) : at_ (m.alloc.write (firstFree m.tk : Nat) u).ts (firstFree m.tk : Nat) = u := by
  show at_ ((padT m.tk m.ts).set ((firstFree m.tk : Nat) : Int).toNat u) ((firstFree m.tk : Nat) : Int) = u
  have h1 := firstFree_padB m.tk
  have h2 := padB_len m.tk m.ts ok.lens
  unfold at_
  rw [List.getD_eq_getElem?_getD, Int.toNat_natCast, List.getElem?_set_self (by omega)]; rfl
theorem ext_app (t : ByteArray) (a b : Nat) (h : a ≤ b) (hb : b ≤ t.size) : t.extract a b ++ t.extract b t.size = t.extract a t.size := by
  apply ByteArray.ext
  rw [ByteArray.data_append, ByteArray.data_extract, ByteArray.data_extract, ByteArray.data_extract, Array.extract_append_extract]
  congr 1 <;> omega
theorem fillN_law (t : ByteArray) : ∀ (d : Nat) (m : BS) (ids : List Int) (k : Nat), t.size - k = d → k ≤ t.size → m.Ok → ((t.size - k : Nat) : Int) ≤ m.size * (m.most - m.used) →
    ∃ new, (fillN t m ids k).2 = ids ++ new ∧ Filled m (fillN t m ids k).1 new (t.extract k t.size) := by
  intro d
  induction d using Nat.strongRecOn with
  | _ d ih =>
    intro m ids k hd hk ok hR
    have hes := ext_size' t k hk
    by_cases hlt : k < t.size
    · have hz1 := ok.size
      obtain ⟨c1, c2, c3, c4⟩ := fillC_eq hlt hz1
      have hum1 := ok.um
      have hu : m.used < m.most := by
        rcases Int.lt_or_eq_of_le hum1 with h | h
        · exact h
        · rw [h, Int.sub_self, Int.mul_zero] at hR; omega
      rw [fillN_step hlt]
      have hok2 := (ok.alloc hu).write (has_alloc m) (t := t.extract k (k + fillC t m k))
      have hsp : (t.extract k (k + fillC t m k)).size = fillC t m k := by rw [ByteArray.size_extract]; omega
      have hR2 : ((t.size - (k + fillC t m k) : Nat) : Int) ≤ m.size * (m.most - (m.used + 1)) := by
        have e : m.size * (m.most - (m.used + 1)) = m.size * (m.most - m.used) - m.size := by rw [← Int.sub_sub, Int.mul_sub m.size (m.most - m.used) 1, Int.mul_one]
        rw [e]
        rcases Int.le_total ((t.size - k : Nat) : Int) m.size with hle | hle
        · have : 0 ≤ m.size * (m.most - m.used - 1) := Int.mul_nonneg (by omega) (by omega)
          rw [Int.mul_sub, Int.mul_one] at this
          omega
        · omega
      have hcat := ext_app t k (k + fillC t m k) (by omega) c3
      have hes2 := ext_size' t (k + fillC t m k) c3
      generalize fillC t m k = c at c1 c2 c3 c4 hok2 hsp hR2 hcat hes2
      obtain ⟨new, e1, F⟩ := ih (t.size - (k + c)) (by omega) (m.alloc.write (firstFree m.tk : Nat) (t.extract k (k + c))) (ids ++ [(firstFree m.tk : Int)]) (k + c) rfl c3 hok2 hR2
      have hk1 : ∀ {i : Int}, Has m.tk i → _ := fun {i} h => keep_one (u := t.extract k (k + c)) ok h
      have ha1 := at_one (u := t.extract k (k + c)) ok
      have hh1 : Has (m.alloc.write (firstFree m.tk : Nat) (t.extract k (k + c))).tk (firstFree m.tk : Nat) := has_alloc m
      have hnum := F.num
      have hused := F.used
      have hpeak := F.peak
      have hsz := F.sz
      have htxb := F.txb
      refine ⟨(firstFree m.tk : Int) :: new, by rw [e1, List.append_assoc]; rfl, ⟨F.ok, hsz, ?_, fun h => ?_, fun h => htxb (TxB.write h.alloc (by omega)), fun i h => ?_, fun i h => ?_, ?_, ?_, ?_⟩⟩
      · rw [hused, List.length_cons]
        show m.used + 1 + _ = _
        omega
      · rw [hpeak (by show m.used + 1 ≤ max m.peak (m.used + 1); omega), hused]
        show max (max m.peak (m.used + 1)) (m.used + 1 + _) = max m.peak (m.used + 1 + _)
        omega
      · have h1 := hk1 h
        have h2 := F.keep i h1.1
        exact ⟨h2.1, h2.2.trans h1.2⟩
      · rcases List.mem_cons.1 h with rfl | h
        · exact ⟨(F.keep _ hh1).1, not_has_free m.tk⟩
        · exact ⟨(F.has i h).1, fun h2 => (F.has i h).2 (hk1 h2).1⟩
      · exact List.nodup_cons.2 ⟨fun h => (F.has _ h).2 hh1, F.nodup⟩
      · show at_ _ _ ++ catB _ new = _
        rw [F.cat, (F.keep _ hh1).2, ha1, hcat]
      · have hmz : (m.alloc.write (firstFree m.tk : Nat) (t.extract k (k + c))).size = m.size := rfl
        rw [hmz, hes2] at hnum
        rw [hes, List.length_cons]
        have e : ((new.length + 1 : Nat) : Int) * m.size = new.length * m.size + m.size := by push_cast; rw [Int.add_mul, Int.one_mul]
        rw [e]
        have h0 : new.length ≠ 0 → m.size ≤ new.length * m.size := fun h => by
          have := Int.mul_le_mul_of_nonneg_right (a := 1) (b := (new.length : Int)) (c := m.size) (by omega) (by omega)
          rwa [Int.one_mul] at this
        by_cases hn0 : new.length = 0
        · rw [hn0] at hnum ⊢
          simp only [Int.natCast_zero, Int.zero_mul, Int.ofNat_eq_natCast] at hnum ⊢
          omega
        · have := h0 hn0
          omega
    · rw [fillN_end hlt]
      have he : t.extract k t.size = ⟨#[]⟩ := by
        apply ByteArray.ext
        apply Array.eq_empty_of_size_eq_zero
        show (t.extract k t.size).size = 0
        omega
      have hz := ok.size
      refine ⟨[], by simp, ⟨ok, ⟨rfl, rfl⟩, by simp, fun h => by dsimp only; omega, id, fun i h => ⟨h, rfl⟩, fun i h => (by cases h), List.nodup_nil, he.symm, ?_⟩⟩
      rw [hes]
      simp only [List.length_nil, Int.natCast_zero, Int.zero_mul]
      omega
theorem txtN_all {m : BS} {ids : List Int} (h : ∀ i ∈ ids, Has m.tk i) : ∀ (n : Nat), n ≤ ids.length → ∃ t, txtN m ids n = some t ∧ t ++ catB m (ids.drop n) = catB m ids
  | 0, _ => ⟨⟨#[]⟩, rfl, by rw [List.drop_zero, bnil_app]⟩
  | n + 1, hn => by
    obtain ⟨t, h1, h2⟩ := txtN_all h n (by omega)
    have hm : ids.getD n 0 ∈ ids := by rw [List.getD_eq_getElem?_getD, List.getElem?_eq_getElem (by omega)]; exact List.getElem_mem _
    refine ⟨t ++ at_ m.ts (ids.getD n 0), by rw [txtN, h1]; show (if _ then _ else _) = _; rw [if_pos (h _ hm)], ?_⟩
    rw [← h2, ByteArray.append_assoc]
    have e : ids.drop n = ids.getD n 0 :: ids.drop (n + 1) := by
      rw [List.drop_eq_getElem_cons (by omega), List.getD_eq_getElem?_getD, List.getElem?_eq_getElem (by omega)]; rfl
    rw [e]; rfl
theorem txtN_cat {m : BS} {ids : List Int} (h : ∀ i ∈ ids, Has m.tk i) : txtN m ids ids.length = some (catB m ids) := by
  obtain ⟨t, h1, h2⟩ := txtN_all h ids.length (Nat.le_refl _)
  rw [List.drop_length] at h2
  have : catB m [] = ⟨#[]⟩ := rfl
  rw [this, app_bnil] at h2
  rw [h1, h2]
theorem fill_law {t : ByteArray} {m : BS} (ok : m.Ok) (h : ¬ m.size * (m.most - m.used) < t.size) : Filled m (fillN t m [] 0).1 (fillN t m [] 0).2 t := by
  obtain ⟨new, e, F⟩ := fillN_law t (t.size - 0) m [] 0 rfl (Nat.zero_le _) ok (by omega)
  rw [List.nil_append] at e
  rw [ext_full'] at F
  rw [e]; exact F
end Go.Proofs.Ytbekjbgaenjbfaa
namespace Go.Proofs.Ytbekjbgaenjbfaa
open Go Go.Fw Go.RowKit
set_option linter.unusedVariables false
set_option linter.unusedSimpArgs false
set_option maxRecDepth 100000
set_option maxHeartbeats 16000000
set_option synthInstance.maxHeartbeats 200000
set_option synthInstance.maxSize 100000
attribute [local irreducible] WPA WLA WDA WDQ WDE QQ seqQ blockQ loopQ fnQ OpP OpT Tr TrP SL SLd OwnS LitS Bk BkE Ob
attribute [local irreducible] vS keyS parL RowH CtsH
theorem CtsH.frozen {x : SV} {ms : List Ct} {R : Foot} (h : CtsH x ms R) : ∃ qs : List Pe, SlI R x Pe inferInstance qs ∧ qs.map Prod.snd = ms.map Prod.snd ∧ ∀ i : Nat, i < qs.length → SlI R (at_ qs (i : Int)).1 Int inferInstance (ms.getD i ([], 0)).1 := by
  unfold CtsH at h
  obtain ⟨qs, hq, R1, R2, h1, h2, rfl⟩ := h
  have hql : qs.length = ms.length := by have := congrArg List.length hq; simpa using this
  have s1 : SubI (R1 ++ R2) R1 := ⟨fun x hx => List.mem_append_left _ hx⟩
  have s2 : SubI (R1 ++ R2) R2 := ⟨fun x hx => List.mem_append_right _ hx⟩
  refine ⟨qs, (SlI.ofOwn h1).sub, hq, fun i hi => ?_⟩
  have h3 := RowH.frozen h2 i (by rw [List.length_map]; exact hi) (by rw [List.length_map]; omega)
  have e1 : (qs.map Prod.fst).getD i SV.nil = (at_ qs (i : Int)).1 := by rw [List.getD_eq_getElem?_getD, List.getElem?_map, List.getElem?_eq_getElem hi, at_nat qs i hi]; rfl
  have e2 : (ms.map Prod.fst).getD i [] = (ms.getD i ([], 0)).1 := by rw [List.getD_eq_getElem?_getD, List.getD_eq_getElem?_getD, List.getElem?_map, List.getElem?_eq_getElem (by omega)]; rfl
  rw [e1, e2] at h3
  exact h3.sub
def exM : List Ct := [([1, 2], 5), ([1, 3], 1)]
theorem exM_wrong : wrong 2 exM = 0 := by decide
theorem exM_size : (byS exM).size = 14 := by
  unfold exM
  rw [byS_cons, byS_cons, ByteArray.size_append, ByteArray.size_append, ByteArray.size_append, ByteArray.size_append, keyS_size, keyS_size, vS_lt (by decide), vS_lt (by decide)]; rfl
theorem live_tr19 (w0 : World) (I : Foot) (L : List HP) : Tr Try.prog 7 #[] (SL w0 I L) (fun _ : Unit => .bool true) (fun _ => SL w0 I L) := by
  refine Tr.intro Try.func7 rfl Try.ntmps7 rfl ?_
  have ok0 : (BS.mk 4 9 [] [] 0 0 0).Ok := BS.Ok.new (by decide) (by decide)
  have hroom : ¬ (BS.mk 4 9 [] [] 0 0 0).size * ((BS.mk 4 9 [] [] 0 0 0).most - (BS.mk 4 9 [] [] 0 0 0).used) < (byS exM).size := by rw [exM_size]; decide
  have F := fill_law ok0 hroom
  repeat' ((fail_if_success (guard_target =~ WPA _ _ _ (.region 3 _ _) _ _ _)); first | ((first | refine WLA.m rfl rfl ?_ ?_ | refine WLA.st rfl ?_ ?_ | refine WLA.x rfl rfl ?_ (fun x => ?_) | refine WLA.x0 rfl ?_ (fun x => ?_)); first | exact trivial | exact rfl | assumption | omega | (refine ⟨?_, ?_⟩ <;> omega) | (simp only [Room, List.length_set, List.length_append, List.length_cons, List.length_nil, List.length_replicate]; omega) | decide | skip) | (refine Stp.go ?_) | (guard_target =~ WLA _ _ _ _ _ (⟨_, .call ⟨.value (.func 8), _, _⟩, _, _, _, _⟩ :: _) _ _; first | (refine WLA.call rfl rfl (New_tr _ _ _ (by decide) (by decide)) ?_; rintro S) | (refine WLA.call0 rfl (New_tr _ _ _ (by decide) (by decide)) ?_; rintro S)) | (refine WPA.ifT ?_) | (refine WPA.ifF ?_) | ((first | refine WPA.dec ?_); first | refine .inl ⟨by first | assumption | omega | with_reducible rfl | (refine fun h => h ?_; first | assumption | with_reducible rfl) | (simp only [List.length_append, List.length_cons, List.length_nil, List.length_set] <;> omega) | decide, ?_⟩ | refine .inr ⟨by first | assumption | omega | with_reducible rfl | (refine fun h => h ?_; first | assumption | with_reducible rfl) | (simp only [List.length_append, List.length_cons, List.length_nil, List.length_set] <;> omega) | decide, ?_⟩) | ((first | refine WPA.ifBt ?_ ?_ | refine WPA.ifBnf ?_ ?_); assumption) | ((first | refine WPA.ifBnt ?_ ?_ | refine WPA.ifBf ?_ ?_); assumption) | ((first | refine WPA.ifs ?_ ?_ | refine WPA.ifB ?_ ?_) <;> intro hc))
  revert x; intro l
  revert x; intro g2
  revert x; intro g1
  refine WPA.ent (EntC.out (L' := LitS 67 l ([(g1, 5), (g2, 1)] : List Pe) :: LitS 3 g1 ([1, 2] : List Int) :: LitS 3 g2 ([1, 3] : List Int) :: StoreR S (BS.mk 4 9 [] [] 0 0 0) :: L)) ?_
  refine WPA.freeze fun R1 h1 => ?_
  refine WPA.freeze fun R2 h2 => ?_
  refine WPA.freeze fun R3 h3 => ?_
  have s1 : SlI (R3 ++ (R2 ++ (R1 ++ I))) l Pe inferInstance [(g1, 5), (g2, 1)] := by have := SlI.ofLit h1; infer_instance
  have s2 : SlI (R3 ++ (R2 ++ (R1 ++ I))) g1 Int inferInstance [1, 2] := by have := SlI.ofLit h2; infer_instance
  have s3 : SlI (R3 ++ (R2 ++ (R1 ++ I))) g2 Int inferInstance [1, 3] := by have := SlI.ofLit h3; infer_instance
  have hJ : I ⊆ R3 ++ (R2 ++ (R1 ++ I)) := fun z hz => List.mem_append_right _ (List.mem_append_right _ (List.mem_append_right _ hz))
  clear h1 h2 h3
  generalize R3 ++ (R2 ++ (R1 ++ I)) = J at s1 s2 s3 hJ
  refine WPA.rd s2 fun e1 => ?_
  refine WPA.rd s3 fun e2 => ?_
  have hms : ([(g1, 5), (g2, 1)] : List Pe).map (ctP (Go.Fw.rd Int J)) = exM := by simp only [List.map_cons, List.map_nil, ctP, e1, e2]; rfl
  have hg : GrG J (Go.Fw.rd Int J) [(g1, 5), (g2, 1)] := fun p hp => by
    rcases List.mem_cons.1 hp with rfl | hp
    · show SlI J g1 Int inferInstance (Go.Fw.rd Int J g1); rw [e1]; exact s2
    · rw [List.mem_singleton.1 hp]; show SlI J g2 Int inferInstance (Go.Fw.rd Int J g2); rw [e2]; exact s3
  have hgl : ∀ p ∈ ([(g1, 5), (g2, 1)] : List Pe), (Go.Fw.rd Int J p.1).length ≤ 1000 := fun p hp => by
    rcases List.mem_cons.1 hp with rfl | hp
    · show (Go.Fw.rd Int J g1).length ≤ 1000; rw [e1]; decide
    · rw [List.mem_singleton.1 hp]; show (Go.Fw.rd Int J g2).length ≤ 1000; rw [e2]; decide
  have he : (0 : Int) = errW 2 (([(g1, 5), (g2, 1)] : List Pe).map (ctP (Go.Fw.rd Int J))) (BS.mk 4 9 [] [] 0 0 0) := by rw [hms, errW_ok exM_wrong, if_neg hroom]
  have hx : WrX 2 (([(g1, 5), (g2, 1)] : List Pe).map (ctP (Go.Fw.rd Int J))) (BS.mk 4 9 [] [] 0 0 0) 0 2 2 (fillN (byS exM) (BS.mk 4 9 [] [] 0 0 0) [] 0).1 (fillN (byS exM) (BS.mk 4 9 [] [] 0 0 0) [] 0).2 := by rw [hms]; exact .inr ⟨rfl, rfl, rfl, rfl, rfl⟩
  generalize (fillN (byS exM) (BS.mk 4 9 [] [] 0 0 0) [] 0).1 = m' at F hx
  generalize (fillN (byS exM) (BS.mk 4 9 [] [] 0 0 0) [] 0).2 = ids at F hx
  have hnum := F.num
  rw [exM_size] at hnum
  dsimp only at hnum
  have hidl : (ids.length : Int) = 4 := by omega
  have hus : m'.used = 4 := by have := F.used; dsimp only at this; omega
  have hrs : readS 2 2 (byS exM) = some exM := readS_back exM_wrong
  have htx := txtN_cat fun i hi => (F.has i hi).1
  rw [F.cat] at htx
  repeat' ((fail_if_success (guard_target =~ WPA _ _ _ (.region 4 _ _) _ _ _)); first | ((first | refine WLA.m rfl rfl ?_ ?_ | refine WLA.st rfl ?_ ?_ | refine WLA.x rfl rfl ?_ (fun x => ?_) | refine WLA.x0 rfl ?_ (fun x => ?_)); first | exact trivial | exact rfl | assumption | omega | (refine ⟨?_, ?_⟩ <;> omega) | (simp only [Room, List.length_set, List.length_append, List.length_cons, List.length_nil, List.length_replicate]; omega) | decide | skip) | (refine Stp.go ?_) | (guard_target =~ WLA _ _ _ _ _ (⟨_, .call ⟨.value (.func 18), _, _⟩, _, _, _, _⟩ :: _) _ _; first | (refine WLA.call rfl rfl (runWrite_tr ok0 s1 hg hgl (by simp) he hx) ?_; rintro r) | (refine WLA.call0 rfl (runWrite_tr ok0 s1 hg hgl (by simp) he hx) ?_; rintro r)) | (refine WPA.ifT ?_) | (refine WPA.ifF ?_) | ((first | refine WPA.dec ?_); first | refine .inl ⟨by first | assumption | omega | with_reducible rfl | (refine fun h => h ?_; first | assumption | with_reducible rfl) | (simp only [List.length_append, List.length_cons, List.length_nil, List.length_set] <;> omega) | decide, ?_⟩ | refine .inr ⟨by first | assumption | omega | with_reducible rfl | (refine fun h => h ?_; first | assumption | with_reducible rfl) | (simp only [List.length_append, List.length_cons, List.length_nil, List.length_set] <;> omega) | decide, ?_⟩) | ((first | refine WPA.ifBt ?_ ?_ | refine WPA.ifBnf ?_ ?_); assumption) | ((first | refine WPA.ifBnt ?_ ?_ | refine WPA.ifBf ?_ ?_); assumption) | ((first | refine WPA.ifs ?_ ?_ | refine WPA.ifB ?_ ?_) <;> intro hc))
  revert x; intro X
  refine WPA.ent (EntC.out (L' := OwnS 3 r ids :: Bk X 25 [.int .i64 2, .int .i64 2, .slice r.a r.n r.cap] :: StoreR S m' :: L)) ?_
  refine WPA.freeze fun R4 h4 => ?_
  have s4 : SlI (R4 ++ J) r Int inferInstance ids := by have := SlI.ofOwn h4; infer_instance
  have hJ2 : I ⊆ R4 ++ J := fun z hz => List.mem_append_right _ (hJ hz)
  have s1 : SlI (R4 ++ J) l Pe inferInstance [(g1, 5), (g2, 1)] := inferInstance
  have s2 : SlI (R4 ++ J) g1 Int inferInstance [1, 2] := inferInstance
  have s3 : SlI (R4 ++ J) g2 Int inferInstance [1, 3] := inferInstance
  clear h4 hg hgl he hx hms
  generalize R4 ++ J = K at s1 s2 s3 s4 hJ2
  repeat' ((fail_if_success (guard_target =~ WPA _ _ _ (.region 5 _ _) _ _ _)); first | ((first | refine WLA.m rfl rfl ?_ ?_ | refine WLA.st rfl ?_ ?_ | refine WLA.x rfl rfl ?_ (fun x => ?_) | refine WLA.x0 rfl ?_ (fun x => ?_)); first | exact trivial | exact rfl | assumption | omega | (refine ⟨?_, ?_⟩ <;> omega) | (simp only [Room, List.length_set, List.length_append, List.length_cons, List.length_nil, List.length_replicate]; omega) | decide | skip) | (refine Stp.go ?_) | (guard_target =~ WLA _ _ _ _ _ (⟨_, .call ⟨.value (.func 13), _, _⟩, _, _, _, _⟩ :: _) _ _; first | (refine WLA.call rfl rfl (runRead_tr (o := 2) (n := 2) (by decide) s4 F.ok.lens (F.txb TxB.new) (by omega) htx hrs) ?_; rintro x; rw [show (some exM).getD [] = exM from rfl]) | (refine WLA.call0 rfl (runRead_tr (o := 2) (n := 2) (by decide) s4 F.ok.lens (F.txb TxB.new) (by omega) htx hrs) ?_; rintro x; rw [show (some exM).getD [] = exM from rfl])) | (refine WPA.ifT ?_) | (refine WPA.ifF ?_) | ((first | refine WPA.dec ?_); first | refine .inl ⟨by first | assumption | omega | with_reducible rfl | (refine fun h => h ?_; first | assumption | with_reducible rfl) | (simp only [List.length_append, List.length_cons, List.length_nil, List.length_set] <;> omega) | decide, ?_⟩ | refine .inr ⟨by first | assumption | omega | with_reducible rfl | (refine fun h => h ?_; first | assumption | with_reducible rfl) | (simp only [List.length_append, List.length_cons, List.length_nil, List.length_set] <;> omega) | decide, ?_⟩) | ((first | refine WPA.ifBt ?_ ?_ | refine WPA.ifBnf ?_ ?_); assumption) | ((first | refine WPA.ifBnt ?_ ?_ | refine WPA.ifBf ?_ ?_); assumption) | ((first | refine WPA.ifs ?_ ?_ | refine WPA.ifB ?_ ?_) <;> intro hc))
  refine WPA.ent (EntC.out (L' := CtsH x exM :: Bk X 25 [.int .i64 2, .int .i64 2, .slice r.a r.n r.cap] :: StoreR S m' :: L)) ?_
  refine WPA.freeze fun R5 h5 => ?_
  obtain ⟨qs, q1, q2, q3⟩ := h5.frozen
  have hJ3 : I ⊆ R5 ++ K := fun z hz => List.mem_append_right _ (hJ2 hz)
  have sx : SlI (R5 ++ K) x Pe inferInstance qs := inferInstance
  have sg : ∀ i : Nat, i < qs.length → SlI (R5 ++ K) (at_ qs (i : Int)).1 Int inferInstance (exM.getD i ([], 0)).1 := fun i hi => by have := q3 i hi; infer_instance
  have sr : SlI (R5 ++ K) r Int inferInstance ids := inferInstance
  have s1 : SlI (R5 ++ K) l Pe inferInstance [(g1, 5), (g2, 1)] := inferInstance
  have s2 : SlI (R5 ++ K) g1 Int inferInstance [1, 2] := inferInstance
  have s3 : SlI (R5 ++ K) g2 Int inferInstance [1, 3] := inferInstance
  clear h5 q1 q3
  generalize R5 ++ K = M at sx sg sr s1 s2 s3 hJ3
  have sl : ∀ i : Nat, i < ([(g1, 5), (g2, 1)] : List Pe).length → SlI M (at_ ([(g1, 5), (g2, 1)] : List Pe) (i : Int)).1 Int inferInstance (exM.getD i ([], 0)).1 := fun i hi => by
    rcases (show i = 0 ∨ i = 1 by simp at hi; omega) with rfl | rfl
    · exact s2
    · exact s3
  have hsame : ∀ {L : List HP}, TrP Try.prog 16 #[.slice x.a x.n x.cap, .slice l.a l.n l.cap] (SL w0 M L) (.bool true) := fun {L} => by
    have := Same_tr (w0 := w0) (I := M) (L := L) (a := x) (b := l) (cs := qs) (ds := [(g1, 5), (g2, 1)]) (ms := exM) (ns := exM) q2 rfl (fun i hi => by have := sg i hi; exact RdS.imm) (fun i hi => by have := sl i hi; exact RdS.imm) (by decide) (by decide)
    rw [decide_eq_true rfl] at this
    exact this
  repeat' (first | ((rw [hus])) | ((first | refine WLA.m rfl rfl ?_ ?_ | refine WLA.st rfl ?_ ?_ | refine WLA.x rfl rfl ?_ (fun x => ?_) | refine WLA.x0 rfl ?_ (fun x => ?_)); first | exact trivial | exact rfl | assumption | omega | (refine ⟨?_, ?_⟩ <;> omega) | (simp only [Room, List.length_set, List.length_append, List.length_cons, List.length_nil, List.length_replicate]; omega) | decide | skip) | (refine Stp.go ?_) | (guard_target =~ WLA _ _ _ _ _ (⟨_, .call ⟨.value (.func 22), _, _⟩, _, _, _, _⟩ :: _) _ _; refine WLA.cq rfl rfl (Used_tr) ?_) | (guard_target =~ WLA _ _ _ _ _ (⟨_, .call ⟨.value (.func 16), _, _⟩, _, _, _, _⟩ :: _) _ _; refine WLA.cq rfl rfl (hsame) ?_) | (refine WPA.ifT ?_) | (refine WPA.ifF ?_) | (refine WLA.no rfl rfl ?_) | ((first | refine WPA.dec ?_ | ((fail_if_success (guard_target =~ WLA _ _ _ _ _ _ (put1 _ _ (.bool true)) _)); (fail_if_success (guard_target =~ WLA _ _ _ _ _ _ (put1 _ _ (.bool false)) _)); refine WLA.dec rfl rfl ?_) | refine WLA.pk ?_); first | refine .inl ⟨by first | assumption | omega | with_reducible rfl | (refine fun h => h ?_; first | assumption | with_reducible rfl) | (simp only [List.length_append, List.length_cons, List.length_nil, List.length_set] <;> omega) | decide, ?_⟩ | refine .inr ⟨by first | assumption | omega | with_reducible rfl | (refine fun h => h ?_; first | assumption | with_reducible rfl) | (simp only [List.length_append, List.length_cons, List.length_nil, List.length_set] <;> omega) | decide, ?_⟩) | ((first | refine WPA.ifBt ?_ ?_ | refine WPA.ifBnf ?_ ?_); assumption) | ((first | refine WPA.ifBnt ?_ ?_ | refine WPA.ifBf ?_ ?_); assumption) | ((first | refine WPA.ifs ?_ ?_ | refine WPA.ifB ?_ ?_) <;> intro hc) | ((fail_if_success (guard_target =~ WLA _ _ _ _ _ _ (put1 _ _ (.bool true)) _)); (fail_if_success (guard_target =~ WLA _ _ _ _ _ _ (put1 _ _ (.bool false)) _)); (first | refine WLA.both rfl rfl ?_ ?_ | refine WLA.bothB rfl rfl ?_ ?_) <;> intro hg))
  exact QQ.end_ rfl () rfl fun w h => (h.to : SL w0 M L w).sub hJ3
end Go.Proofs.Ytbekjbgaenjbfaa
