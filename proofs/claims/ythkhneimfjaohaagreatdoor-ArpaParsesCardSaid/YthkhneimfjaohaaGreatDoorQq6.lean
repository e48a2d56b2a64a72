/- Texts that ArpaParses_law leans on, part 6. Conditions: none. -/
import Derived.Test.YthkhneimfjaohaaGreatDoorQq5
namespace Go.Proofs.YthkhneimfjaohaaGreatDoor
open Go Go.Fw Go.RowKit
set_option linter.unusedVariables false
set_option linter.unusedSimpArgs false
set_option maxRecDepth 100000
set_option maxHeartbeats 16000000
set_option synthInstance.maxHeartbeats 200000
set_option synthInstance.maxSize 100000
attribute [local irreducible] WPA WLA WDA WDQ WDE QQ seqQ blockQ loopQ fnQ OpP OpT Tr TrP SL SLd OwnS LitS Bk BkE Ob
section
variable {L L' : List HP} {w0 : World} {I : Foot} {T : Nat} {texts : List ByteArray}
theorem TPut_tr {s : ByteArray} [h : FindK L TblH T texts L'] (hs : s.size ≤ 140737488355328) (hfew : texts.length < 1000000000) : Tr Tryz.prog 62 #[.pointer (some ⟨T, 0, none⟩), .string s] (SL w0 I L) (fun _ : Unit => .tuple #[.int .i64 (findT (putT texts s) s), .bool (decide (findT texts s < 0))])
    (fun _ => SL w0 I (TblH T (putT texts s) :: L')) := by
  rw [putT_find]
  refine Tr.at h.out (Tr.opn ?_)
  rintro ⟨⟨vt, sa, sl, B⟩, tb⟩
  dsimp only at tb ⊢
  obtain ⟨k, hk1, hk2⟩ := tb.pow
  obtain ⟨hp, hp2⟩ := len_of hk1 hk2 tb.few
  have hn := tb.few
  have hroom := tb.room
  have hp3 : k + 3 ≤ 40 := by omega
  have hn' : texts.length ≤ 2147483647 := by omega
  have hrng := tb.good.range
  have hl2 := i32s_len sl
  have hm8 : 8 ≤ sl.length := by rw [hk1]; have := Nat.pow_pos (n := k) (show 0 < 2 by omega); omega
  have hm9 : sl.length ≤ 34359738368 := by
    have : 2 ^ (k + 3) ≤ 2 ^ 35 := Nat.pow_le_pow_right (by omega) hp2
    omega
  by_cases hf : findT texts s < 0
  · rw [if_pos hf, decide_eq_true hf]
    have hns := (findT_none _ _).1 hf
    have hput : putT texts s = texts ++ [s] := by unfold putT; rw [if_pos hf]
    rw [hput]
    have hsm2 : ∀ u ∈ texts ++ [s], u.size ≤ 140737488355328 := by
      intro u hu
      rcases List.mem_append.1 hu with hu | hu
      · exact tb.small u hu
      · rw [List.mem_singleton.1 hu]; exact hs
    have hlen2 : (texts ++ [s]).length = texts.length + 1 := by simp
    obtain ⟨f, d, hf1, hr2, hr3⟩ := tb.good.free (by omega) hns
    have g' := tb.good.insert hns hr2 hr3
    have hr := pos_lt tb.good.some_ (start sl s) d
    generalize pos sl.length (start sl s) d = r at hf1 hr2 g' hr
    have hx := i32s_at sl r
    have hz0 : ¬ ofK (at_ (i32s sl) (r : Int)) ≠ 0 := fun h => h (by have := hx; unfold slv at this; rw [this]; exact hr2)
    have hw : IntKind.i32.wrap ((texts.length : Int) + 1) = (texts.length : Int) + 1 := wrap_i32 (by omega)
    by_cases hgr : (sl.length : Int) < 2 * ((texts.length : Int) + 1)
    · have hgr' : ((i32s sl).length : Int) < 2 * ((texts.length : Int) + 1) := hgr
      have hpg : k + 3 ≤ 39 := by omega
      have hfg : texts.length < 2 * sl.length := by omega
      refine Tr.intro Tryz.func62 rfl Tryz.ntmps62 rfl ?_
      repeat' ((fail_if_success (guard_target =~ WPA _ _ _ (.region 9 _ _) _ _ _)); first | ((first | refine WLA.m rfl rfl ?_ ?_ | refine WDQ.m rfl rfl ?_ ?_ | refine WLA.st rfl ?_ ?_ | refine WLA.x rfl rfl ?_ (fun x => ?_) | refine WLA.x0 rfl ?_ (fun x => ?_)); first | exact sdT | skip) | (refine Stp.go ?_) | (guard_target =~ WLA _ _ _ _ _ (⟨_, .call ⟨.value (.func 82), _, _⟩, _, _, _, _⟩ :: _) _ _; refine WLA.cq rfl rfl (place_tr hp hp3 hrng hn' hs hf1) ?_) | (guard_target =~ WLA _ _ _ _ _ (⟨_, .call ⟨.value (.func 83), _, _⟩, _, _, _, _⟩ :: _) _ _; refine WLA.call rfl rfl (grow_tr hp hpg tb.good.nodup hfg tb.few tb.small) ?_; rintro ⟨na, s2⟩; refine WLA.pure fun hg2 => ?_; dsimp only at hg2 ⊢) | (refine WPA.ifT ?_) | (refine WPA.ifF ?_) | ((first | refine WPA.dec ?_); first | refine orL ?_ | refine orR ?_) | ((first | refine WPA.ifBt ?_ ?_ | refine WPA.ifBnf ?_ ?_); assumption) | ((first | refine WPA.ifBnt ?_ ?_ | refine WPA.ifBf ?_ ?_); assumption) | ((first | refine WPA.ifs ?_ ?_ | refine WPA.ifB ?_ ?_) <;> intro hc) | (guard_target =~ WPA _ _ _ (.region 7 _ true) _ _ _; refine WPA.drawT 13 (.q 0 (.q 1 (.q 2 (.q 3 (.q 4 (.q 5 (.q 6 (.q 7 (.q 8 (.q 9 (.q 10 (.q 11 (.q 12 .fin))))))))))))) mixed ?_ ?_; kernel_rfl) | (guard_target =~ WPA _ _ _ (.region 8 _ true) _ _ _; refine WPA.drawT 8 (.q 0 (.q 1 (.q 2 (.q 3 (.q 4 (.q 5 (.q 6 (.q 7 .fin)))))))) mixed ?_ ?_; kernel_rfl) | (refine WDA.finish (tl := [⟨_, _, _, _, _, _⟩]) rfl ?_) | (refine WDQ.see rfl ?_) | (guard_target =~ WDQ _ _ _ _ _ _ _ ⟨_, .call ⟨.value (.func 82), _, _⟩, _, _, _, _⟩ _ _ _; refine WDQ.cq rfl rfl (place_tr hp hp3 hrng hn' hs hf1) ?_) | (guard_target =~ WDE _ _ _ _ _ _ _ ⟨_, .call ⟨.value (.func 83), _, _⟩, _, _, _, _⟩ _ _ _; refine WDE.call rfl rfl (grow_tr hp hpg tb.good.nodup hfg tb.few tb.small) ?_ ?_; (intro x w h; first | exact h | exact Ent.drop1.sl h | exact SL.unI h | exact SL.to h); rintro ⟨na, s2⟩; refine WLA.pure fun hg2 => ?_; dsimp only at hg2 ⊢) | (guard_target =~ WDW _ _ _ _ _ _ _ ⟨_, .call ⟨.value (.func 83), _, _⟩, _, _, _, _⟩ _ _ _; refine WDW.call rfl rfl (grow_tr hp hpg tb.good.nodup hfg tb.few tb.small) ?_; rintro ⟨na, s2⟩; refine WLA.pure fun hg2 => ?_; dsimp only at hg2 ⊢))
      obtain ⟨hl3, g2⟩ := hg2
      obtain ⟨f2, d2, hf2, hr4, hr5⟩ := g2.free (by omega) hns
      have g3 := g2.insert hns hr4 hr5
      have hr6 := pos_lt g2.some_ (start s2 s) d2
      generalize pos s2.length (start s2 s) d2 = r2 at hf2 hr4 g3 hr6
      have hp4 : s2.length = 2 ^ (k + 4) := by rw [hl3, hp, Nat.pow_succ 2 (k + 3)]; omega
      have hp5 : k + 4 ≤ 40 := by omega
      have hrng2 := g2.range
      have hl4 := i32s_len s2
      repeat' (first | ((first | refine WLA.m rfl rfl ?_ ?_ | refine WDQ.m rfl rfl ?_ ?_ | refine WLA.st rfl ?_ ?_ | refine WLA.x rfl rfl ?_ (fun x => ?_) | refine WLA.x0 rfl ?_ (fun x => ?_)); first | exact sdT | skip) | (refine Stp.go ?_) | (guard_target =~ WLA _ _ _ _ _ (⟨_, .call ⟨.value (.func 82), _, _⟩, _, _, _, _⟩ :: _) _ _; refine WLA.cq rfl rfl (place_tr hp4 hp5 hrng2 hn' hs hf2) ?_) | (refine WPA.ifT ?_) | (refine WPA.ifF ?_) | ((first | refine WPA.dec ?_); first | refine orL ?_ | refine orR ?_) | ((first | refine WPA.ifBt ?_ ?_ | refine WPA.ifBnf ?_ ?_); assumption) | ((first | refine WPA.ifBnt ?_ ?_ | refine WPA.ifBf ?_ ?_); assumption) | ((first | refine WPA.ifs ?_ ?_ | refine WPA.ifB ?_ ?_) <;> intro hc) | (guard_target =~ WPA _ _ _ (.region 7 _ true) _ _ _; refine WPA.drawT 13 (.q 0 (.q 1 (.q 2 (.q 3 (.q 4 (.q 5 (.q 6 (.q 7 (.q 8 (.q 9 (.q 10 (.q 11 (.q 12 .fin))))))))))))) mixed ?_ ?_; kernel_rfl) | (guard_target =~ WPA _ _ _ (.region 8 _ true) _ _ _; refine WPA.drawT 8 (.q 0 (.q 1 (.q 2 (.q 3 (.q 4 (.q 5 (.q 6 (.q 7 .fin)))))))) mixed ?_ ?_; kernel_rfl) | (guard_target =~ WPA _ _ _ (.region 11 _ true) _ _ _; refine WPA.drawT 12 (.q 0 (.q 1 (.q 2 (.q 3 (.q 4 (.q 5 (.q 6 (.q 7 (.q 8 (.q 9 (.q 10 (.q 11 .fin)))))))))))) mixed ?_ ?_; kernel_rfl) | (refine WDA.finish (tl := [⟨_, _, _, _, _, _⟩]) rfl ?_) | (refine WDA.finish (tl := [⟨_, _, _, _, _, _⟩, ⟨_, _, _, _, _, _⟩]) rfl ?_) | (refine WDQ.see rfl ?_) | (guard_target =~ WDQ _ _ _ _ _ _ _ ⟨_, .call ⟨.value (.func 82), _, _⟩, _, _, _, _⟩ _ _ _; refine WDQ.cq rfl rfl (place_tr hp4 hp5 hrng2 hn' hs hf2) ?_))
      refine QQ.end_ rfl () (by simp) fun w h => ?_
      have e : (i32s s2).set (r2 : Int).toNat (toK .i32 ((texts ++ [s]).length : Int)) = i32s (s2.set r2 ((texts.length : Int) + 1)) := by rw [hlen2]; rfl
      rw [e] at h
      have hg : TblG (texts ++ [s]) (s2.set r2 ((texts.length : Int) + 1)) := ⟨g3, ⟨k + 1, by rw [List.length_set, hl3, hk1, Nat.pow_succ]; omega, .inr (by rw [List.length_set, hlen2]; omega)⟩, by rw [List.length_set, hlen2]; omega, by omega, hsm2⟩
      exact (TblH.fold (vt := x) (sa := na) (B := B) hg).sl h.to
    · have hgr' : ¬ ((i32s sl).length : Int) < 2 * ((texts.length : Int) + 1) := hgr
      refine Tr.intro Tryz.func62 rfl Tryz.ntmps62 rfl ?_
      repeat' (first | ((first | refine WLA.m rfl rfl ?_ ?_ | refine WDQ.m rfl rfl ?_ ?_ | refine WLA.st rfl ?_ ?_ | refine WLA.x rfl rfl ?_ (fun x => ?_) | refine WLA.x0 rfl ?_ (fun x => ?_)); first | exact sdT | skip) | (refine Stp.go ?_) | (guard_target =~ WLA _ _ _ _ _ (⟨_, .call ⟨.value (.func 82), _, _⟩, _, _, _, _⟩ :: _) _ _; refine WLA.cq rfl rfl (place_tr hp hp3 hrng hn' hs hf1) ?_) | (refine WPA.ifT ?_) | (refine WPA.ifF ?_) | ((first | refine WPA.dec ?_); first | refine orL ?_ | refine orR ?_) | ((first | refine WPA.ifBt ?_ ?_ | refine WPA.ifBnf ?_ ?_); assumption) | ((first | refine WPA.ifBnt ?_ ?_ | refine WPA.ifBf ?_ ?_); assumption) | ((first | refine WPA.ifs ?_ ?_ | refine WPA.ifB ?_ ?_) <;> intro hc) | (guard_target =~ WPA _ _ _ (.region 7 _ true) _ _ _; refine WPA.drawT 13 (.q 0 (.q 1 (.q 2 (.q 3 (.q 4 (.q 5 (.q 6 (.q 7 (.q 8 (.q 9 (.q 10 (.q 11 (.q 12 .fin))))))))))))) mixed ?_ ?_; kernel_rfl) | (guard_target =~ WPA _ _ _ (.region 8 _ true) _ _ _; refine WPA.drawT 8 (.q 0 (.q 1 (.q 2 (.q 3 (.q 4 (.q 5 (.q 6 (.q 7 .fin)))))))) mixed ?_ ?_; kernel_rfl) | (guard_target =~ WPA _ _ _ (.region 11 _ true) _ _ _; refine WPA.drawT 12 (.q 0 (.q 1 (.q 2 (.q 3 (.q 4 (.q 5 (.q 6 (.q 7 (.q 8 (.q 9 (.q 10 (.q 11 .fin)))))))))))) mixed ?_ ?_; kernel_rfl) | (refine WDA.finish (tl := [⟨_, _, _, _, _, _⟩]) rfl ?_) | (refine WDA.finish (tl := [⟨_, _, _, _, _, _⟩, ⟨_, _, _, _, _, _⟩]) rfl ?_) | (refine WDQ.see rfl ?_) | (guard_target =~ WDQ _ _ _ _ _ _ _ ⟨_, .call ⟨.value (.func 82), _, _⟩, _, _, _, _⟩ _ _ _; refine WDQ.cq rfl rfl (place_tr hp hp3 hrng hn' hs hf1) ?_))
      refine QQ.end_ rfl () (by simp) fun w h => ?_
      have e : (i32s sl).set (r : Int).toNat (toK .i32 ((texts ++ [s]).length : Int)) = i32s (sl.set r ((texts.length : Int) + 1)) := by rw [hlen2]; rfl
      rw [e] at h
      have hg : TblG (texts ++ [s]) (sl.set r ((texts.length : Int) + 1)) := ⟨g', ⟨k, by rw [List.length_set]; exact hk1, hk2.elim .inl fun h => .inr (by rw [List.length_set, hlen2]; omega)⟩, by rw [List.length_set, hlen2]; omega, by omega, hsm2⟩
      exact (TblH.fold (vt := x) (sa := sa) (B := B) hg).sl h.to
  · rw [if_neg hf, decide_eq_false hf]
    have hput : putT texts s = texts := by unfold putT; rw [if_neg hf]
    rw [hput]
    obtain ⟨j, hj⟩ : ∃ j : Nat, findT texts s = j := ⟨(findT texts s).toNat, by have := findT_range texts s; omega⟩
    obtain ⟨hjl, rfl⟩ := findT_some _ _ _ hj
    obtain ⟨f, r, hf1, hr, hr2⟩ := tb.good.found hjl
    have hx := i32s_at sl r
    rw [hr2] at hx
    have hz0 : ofK (at_ (i32s sl) (r : Int)) ≠ 0 := by have := hx; unfold slv at this; rw [this]; omega
    have hw : -9223372036854775808 ≤ ofK (at_ (i32s sl) (r : Int)) ∧ ofK (at_ (i32s sl) (r : Int)) ≤ 9223372036854775807 := by have := hx; unfold slv at this; rw [this]; omega
    have hw2 : -9223372036854775808 ≤ ofK (at_ (i32s sl) (r : Int)) - 1 ∧ ofK (at_ (i32s sl) (r : Int)) - 1 ≤ 9223372036854775807 := by have := hx; unfold slv at this; rw [this]; omega
    refine Tr.intro Tryz.func62 rfl Tryz.ntmps62 rfl ?_
    repeat' (first | ((first | refine WLA.m rfl rfl ?_ ?_ | refine WLA.st rfl ?_ ?_ | refine WLA.x rfl rfl ?_ (fun x => ?_) | refine WLA.x0 rfl ?_ (fun x => ?_)); first | exact sdT | skip) | (refine Stp.go ?_) | (guard_target =~ WLA _ _ _ _ _ (⟨_, .call ⟨.value (.func 82), _, _⟩, _, _, _, _⟩ :: _) _ _; refine WLA.cq rfl rfl (place_tr hp hp3 hrng hn' hs hf1) ?_) | (refine WPA.ifT ?_) | (refine WPA.ifF ?_) | ((first | refine WPA.dec ?_); first | refine orL ?_ | refine orR ?_) | ((first | refine WPA.ifBt ?_ ?_ | refine WPA.ifBnf ?_ ?_); assumption) | ((first | refine WPA.ifBnt ?_ ?_ | refine WPA.ifBf ?_ ?_); assumption) | ((first | refine WPA.ifs ?_ ?_ | refine WPA.ifB ?_ ?_) <;> intro hc))
    refine QQ.end_ rfl () ?_ fun w h => (TblH.fold (vt := vt) (sa := sa) (B := B) tb).sl h.to
    have := hx
    unfold slv at this
    rw [this, hj]
    simp
end
end Go.Proofs.YthkhneimfjaohaaGreatDoor
namespace Go.Proofs.YthkhneimfjaohaaGreatDoor
open Go Go.Fw Go.RowKit
set_option linter.unusedVariables false
set_option linter.unusedSimpArgs false
set_option maxRecDepth 100000
set_option maxHeartbeats 16000000
set_option synthInstance.maxHeartbeats 200000
set_option synthInstance.maxSize 100000
attribute [local irreducible] WPA WLA WDA WDQ WDE QQ seqQ blockQ loopQ fnQ OpP OpT Tr TrP SL SLd OwnS LitS Bk BkE Ob
def Fz (k : Nat) (p : HP) : HP := p
attribute [local irreducible] Fz
section
variable {L L' : List HP} {w0 : World} {I : Foot} {T : Nat} {texts : List ByteArray}
theorem TAll_tr {v : Value} [CellsV v [v]] : Tr Tryz.prog 79 #[v] (SL w0 I L) (fun b : Nat => .func (.func 98) #[] #[.pointer (some ⟨b, 0, none⟩)]) (fun b => SL w0 I (Bk b 114 [v] :: L)) := by
  refine Tr.intro Tryz.func79 rfl Tryz.ntmps79 rfl ?_
  repeat' (first | ((first | refine WLA.m rfl rfl ?_ ?_ | refine WLA.st rfl ?_ ?_ | refine WLA.x rfl rfl ?_ (fun x => ?_) | refine WLA.x0 rfl ?_ (fun x => ?_)); first | exact sdT | skip) | (refine Stp.go ?_) | (refine WPA.ifT ?_) | (refine WPA.ifF ?_) | ((first | refine WPA.dec ?_); first | refine orL ?_ | refine orR ?_) | ((first | refine WPA.ifBt ?_ ?_ | refine WPA.ifBnf ?_ ?_); assumption) | ((first | refine WPA.ifBnt ?_ ?_ | refine WPA.ifBf ?_ ?_); assumption) | ((first | refine WPA.ifs ?_ ?_ | refine WPA.ifB ?_ ?_) <;> intro hc))
  exact QQ.end_ rfl _ rfl fun w h => h.to
def TblP (T : Nat) (texts : List ByteArray) (vt sa : SV) (sl : List Int) (B : Nat) : HP := star (Bk T 137 (tbC vt sa B)) (star (OwnS 9 vt texts) (star (OwnS 21 sa (i32s sl)) (Bk B 114 [.pointer (some ⟨T, 0, none⟩)])))
theorem TblP.close {vt sa : SV} {sl : List Int} {B : Nat} : Ent (Bk T 137 (tbC vt sa B) :: OwnS 9 vt texts :: OwnS 21 sa (i32s sl) :: Bk B 114 [.pointer (some ⟨T, 0, none⟩)] :: L) (Fz T (TblP T texts vt sa sl B) :: L) := by
  unfold Fz
  exact Ent.star (Ent.trans (Ent.cons (Ent.trans (Ent.cons (Ent.star Ent.refl)) (Ent.star Ent.refl))) (Ent.cons Ent.refl))
theorem TblP.open {vt sa : SV} {sl : List Int} {B : Nat} : Ent (Fz T (TblP T texts vt sa sl B) :: L) (Bk T 137 (tbC vt sa B) :: OwnS 9 vt texts :: OwnS 21 sa (i32s sl) :: Bk B 114 [.pointer (some ⟨T, 0, none⟩)] :: L) := by
  unfold Fz
  exact Ent.unstar.trans (Ent.cons (Ent.unstar.trans (Ent.cons Ent.unstar)))
theorem TAll1_tr {Bx lb : Nat} {τ ω : Type} (Lk : τ → List HP) (ix : τ → Nat) (C : τ → Prop) (Bz : ω → World → Prop) (hn : texts.length ≤ 1000000000)
    (hy : ∀ (p : HP) (x : τ), C x → ix x < texts.length → YTr Tryz.prog lb #[.int .i64 (ix x), .string (at_ texts (ix x : Int))] (SL w0 I (Fz T p :: Bk Bx 114 [.pointer (some ⟨T, 0, none⟩)] :: Lk x)) (fun y : τ ⊕ ω => .bool y.isLeft)
      (fun y w => match y with | .inl x' => (C x' ∧ ix x' = ix x + 1) ∧ SL w0 I (Fz T p :: Bk Bx 114 [.pointer (some ⟨T, 0, none⟩)] :: Lk x') w | .inr z => Bz z w))
    (x0 : τ) (hC : C x0) (h0 : ix x0 = 0) (hix : ∀ x, C x → ix x ≤ texts.length) :
    Tr Tryz.prog 98 #[.func (.yield lb) #[] #[], .pointer (some ⟨Bx, 0, none⟩)] (SL w0 I (TblH T texts :: Bk Bx 114 [.pointer (some ⟨T, 0, none⟩)] :: Lk x0)) (fun _ : τ ⊕ ω => .tuple #[])
      (fun y w => match y with | .inl x' => (C x' ∧ ix x' = texts.length) ∧ SL w0 I (TblH T texts :: Bk Bx 114 [.pointer (some ⟨T, 0, none⟩)] :: Lk x') w | .inr z => Bz z w) := by
  refine Tr.at (Ent.refl) (Tr.opn ?_)
  rintro ⟨⟨vt, sa, sl, B⟩, tb⟩
  dsimp only at tb ⊢
  refine Tr.intro Tryz.func98 rfl Tryz.ntmps98 rfl ?_
  repeat' (first | ((first | refine WLA.m rfl rfl ?_ ?_ | refine WLA.st rfl ?_ ?_ | refine WLA.x rfl rfl ?_ (fun x => ?_) | refine WLA.x0 rfl ?_ (fun x => ?_)); first | exact sdT | skip) | (refine Stp.go ?_) | (refine WPA.ifT ?_) | (refine WPA.ifF ?_) | ((first | refine WPA.dec ?_); first | refine orL ?_ | refine orR ?_) | ((first | refine WPA.ifBt ?_ ?_ | refine WPA.ifBnf ?_ ?_); assumption) | ((first | refine WPA.ifBnt ?_ ?_ | refine WPA.ifBf ?_ ?_); assumption) | ((first | refine WPA.ifs ?_ ?_ | refine WPA.ifB ?_ ?_) <;> intro hc))
  refine WPA.loopS (σ := τ) (fun x => [(0, .func (.yield lb) #[] #[]), (10, .slice vt.a vt.n vt.cap), (11, .int .i64 texts.length), (12, .int .i64 (ix x))]) C
    (fun x => SL w0 I (Fz T (TblP T texts vt sa sl B) :: Bk Bx 114 [.pointer (some ⟨T, 0, none⟩)] :: Lk x)) (fun x => texts.length - ix x) x0 ⟨rfl, rfl, rfl, by rw [h0]; rfl, trivial⟩ hC (fun w h => TblP.close.sl h) ?_
  intro x ρ hCx
  have hxl := hix x hCx
  by_cases hlt : ix x < texts.length
  · have hlt' : (ix x : Int) < texts.length := by omega
    refine WPA.ent TblP.open ?_
    repeat' ((fail_if_success (guard_target =~ WPA _ _ _ (.region 4 _ _) _ _ _)); first | ((first | refine WLA.m rfl rfl ?_ ?_ | refine WLA.st rfl ?_ ?_ | refine WLA.x rfl rfl ?_ (fun x => ?_) | refine WLA.x0 rfl ?_ (fun x => ?_)); first | exact sdT | skip) | (refine Stp.go ?_) | (refine WPA.ifT ?_) | (refine WPA.ifF ?_) | ((first | refine WPA.dec ?_); first | refine orL ?_ | refine orR ?_) | ((first | refine WPA.ifBt ?_ ?_ | refine WPA.ifBnf ?_ ?_); assumption) | ((first | refine WPA.ifBnt ?_ ?_ | refine WPA.ifBf ?_ ?_); assumption) | ((first | refine WPA.ifs ?_ ?_ | refine WPA.ifB ?_ ?_) <;> intro hc))
    refine WPA.ent TblP.close ?_
    repeat' (first | ((first | refine WLA.m rfl rfl ?_ ?_ | refine WLA.st rfl ?_ ?_ | refine WLA.x rfl rfl ?_ (fun x => ?_) | refine WLA.x0 rfl ?_ (fun x => ?_)); first | exact sdT | skip) | (refine Stp.go ?_) | (guard_target =~ WLA _ _ _ _ _ (⟨_, .call ⟨.value (.tmp _), _, _⟩, _, _, _, _⟩ :: _) _ _; refine WLA.yield rfl rfl ((hy (TblP T texts vt sa sl B) x hCx hlt).ent) ?_; rintro (x' | z)) | (refine WPA.ifT ?_) | (refine WPA.ifF ?_) | ((first | refine WPA.dec ?_); first | refine orL ?_ | refine orR ?_) | ((first | refine WPA.ifBt ?_ ?_ | refine WPA.ifBnf ?_ ?_); assumption) | ((first | refine WPA.ifBnt ?_ ?_ | refine WPA.ifBf ?_ ?_); assumption) | ((first | refine WPA.ifs ?_ ?_ | refine WPA.ifB ?_ ?_) <;> intro hc))
    · refine QQ.pre fun hC' => ?_
      exact QQ.loopS x' ⟨rfl, rfl, rfl, by rw [hC'.2]; rfl, trivial⟩ hC'.1 (by have := hC'.2; omega) (fun w h => h)
    · exact QQ.end_ rfl (.inr z) rfl fun w h => h
  · have hlt' : ¬ (ix x : Int) < texts.length := by omega
    repeat' (first | ((first | refine WLA.m rfl rfl ?_ ?_ | refine WLA.st rfl ?_ ?_ | refine WLA.x rfl rfl ?_ (fun x => ?_) | refine WLA.x0 rfl ?_ (fun x => ?_)); first | exact sdT | skip) | (refine Stp.go ?_) | (refine WPA.ifT ?_) | (refine WPA.ifF ?_) | ((first | refine WPA.dec ?_); first | refine orL ?_ | refine orR ?_) | ((first | refine WPA.ifBt ?_ ?_ | refine WPA.ifBnf ?_ ?_); assumption) | ((first | refine WPA.ifBnt ?_ ?_ | refine WPA.ifBf ?_ ?_); assumption) | ((first | refine WPA.ifs ?_ ?_ | refine WPA.ifB ?_ ?_) <;> intro hc))
    exact QQ.endn rfl (.inl x) rfl fun w h => ⟨⟨hCx, by omega⟩, (TblH.fold tb).sl (TblP.open.sl h)⟩
theorem rFind_tr {v : SV} {s : ByteArray} [hr : RdS I L v ByteArray inferInstance texts] (hn : texts.length ≤ 1000000000) : TrP Tryz.prog 48 #[.slice v.a v.n v.cap, .string s] (SL w0 I L) (.int .i64 (findT texts s)) := by
  refine TrP.ofD fun u => Tr.intro Tryz.func48 rfl Tryz.ntmps48 rfl ?_
  repeat' (first | ((first | refine WLA.m rfl rfl ?_ ?_ | refine WLA.st rfl ?_ ?_ | refine WLA.x rfl rfl ?_ (fun x => ?_) | refine WLA.x0 rfl ?_ (fun x => ?_)); first | exact sdT | skip) | (refine Stp.go ?_) | (refine WPA.ifT ?_) | (refine WPA.ifF ?_) | ((first | refine WPA.dec ?_); first | refine orL ?_ | refine orR ?_) | ((first | refine WPA.ifBt ?_ ?_ | refine WPA.ifBnf ?_ ?_); assumption) | ((first | refine WPA.ifBnt ?_ ?_ | refine WPA.ifBf ?_ ?_); assumption) | ((first | refine WPA.ifs ?_ ?_ | refine WPA.ifB ?_ ?_) <;> intro hc))
  refine WPA.loopS (σ := Nat) (fun i => [(0, .slice v.a v.n v.cap), (1, .string s), (5, .int .i64 i)]) (fun i => i ≤ texts.length ∧ findT (texts.take i) s < 0)
    (fun _ => SLd w0 I L u) (fun i => texts.length - i) 0 ⟨rfl, rfl, rfl, trivial⟩ ⟨by omega, by simp [findT]⟩ (fun _ h => h) ?_
  rintro i ρ ⟨hi, hf⟩
  by_cases hlt : i < texts.length
  · have hlt' : (i : Int) < texts.length := by omega
    have hsp := findT_split texts s i hlt hf
    rw [← at_nat texts i hlt] at hsp
    by_cases hc : at_ texts (i : Int) = s
    · rw [if_pos hc] at hsp
      repeat' (first | ((first | refine WLA.m rfl rfl ?_ ?_ | refine WLA.st rfl ?_ ?_ | refine WLA.x rfl rfl ?_ (fun x => ?_) | refine WLA.x0 rfl ?_ (fun x => ?_)); first | exact sdT | skip) | (refine Stp.go ?_) | (refine WPA.ifT ?_) | (refine WPA.ifF ?_) | ((first | refine WPA.dec ?_); first | refine orL ?_ | refine orR ?_) | ((first | refine WPA.ifBt ?_ ?_ | refine WPA.ifBnf ?_ ?_); assumption) | ((first | refine WPA.ifBnt ?_ ?_ | refine WPA.ifBf ?_ ?_); assumption) | ((first | refine WPA.ifs ?_ ?_ | refine WPA.ifB ?_ ?_) <;> intro hc))
      exact QQ.end_ rfl () (by rw [hsp]) (fun _ h => h)
    · rw [if_neg hc] at hsp
      repeat' (first | ((first | refine WLA.m rfl rfl ?_ ?_ | refine WLA.st rfl ?_ ?_ | refine WLA.x rfl rfl ?_ (fun x => ?_) | refine WLA.x0 rfl ?_ (fun x => ?_)); first | exact sdT | skip) | (refine Stp.go ?_) | (refine WPA.ifT ?_) | (refine WPA.ifF ?_) | ((first | refine WPA.dec ?_); first | refine orL ?_ | refine orR ?_) | ((first | refine WPA.ifBt ?_ ?_ | refine WPA.ifBnf ?_ ?_); assumption) | ((first | refine WPA.ifBnt ?_ ?_ | refine WPA.ifBf ?_ ?_); assumption) | ((first | refine WPA.ifs ?_ ?_ | refine WPA.ifB ?_ ?_) <;> intro hc))
      exact QQ.loopS (i + 1) ⟨rfl, rfl, rfl, trivial⟩ ⟨hlt, hsp⟩ (by omega) (fun _ h => h)
  · have hi1 : ¬ (i : Int) < texts.length := by omega
    have e : i = texts.length := by omega
    subst e
    rw [List.take_length] at hf
    have := findT_range texts s
    have e : findT texts s = -1 := by omega
    repeat' (first | ((first | refine WLA.m rfl rfl ?_ ?_ | refine WLA.st rfl ?_ ?_ | refine WLA.x rfl rfl ?_ (fun x => ?_) | refine WLA.x0 rfl ?_ (fun x => ?_)); first | exact sdT | skip) | (refine Stp.go ?_) | (refine WPA.ifT ?_) | (refine WPA.ifF ?_) | ((first | refine WPA.dec ?_); first | refine orL ?_ | refine orR ?_) | ((first | refine WPA.ifBt ?_ ?_ | refine WPA.ifBnf ?_ ?_); assumption) | ((first | refine WPA.ifBnt ?_ ?_ | refine WPA.ifBf ?_ ?_); assumption) | ((first | refine WPA.ifs ?_ ?_ | refine WPA.ifB ?_ ?_) <;> intro hc))
    exact QQ.end_ rfl () (by rw [e]) (fun _ h => h)
end
end Go.Proofs.YthkhneimfjaohaaGreatDoor
namespace Go.Proofs.YthkhneimfjaohaaGreatDoor
open Go Go.Fw Go.RowKit
set_option linter.unusedVariables false
set_option linter.unusedSimpArgs false
set_option maxRecDepth 100000
set_option maxHeartbeats 16000000
set_option synthInstance.maxHeartbeats 200000
set_option synthInstance.maxSize 100000
attribute [local irreducible] WPA WLA WDA WDQ WDE QQ seqQ blockQ loopQ fnQ OpP OpT Tr TrP SL SLd OwnS LitS Bk BkE Ob
def BlankP (c : Int) : Prop := c = 9 ∨ c = 11 ∨ c = 12 ∨ c = 13 ∨ c = 32
instance (c : Int) : Decidable (BlankP c) := inferInstanceAs (Decidable (_ ∨ _))
def MarkP (s : ByteArray) : Prop := s = ⟨#[60, 115, 62]⟩ ∨ s = ⟨#[60, 47, 115, 62]⟩
instance (s : ByteArray) : Decidable (MarkP s) := inferInstanceAs (Decidable (_ ∨ _))
section
variable {c : Int} {s : ByteArray} {L : List HP} {w0 : World} {I : Foot}
theorem Blank_tr : TrP Tryz.prog 80 #[.int .u8 c] (SL w0 I L) (.bool (decide (BlankP c))) := by
  refine TrP.ofD fun u => Tr.intro Tryz.func80 rfl Tryz.ntmps80 rfl ?_
  repeat' (first | ((first | refine WLA.m rfl rfl ?_ ?_ | refine WLA.st rfl ?_ ?_ | refine WLA.x rfl rfl ?_ (fun x => ?_) | refine WLA.x0 rfl ?_ (fun x => ?_)); first | exact sdT | skip) | (refine Stp.go ?_) | (refine WPA.ifT ?_) | (refine WPA.ifF ?_) | ((first | refine WPA.dec ?_); first | refine orL ?_ | refine orR ?_) | ((first | refine WPA.ifBt ?_ ?_ | refine WPA.ifBnf ?_ ?_); assumption) | ((first | refine WPA.ifBnt ?_ ?_ | refine WPA.ifBf ?_ ?_); assumption) | ((first | refine WPA.ifs ?_ ?_ | refine WPA.ifB ?_ ?_) <;> intro hc))
  all_goals refine QQ.end_ rfl () (congrArg Value.bool ?_) fun w h => h
  all_goals simp [BlankP, *]
theorem rBlank_tr : TrP Tryz.prog 71 #[.int .u8 c] (SL w0 I L) (.bool (decide (BlankP c))) := by
  refine TrP.ofD fun u => Tr.intro Tryz.func71 rfl Tryz.ntmps71 rfl ?_
  repeat' (first | ((first | refine WLA.m rfl rfl ?_ ?_ | refine WLA.st rfl ?_ ?_ | refine WLA.x rfl rfl ?_ (fun x => ?_) | refine WLA.x0 rfl ?_ (fun x => ?_)); first | exact sdT | skip) | (refine Stp.go ?_) | (refine WPA.ifT ?_) | (refine WPA.ifF ?_) | (refine WLA.no rfl rfl ?_) | ((first | refine WPA.dec ?_ | ((fail_if_success (guard_target =~ WLA _ _ _ _ _ _ (put1 _ _ (.bool true)) _)); (fail_if_success (guard_target =~ WLA _ _ _ _ _ _ (put1 _ _ (.bool false)) _)); refine WLA.dec rfl rfl ?_) | refine WLA.pk ?_); first | refine orL ?_ | refine orR ?_) | ((first | refine WPA.ifBt ?_ ?_ | refine WPA.ifBnf ?_ ?_); assumption) | ((first | refine WPA.ifBnt ?_ ?_ | refine WPA.ifBf ?_ ?_); assumption) | ((first | refine WPA.ifs ?_ ?_ | refine WPA.ifB ?_ ?_) <;> intro hc) | ((fail_if_success (guard_target =~ WLA _ _ _ _ _ _ (put1 _ _ (.bool true)) _)); (fail_if_success (guard_target =~ WLA _ _ _ _ _ _ (put1 _ _ (.bool false)) _)); (first | refine WLA.both rfl rfl ?_ ?_ | refine WLA.bothB rfl rfl ?_ ?_) <;> intro hg))
  all_goals refine QQ.end_ rfl () (congrArg Value.bool ?_) fun w h => h
  all_goals simp [BlankP, *]
theorem Mark_tr : TrP Tryz.prog 81 #[.string s] (SL w0 I L) (.bool (decide (MarkP s))) := by
  refine TrP.ofD fun u => Tr.intro Tryz.func81 rfl Tryz.ntmps81 rfl ?_
  repeat' (first | ((first | refine WLA.m rfl rfl ?_ ?_ | refine WLA.st rfl ?_ ?_ | refine WLA.x rfl rfl ?_ (fun x => ?_) | refine WLA.x0 rfl ?_ (fun x => ?_)); first | exact sdT | skip) | (refine Stp.go ?_) | (refine WPA.ifT ?_) | (refine WPA.ifF ?_) | (refine WLA.no rfl rfl ?_) | ((first | refine WPA.dec ?_ | ((fail_if_success (guard_target =~ WLA _ _ _ _ _ _ (put1 _ _ (.bool true)) _)); (fail_if_success (guard_target =~ WLA _ _ _ _ _ _ (put1 _ _ (.bool false)) _)); refine WLA.dec rfl rfl ?_) | refine WLA.pk ?_); first | refine orL ?_ | refine orR ?_) | ((first | refine WPA.ifBt ?_ ?_ | refine WPA.ifBnf ?_ ?_); assumption) | ((first | refine WPA.ifBnt ?_ ?_ | refine WPA.ifBf ?_ ?_); assumption) | ((first | refine WPA.ifs ?_ ?_ | refine WPA.ifB ?_ ?_) <;> intro hc) | ((fail_if_success (guard_target =~ WLA _ _ _ _ _ _ (put1 _ _ (.bool true)) _)); (fail_if_success (guard_target =~ WLA _ _ _ _ _ _ (put1 _ _ (.bool false)) _)); (first | refine WLA.both rfl rfl ?_ ?_ | refine WLA.bothB rfl rfl ?_ ?_) <;> intro hg))
  all_goals refine QQ.end_ rfl () (congrArg Value.bool ?_) fun w h => h
  all_goals simp [MarkP, *]
theorem rMark_tr : TrP Tryz.prog 72 #[.string s] (SL w0 I L) (.bool (decide (MarkP s))) := by
  refine TrP.ofD fun u => Tr.intro Tryz.func72 rfl Tryz.ntmps72 rfl ?_
  repeat' (first | ((first | refine WLA.m rfl rfl ?_ ?_ | refine WLA.st rfl ?_ ?_ | refine WLA.x rfl rfl ?_ (fun x => ?_) | refine WLA.x0 rfl ?_ (fun x => ?_)); first | exact sdT | skip) | (refine Stp.go ?_) | (refine WPA.ifT ?_) | (refine WPA.ifF ?_) | (refine WLA.no rfl rfl ?_) | ((first | refine WPA.dec ?_ | ((fail_if_success (guard_target =~ WLA _ _ _ _ _ _ (put1 _ _ (.bool true)) _)); (fail_if_success (guard_target =~ WLA _ _ _ _ _ _ (put1 _ _ (.bool false)) _)); refine WLA.dec rfl rfl ?_) | refine WLA.pk ?_); first | refine orL ?_ | refine orR ?_) | ((first | refine WPA.ifBt ?_ ?_ | refine WPA.ifBnf ?_ ?_); assumption) | ((first | refine WPA.ifBnt ?_ ?_ | refine WPA.ifBf ?_ ?_); assumption) | ((first | refine WPA.ifs ?_ ?_ | refine WPA.ifB ?_ ?_) <;> intro hc) | ((fail_if_success (guard_target =~ WLA _ _ _ _ _ _ (put1 _ _ (.bool true)) _)); (fail_if_success (guard_target =~ WLA _ _ _ _ _ _ (put1 _ _ (.bool false)) _)); (first | refine WLA.both rfl rfl ?_ ?_ | refine WLA.bothB rfl rfl ?_ ?_) <;> intro hg))
  all_goals refine QQ.end_ rfl () (congrArg Value.bool ?_) fun w h => h
  all_goals simp [MarkP, *]
theorem Same_tr {a b : SV} {xs ys : List ByteArray} [ha : RdS I L a ByteArray inferInstance xs] [hb : RdS I L b ByteArray inferInstance ys] (hn : xs.length ≤ 1000000000) : TrP Tryz.prog 30 #[.slice a.a a.n a.cap, .slice b.a b.n b.cap] (SL w0 I L) (.bool (decide (xs = ys))) := by
  refine TrP.ofD fun u => Tr.intro Tryz.func30 rfl Tryz.ntmps30 rfl ?_
  by_cases hl : xs.length = ys.length
  · have hl' : ¬ (xs.length : Int) ≠ ys.length := by omega
    repeat' (first | ((first | refine WLA.m rfl rfl ?_ ?_ | refine WLA.st rfl ?_ ?_ | refine WLA.x rfl rfl ?_ (fun x => ?_) | refine WLA.x0 rfl ?_ (fun x => ?_)); first | exact sdT | skip) | (refine Stp.go ?_) | (refine WPA.ifT ?_) | (refine WPA.ifF ?_) | ((first | refine WPA.dec ?_); first | refine orL ?_ | refine orR ?_) | ((first | refine WPA.ifBt ?_ ?_ | refine WPA.ifBnf ?_ ?_); assumption) | ((first | refine WPA.ifBnt ?_ ?_ | refine WPA.ifBf ?_ ?_); assumption) | ((first | refine WPA.ifs ?_ ?_ | refine WPA.ifB ?_ ?_) <;> intro hc))
    refine WPA.loopS (σ := Nat) (fun i => [(0, .slice a.a a.n a.cap), (1, .slice b.a b.n b.cap), (5, .int .i64 i)]) (fun i => i ≤ xs.length ∧ xs.take i = ys.take i)
      (fun i => SLd w0 I L u) (fun i => xs.length - i) 0 ⟨rfl, rfl, rfl, trivial⟩ ⟨Nat.zero_le _, by simp⟩ (fun w h => h) ?_
    rintro i ρ ⟨hi, he⟩
    by_cases hlt : i < xs.length
    · have hlt' : (i : Int) < xs.length := by omega
      have hx := at_nat xs i hlt
      have hy := at_nat ys i (by omega)
      by_cases hxy : at_ xs (i : Int) = at_ ys (i : Int)
      · have hxy' : ¬ at_ xs (i : Int) ≠ at_ ys (i : Int) := fun h => h hxy
        repeat' (first | ((first | refine WLA.m rfl rfl ?_ ?_ | refine WDQ.m rfl rfl ?_ ?_ | refine WLA.st rfl ?_ ?_ | refine WLA.x rfl rfl ?_ (fun x => ?_) | refine WLA.x0 rfl ?_ (fun x => ?_)); first | exact sdT | skip) | (refine Stp.go ?_) | (refine WPA.ifT ?_) | (refine WPA.ifF ?_) | ((first | refine WPA.dec ?_); first | refine orL ?_ | refine orR ?_) | ((first | refine WPA.ifBt ?_ ?_ | refine WPA.ifBnf ?_ ?_); assumption) | ((first | refine WPA.ifBnt ?_ ?_ | refine WPA.ifBf ?_ ?_); assumption) | ((first | refine WPA.ifs ?_ ?_ | refine WPA.ifB ?_ ?_) <;> intro hc) | (guard_target =~ WPA _ _ _ (.region 6 _ true) _ _ _; refine WPA.drawT 8 (.q 0 (.q 1 (.q 2 (.q 3 (.q 4 (.q 5 (.q 6 (.q 7 .fin)))))))) mixed ?_ ?_; kernel_rfl) | (refine WDA.finish (tl := [⟨_, _, _, _, _, _⟩]) rfl ?_) | (refine WDQ.see rfl ?_))
        refine QQ.loopS (i + 1) ⟨rfl, rfl, rfl, trivial⟩ ⟨hlt, ?_⟩ (by omega) (fun w h => h)
        rw [List.take_add_one, List.take_add_one, he, List.getElem?_eq_getElem hlt, List.getElem?_eq_getElem (by omega), ← hx, ← hy, hxy]
      · have hxy' : at_ xs (i : Int) ≠ at_ ys (i : Int) := hxy
        repeat' (first | ((first | refine WLA.m rfl rfl ?_ ?_ | refine WDQ.m rfl rfl ?_ ?_ | refine WLA.st rfl ?_ ?_ | refine WLA.x rfl rfl ?_ (fun x => ?_) | refine WLA.x0 rfl ?_ (fun x => ?_)); first | exact sdT | skip) | (refine Stp.go ?_) | (refine WPA.ifT ?_) | (refine WPA.ifF ?_) | ((first | refine WPA.dec ?_); first | refine orL ?_ | refine orR ?_) | ((first | refine WPA.ifBt ?_ ?_ | refine WPA.ifBnf ?_ ?_); assumption) | ((first | refine WPA.ifBnt ?_ ?_ | refine WPA.ifBf ?_ ?_); assumption) | ((first | refine WPA.ifs ?_ ?_ | refine WPA.ifB ?_ ?_) <;> intro hc) | (guard_target =~ WPA _ _ _ (.region 6 _ true) _ _ _; refine WPA.drawT 8 (.q 0 (.q 1 (.q 2 (.q 3 (.q 4 (.q 5 (.q 6 (.q 7 .fin)))))))) mixed ?_ ?_; kernel_rfl) | (refine WDA.finish (tl := [⟨_, _, _, _, _, _⟩]) rfl ?_) | (refine WDQ.see rfl ?_))
        refine QQ.end_ rfl () (congrArg Value.bool (decide_eq_false fun e => hxy ?_).symm) fun w h => h
        subst e; rfl
    · have hlt' : ¬ (i : Int) < xs.length := by omega
      repeat' (first | ((first | refine WLA.m rfl rfl ?_ ?_ | refine WDQ.m rfl rfl ?_ ?_ | refine WLA.st rfl ?_ ?_ | refine WLA.x rfl rfl ?_ (fun x => ?_) | refine WLA.x0 rfl ?_ (fun x => ?_)); first | exact sdT | skip) | (refine Stp.go ?_) | (refine WPA.ifT ?_) | (refine WPA.ifF ?_) | ((first | refine WPA.dec ?_); first | refine orL ?_ | refine orR ?_) | ((first | refine WPA.ifBt ?_ ?_ | refine WPA.ifBnf ?_ ?_); assumption) | ((first | refine WPA.ifBnt ?_ ?_ | refine WPA.ifBf ?_ ?_); assumption) | ((first | refine WPA.ifs ?_ ?_ | refine WPA.ifB ?_ ?_) <;> intro hc) | (guard_target =~ WPA _ _ _ (.region 6 _ true) _ _ _; refine WPA.drawT 8 (.q 0 (.q 1 (.q 2 (.q 3 (.q 4 (.q 5 (.q 6 (.q 7 .fin)))))))) mixed ?_ ?_; kernel_rfl) | (refine WDA.finish (tl := [⟨_, _, _, _, _, _⟩]) rfl ?_) | (refine WDQ.see rfl ?_))
      refine QQ.end_ rfl () (congrArg Value.bool (decide_eq_true ?_).symm) fun w h => h
      rw [List.take_of_length_le (by omega), List.take_of_length_le (by omega)] at he
      exact he
  · have hl' : (xs.length : Int) ≠ ys.length := by omega
    repeat' (first | ((first | refine WLA.m rfl rfl ?_ ?_ | refine WLA.st rfl ?_ ?_ | refine WLA.x rfl rfl ?_ (fun x => ?_) | refine WLA.x0 rfl ?_ (fun x => ?_)); first | exact sdT | skip) | (refine Stp.go ?_) | (refine WPA.ifT ?_) | (refine WPA.ifF ?_) | ((first | refine WPA.dec ?_); first | refine orL ?_ | refine orR ?_) | ((first | refine WPA.ifBt ?_ ?_ | refine WPA.ifBnf ?_ ?_); assumption) | ((first | refine WPA.ifBnt ?_ ?_ | refine WPA.ifBf ?_ ?_); assumption) | ((first | refine WPA.ifs ?_ ?_ | refine WPA.ifB ?_ ?_) <;> intro hc))
    exact QQ.end_ rfl () (congrArg Value.bool (decide_eq_false fun e => hl (by rw [e])).symm) fun w h => h
end
end Go.Proofs.YthkhneimfjaohaaGreatDoor
namespace Go.Proofs.YthkhneimfjaohaaGreatDoor
open Go Go.Fw Go.RowKit
set_option linter.unusedVariables false
set_option linter.unusedSimpArgs false
set_option maxRecDepth 100000
set_option maxHeartbeats 16000000
set_option synthInstance.maxHeartbeats 200000
set_option synthInstance.maxSize 100000
attribute [local irreducible] WPA WLA WDA WDQ WDE QQ seqQ blockQ loopQ fnQ OpP OpT Tr TrP SL SLd OwnS LitS Bk BkE Ob
def RightP (s : ByteArray) : Prop := (∀ i : Nat, i < s.size → ¬ BlankP (bt s i) ∧ bt s i ≠ 10) ∧ (s ≠ ⟨#[]⟩ ∧ s.size ≤ 255) ∧ ¬ MarkP s
theorem Right_yes {s : ByteArray} {L : List HP} {w0 : World} {I : Foot} (hs : s.size ≤ 1000000) (h : RightP s) : TrP Tryz.prog 47 #[.string s] (SL w0 I L) (.bool true) := by
  refine TrP.ofD fun u => Tr.intro Tryz.func47 rfl Tryz.ntmps47 rfl ?_
  obtain ⟨h1, ⟨h2, h3⟩, h4⟩ := h
  have h3' : (s.size : Int) ≤ 255 := by omega
  have hd4 : decide (MarkP s) = false := decide_eq_false h4
  repeat' (first | ((first | refine WLA.m rfl rfl ?_ ?_ | refine WLA.st rfl ?_ ?_ | refine WLA.x rfl rfl ?_ (fun x => ?_) | refine WLA.x0 rfl ?_ (fun x => ?_)); first | exact sdT | skip) | (refine Stp.go ?_) | (refine WPA.ifT ?_) | (refine WPA.ifF ?_) | ((first | refine WPA.dec ?_); first | refine orL ?_ | refine orR ?_) | ((first | refine WPA.ifBt ?_ ?_ | refine WPA.ifBnf ?_ ?_); assumption) | ((first | refine WPA.ifBnt ?_ ?_ | refine WPA.ifBf ?_ ?_); assumption) | ((first | refine WPA.ifs ?_ ?_ | refine WPA.ifB ?_ ?_) <;> intro hc))
  refine WPA.loopS (σ := Nat) (fun i => [(0, .string s), (3, .int .i64 i)]) (fun i => i ≤ s.size)
    (fun i => SLd w0 I L u) (fun i => s.size - i) 0 ⟨rfl, rfl, trivial⟩ (Nat.zero_le _) (fun w h => h) ?_
  intro i ρ hi
  by_cases hlt : i < s.size
  · have hlt' : (i : Int) < s.size := by omega
    have hb := h1 i hlt
    have hd : decide (BlankP (bt s (i : Nat))) = false := decide_eq_false hb.1
    have hn : ¬ bt s (i : Nat) = 10 := hb.2
    have hnb : ¬ BlankP (bt s (i : Nat)) := hb.1
    repeat' (first | ((first | refine WLA.m rfl rfl ?_ ?_ | refine WLA.st rfl ?_ ?_ | refine WLA.x rfl rfl ?_ (fun x => ?_) | refine WLA.x0 rfl ?_ (fun x => ?_)); first | exact sdT | skip) | (refine Stp.go ?_) | (guard_target =~ WLA _ _ _ _ _ (⟨_, .call ⟨.value (.func 71), _, _⟩, _, _, _, _⟩ :: _) _ _; refine WLA.cq rfl rfl (rBlank_tr) ?_) | (refine WPA.ifT ?_) | (refine WPA.ifF ?_) | (refine WLA.no rfl rfl ?_) | ((first | refine WPA.dec ?_ | ((fail_if_success (guard_target =~ WLA _ _ _ _ _ _ (put1 _ _ (.bool true)) _)); (fail_if_success (guard_target =~ WLA _ _ _ _ _ _ (put1 _ _ (.bool false)) _)); refine WLA.dec rfl rfl ?_) | refine WLA.pk ?_); first | refine orL ?_ | refine orR ?_) | ((first | refine WPA.ifBt ?_ ?_ | refine WPA.ifBnf ?_ ?_); assumption) | ((first | refine WPA.ifBnt ?_ ?_ | refine WPA.ifBf ?_ ?_); assumption) | ((first | refine WPA.ifs ?_ ?_ | refine WPA.ifB ?_ ?_) <;> intro hc) | ((fail_if_success (guard_target =~ WLA _ _ _ _ _ _ (put1 _ _ (.bool true)) _)); (fail_if_success (guard_target =~ WLA _ _ _ _ _ _ (put1 _ _ (.bool false)) _)); (first | refine WLA.both rfl rfl ?_ ?_ | refine WLA.bothB rfl rfl ?_ ?_) <;> intro hg))
    exact QQ.loopS (i + 1) ⟨rfl, rfl, trivial⟩ (by omega) (by omega) (fun w h => h)
  · have hlt' : ¬ (i : Int) < s.size := by omega
    repeat' (first | ((first | refine WLA.m rfl rfl ?_ ?_ | refine WLA.st rfl ?_ ?_ | refine WLA.x rfl rfl ?_ (fun x => ?_) | refine WLA.x0 rfl ?_ (fun x => ?_)); first | exact sdT | skip) | (refine Stp.go ?_) | (guard_target =~ WLA _ _ _ _ _ (⟨_, .call ⟨.value (.func 72), _, _⟩, _, _, _, _⟩ :: _) _ _; refine WLA.cq rfl rfl (rMark_tr) ?_) | (refine WPA.ifT ?_) | (refine WPA.ifF ?_) | (refine WLA.no rfl rfl ?_) | ((first | refine WPA.dec ?_ | ((fail_if_success (guard_target =~ WLA _ _ _ _ _ _ (put1 _ _ (.bool true)) _)); (fail_if_success (guard_target =~ WLA _ _ _ _ _ _ (put1 _ _ (.bool false)) _)); refine WLA.dec rfl rfl ?_) | refine WLA.pk ?_); first | refine orL ?_ | refine orR ?_) | ((first | refine WPA.ifBt ?_ ?_ | refine WPA.ifBnf ?_ ?_); assumption) | ((first | refine WPA.ifBnt ?_ ?_ | refine WPA.ifBf ?_ ?_); assumption) | ((first | refine WPA.ifs ?_ ?_ | refine WPA.ifB ?_ ?_) <;> intro hc) | ((fail_if_success (guard_target =~ WLA _ _ _ _ _ _ (put1 _ _ (.bool true)) _)); (fail_if_success (guard_target =~ WLA _ _ _ _ _ _ (put1 _ _ (.bool false)) _)); (first | refine WLA.both rfl rfl ?_ ?_ | refine WLA.bothB rfl rfl ?_ ?_) <;> intro hg))
    refine QQ.end_ rfl () (congrArg Value.bool ?_) fun w h => h
    simp [h4]
theorem Right_no {s : ByteArray} {L : List HP} {w0 : World} {I : Foot} (hs : s.size ≤ 140737488351232) (h : ¬ RightP s) : TrP Tryz.prog 47 #[.string s] (SL w0 I L) (.bool false) := by
  refine TrP.ofD fun u => Tr.intro Tryz.func47 rfl Tryz.ntmps47 rfl ?_
  repeat' (first | ((first | refine WLA.m rfl rfl ?_ ?_ | refine WLA.st rfl ?_ ?_ | refine WLA.x rfl rfl ?_ (fun x => ?_) | refine WLA.x0 rfl ?_ (fun x => ?_)); first | exact sdT | skip) | (refine Stp.go ?_) | (refine WPA.ifT ?_) | (refine WPA.ifF ?_) | ((first | refine WPA.dec ?_); first | refine orL ?_ | refine orR ?_) | ((first | refine WPA.ifBt ?_ ?_ | refine WPA.ifBnf ?_ ?_); assumption) | ((first | refine WPA.ifBnt ?_ ?_ | refine WPA.ifBf ?_ ?_); assumption) | ((first | refine WPA.ifs ?_ ?_ | refine WPA.ifB ?_ ?_) <;> intro hc))
  refine WPA.loopS (σ := Nat) (fun i => [(0, .string s), (3, .int .i64 i)]) (fun i => i ≤ s.size ∧ ∀ j : Nat, j < i → ¬ BlankP (bt s j) ∧ bt s j ≠ 10)
    (fun i => SLd w0 I L u) (fun i => s.size - i) 0 ⟨rfl, rfl, trivial⟩ ⟨Nat.zero_le _, fun j hj => by omega⟩ (fun w h => h) ?_
  rintro i ρ ⟨hi, hg⟩
  by_cases hlt : i < s.size
  · have hlt' : (i : Int) < s.size := by omega
    by_cases hb : BlankP (bt s (i : Nat))
    · have hd : decide (BlankP (bt s (i : Nat))) = true := decide_eq_true hb
      repeat' (first | ((first | refine WLA.m rfl rfl ?_ ?_ | refine WLA.st rfl ?_ ?_ | refine WLA.x rfl rfl ?_ (fun x => ?_) | refine WLA.x0 rfl ?_ (fun x => ?_)); first | exact sdT | skip) | (refine Stp.go ?_) | (guard_target =~ WLA _ _ _ _ _ (⟨_, .call ⟨.value (.func 71), _, _⟩, _, _, _, _⟩ :: _) _ _; refine WLA.cq rfl rfl (rBlank_tr) ?_) | (refine WPA.ifT ?_) | (refine WPA.ifF ?_) | (refine WLA.no rfl rfl ?_) | ((first | refine WPA.dec ?_ | ((fail_if_success (guard_target =~ WLA _ _ _ _ _ _ (put1 _ _ (.bool true)) _)); (fail_if_success (guard_target =~ WLA _ _ _ _ _ _ (put1 _ _ (.bool false)) _)); refine WLA.dec rfl rfl ?_) | refine WLA.pk ?_); first | refine orL ?_ | refine orR ?_) | ((first | refine WPA.ifBt ?_ ?_ | refine WPA.ifBnf ?_ ?_); assumption) | ((first | refine WPA.ifBnt ?_ ?_ | refine WPA.ifBf ?_ ?_); assumption) | ((first | refine WPA.ifs ?_ ?_ | refine WPA.ifB ?_ ?_) <;> intro hc) | ((fail_if_success (guard_target =~ WLA _ _ _ _ _ _ (put1 _ _ (.bool true)) _)); (fail_if_success (guard_target =~ WLA _ _ _ _ _ _ (put1 _ _ (.bool false)) _)); (first | refine WLA.both rfl rfl ?_ ?_ | refine WLA.bothB rfl rfl ?_ ?_) <;> intro hg))
      exact QQ.end_ rfl () rfl fun w h => h
    · have hd : decide (BlankP (bt s (i : Nat))) = false := decide_eq_false hb
      by_cases hn : bt s (i : Nat) = 10
      · skip
        repeat' (first | ((first | refine WLA.m rfl rfl ?_ ?_ | refine WLA.st rfl ?_ ?_ | refine WLA.x rfl rfl ?_ (fun x => ?_) | refine WLA.x0 rfl ?_ (fun x => ?_)); first | exact sdT | skip) | (refine Stp.go ?_) | (guard_target =~ WLA _ _ _ _ _ (⟨_, .call ⟨.value (.func 71), _, _⟩, _, _, _, _⟩ :: _) _ _; refine WLA.cq rfl rfl (rBlank_tr) ?_) | (refine WPA.ifT ?_) | (refine WPA.ifF ?_) | (refine WLA.no rfl rfl ?_) | ((first | refine WPA.dec ?_ | ((fail_if_success (guard_target =~ WLA _ _ _ _ _ _ (put1 _ _ (.bool true)) _)); (fail_if_success (guard_target =~ WLA _ _ _ _ _ _ (put1 _ _ (.bool false)) _)); refine WLA.dec rfl rfl ?_) | refine WLA.pk ?_); first | refine orL ?_ | refine orR ?_) | ((first | refine WPA.ifBt ?_ ?_ | refine WPA.ifBnf ?_ ?_); assumption) | ((first | refine WPA.ifBnt ?_ ?_ | refine WPA.ifBf ?_ ?_); assumption) | ((first | refine WPA.ifs ?_ ?_ | refine WPA.ifB ?_ ?_) <;> intro hc) | ((fail_if_success (guard_target =~ WLA _ _ _ _ _ _ (put1 _ _ (.bool true)) _)); (fail_if_success (guard_target =~ WLA _ _ _ _ _ _ (put1 _ _ (.bool false)) _)); (first | refine WLA.both rfl rfl ?_ ?_ | refine WLA.bothB rfl rfl ?_ ?_) <;> intro hg))
        exact QQ.end_ rfl () rfl fun w h => h
      · skip
        repeat' (first | ((first | refine WLA.m rfl rfl ?_ ?_ | refine WLA.st rfl ?_ ?_ | refine WLA.x rfl rfl ?_ (fun x => ?_) | refine WLA.x0 rfl ?_ (fun x => ?_)); first | exact sdT | skip) | (refine Stp.go ?_) | (guard_target =~ WLA _ _ _ _ _ (⟨_, .call ⟨.value (.func 71), _, _⟩, _, _, _, _⟩ :: _) _ _; refine WLA.cq rfl rfl (rBlank_tr) ?_) | (refine WPA.ifT ?_) | (refine WPA.ifF ?_) | (refine WLA.no rfl rfl ?_) | ((first | refine WPA.dec ?_ | ((fail_if_success (guard_target =~ WLA _ _ _ _ _ _ (put1 _ _ (.bool true)) _)); (fail_if_success (guard_target =~ WLA _ _ _ _ _ _ (put1 _ _ (.bool false)) _)); refine WLA.dec rfl rfl ?_) | refine WLA.pk ?_); first | refine orL ?_ | refine orR ?_) | ((first | refine WPA.ifBt ?_ ?_ | refine WPA.ifBnf ?_ ?_); assumption) | ((first | refine WPA.ifBnt ?_ ?_ | refine WPA.ifBf ?_ ?_); assumption) | ((first | refine WPA.ifs ?_ ?_ | refine WPA.ifB ?_ ?_) <;> intro hc) | ((fail_if_success (guard_target =~ WLA _ _ _ _ _ _ (put1 _ _ (.bool true)) _)); (fail_if_success (guard_target =~ WLA _ _ _ _ _ _ (put1 _ _ (.bool false)) _)); (first | refine WLA.both rfl rfl ?_ ?_ | refine WLA.bothB rfl rfl ?_ ?_) <;> intro hg))
        refine QQ.loopS (i + 1) ⟨rfl, rfl, trivial⟩ ⟨by omega, fun j hj => ?_⟩ (by omega) (fun w h => h)
        by_cases e : j = i
        · rw [e]; exact ⟨hb, hn⟩
        · exact hg j (by omega)
  · have hlt' : ¬ (i : Int) < s.size := by omega
    have hall : ∀ j : Nat, j < s.size → ¬ BlankP (bt s j) ∧ bt s j ≠ 10 := fun j hj => hg j (by omega)
    by_cases h1 : s = ⟨#[]⟩
    · have h1' : ¬ s ≠ ⟨#[]⟩ := fun h => h h1
      repeat' (first | ((first | refine WLA.m rfl rfl ?_ ?_ | refine WLA.st rfl ?_ ?_ | refine WLA.x rfl rfl ?_ (fun x => ?_) | refine WLA.x0 rfl ?_ (fun x => ?_)); first | exact sdT | skip) | (refine Stp.go ?_) | (guard_target =~ WLA _ _ _ _ _ (⟨_, .call ⟨.value (.func 72), _, _⟩, _, _, _, _⟩ :: _) _ _; refine WLA.cq rfl rfl (rMark_tr) ?_) | (refine WPA.ifT ?_) | (refine WPA.ifF ?_) | (refine WLA.no rfl rfl ?_) | ((first | refine WPA.dec ?_ | ((fail_if_success (guard_target =~ WLA _ _ _ _ _ _ (put1 _ _ (.bool true)) _)); (fail_if_success (guard_target =~ WLA _ _ _ _ _ _ (put1 _ _ (.bool false)) _)); refine WLA.dec rfl rfl ?_) | refine WLA.pk ?_); first | refine orL ?_ | refine orR ?_) | ((first | refine WPA.ifBt ?_ ?_ | refine WPA.ifBnf ?_ ?_); assumption) | ((first | refine WPA.ifBnt ?_ ?_ | refine WPA.ifBf ?_ ?_); assumption) | ((first | refine WPA.ifs ?_ ?_ | refine WPA.ifB ?_ ?_) <;> intro hc) | ((fail_if_success (guard_target =~ WLA _ _ _ _ _ _ (put1 _ _ (.bool true)) _)); (fail_if_success (guard_target =~ WLA _ _ _ _ _ _ (put1 _ _ (.bool false)) _)); (first | refine WLA.both rfl rfl ?_ ?_ | refine WLA.bothB rfl rfl ?_ ?_) <;> intro hg))
      exact QQ.end_ rfl () rfl fun w h => h
    · by_cases h2 : (s.size : Int) ≤ 255
      · have h3 : MarkP s := Classical.byContradiction fun h3 => h ⟨hall, ⟨h1, by omega⟩, h3⟩
        repeat' (first | ((first | refine WLA.m rfl rfl ?_ ?_ | refine WLA.st rfl ?_ ?_ | refine WLA.x rfl rfl ?_ (fun x => ?_) | refine WLA.x0 rfl ?_ (fun x => ?_)); first | exact sdT | skip) | (refine Stp.go ?_) | (guard_target =~ WLA _ _ _ _ _ (⟨_, .call ⟨.value (.func 72), _, _⟩, _, _, _, _⟩ :: _) _ _; refine WLA.cq rfl rfl (rMark_tr) ?_) | (refine WPA.ifT ?_) | (refine WPA.ifF ?_) | (refine WLA.no rfl rfl ?_) | ((first | refine WPA.dec ?_ | ((fail_if_success (guard_target =~ WLA _ _ _ _ _ _ (put1 _ _ (.bool true)) _)); (fail_if_success (guard_target =~ WLA _ _ _ _ _ _ (put1 _ _ (.bool false)) _)); refine WLA.dec rfl rfl ?_) | refine WLA.pk ?_); first | refine orL ?_ | refine orR ?_) | ((first | refine WPA.ifBt ?_ ?_ | refine WPA.ifBnf ?_ ?_); assumption) | ((first | refine WPA.ifBnt ?_ ?_ | refine WPA.ifBf ?_ ?_); assumption) | ((first | refine WPA.ifs ?_ ?_ | refine WPA.ifB ?_ ?_) <;> intro hc) | ((fail_if_success (guard_target =~ WLA _ _ _ _ _ _ (put1 _ _ (.bool true)) _)); (fail_if_success (guard_target =~ WLA _ _ _ _ _ _ (put1 _ _ (.bool false)) _)); (first | refine WLA.both rfl rfl ?_ ?_ | refine WLA.bothB rfl rfl ?_ ?_) <;> intro hg))
        refine QQ.end_ rfl () (congrArg Value.bool ?_) fun w h => h
        simp [h3]
      · skip
        repeat' (first | ((first | refine WLA.m rfl rfl ?_ ?_ | refine WLA.st rfl ?_ ?_ | refine WLA.x rfl rfl ?_ (fun x => ?_) | refine WLA.x0 rfl ?_ (fun x => ?_)); first | exact sdT | skip) | (refine Stp.go ?_) | (guard_target =~ WLA _ _ _ _ _ (⟨_, .call ⟨.value (.func 72), _, _⟩, _, _, _, _⟩ :: _) _ _; refine WLA.cq rfl rfl (rMark_tr) ?_) | (refine WPA.ifT ?_) | (refine WPA.ifF ?_) | (refine WLA.no rfl rfl ?_) | ((first | refine WPA.dec ?_ | ((fail_if_success (guard_target =~ WLA _ _ _ _ _ _ (put1 _ _ (.bool true)) _)); (fail_if_success (guard_target =~ WLA _ _ _ _ _ _ (put1 _ _ (.bool false)) _)); refine WLA.dec rfl rfl ?_) | refine WLA.pk ?_); first | refine orL ?_ | refine orR ?_) | ((first | refine WPA.ifBt ?_ ?_ | refine WPA.ifBnf ?_ ?_); assumption) | ((first | refine WPA.ifBnt ?_ ?_ | refine WPA.ifBf ?_ ?_); assumption) | ((first | refine WPA.ifs ?_ ?_ | refine WPA.ifB ?_ ?_) <;> intro hc) | ((fail_if_success (guard_target =~ WLA _ _ _ _ _ _ (put1 _ _ (.bool true)) _)); (fail_if_success (guard_target =~ WLA _ _ _ _ _ _ (put1 _ _ (.bool false)) _)); (first | refine WLA.both rfl rfl ?_ ?_ | refine WLA.bothB rfl rfl ?_ ?_) <;> intro hg))
        exact QQ.end_ rfl () rfl fun w h => h
end Go.Proofs.YthkhneimfjaohaaGreatDoor
namespace Go.Proofs.YthkhneimfjaohaaGreatDoor
open Go Go.Fw Go.RowKit
set_option linter.unusedVariables false
set_option linter.unusedSimpArgs false
set_option maxRecDepth 100000
set_option maxHeartbeats 16000000
set_option synthInstance.maxHeartbeats 200000
set_option synthInstance.maxSize 100000
attribute [local irreducible] WPA WLA WDA WDQ WDE QQ seqQ blockQ loopQ fnQ OpP OpT Tr TrP SL SLd OwnS LitS Bk BkE Ob
attribute [local irreducible] TblH Fz
def VocH (V : Nat) (texts : List ByteArray) : HP := exH fun T : Nat => star (Bk V 116 [.pointer (some ⟨T, 0, none⟩)]) (TblH T texts)
instance {V : Nat} {texts : List ByteArray} : Opn (VocH V texts) Nat (fun T L => Bk V 116 [.pointer (some ⟨T, 0, none⟩)] :: TblH T texts :: L) := ⟨fun w0 I L w h => by
  obtain ⟨T, h⟩ := h.exH; exact ⟨T, Ent.unstar.sl h⟩⟩
theorem VocH.fold {V T : Nat} {texts : List ByteArray} {L : List HP} : Ent (Bk V 116 [.pointer (some ⟨T, 0, none⟩)] :: TblH T texts :: L) (VocH V texts :: L) := Ent.ex T (Ent.star Ent.refl)
instance (priority := 800) {V T : Nat} {texts : List ByteArray} {L L1 L2 : List HP} [h1 : FindBk L V 116 [.pointer (some ⟨T, 0, none⟩)] L1] [h2 : FindK L1 TblH T texts L2] : FindK L VocH V texts L2 :=
  ⟨h1.out.trans ((Ent.cons h2.out).trans VocH.fold)⟩
def mk3 : List ByteArray := [⟨#[60, 117, 110, 107, 62]⟩, ⟨#[60, 115, 62]⟩, ⟨#[60, 47, 115, 62]⟩]
section
variable {L L' : List HP} {w0 : World} {I : Foot} {V : Nat} {texts : List ByteArray}
theorem Right_y {s : ByteArray} (hs : s.size ≤ 1000000) (h : RightP s) : TrP Tryz.prog 61 #[.string s] (SL w0 I L) (.bool true) := by
  refine TrP.ofD fun u => Tr.intro Tryz.func61 rfl Tryz.ntmps61 rfl ?_
  obtain ⟨h1, ⟨h2, h3⟩, h4⟩ := h
  have h3' : (s.size : Int) ≤ 255 := by omega
  have hd4 : decide (MarkP s) = false := decide_eq_false h4
  repeat' (first | ((first | refine WLA.m rfl rfl ?_ ?_ | refine WLA.st rfl ?_ ?_ | refine WLA.x rfl rfl ?_ (fun x => ?_) | refine WLA.x0 rfl ?_ (fun x => ?_)); first | exact sdT | skip) | (refine Stp.go ?_) | (refine WPA.ifT ?_) | (refine WPA.ifF ?_) | ((first | refine WPA.dec ?_); first | refine orL ?_ | refine orR ?_) | ((first | refine WPA.ifBt ?_ ?_ | refine WPA.ifBnf ?_ ?_); assumption) | ((first | refine WPA.ifBnt ?_ ?_ | refine WPA.ifBf ?_ ?_); assumption) | ((first | refine WPA.ifs ?_ ?_ | refine WPA.ifB ?_ ?_) <;> intro hc))
  refine WPA.loopS (σ := Nat) (fun i => [(0, .string s), (3, .int .i64 i)]) (fun i => i ≤ s.size)
    (fun i => SLd w0 I L u) (fun i => s.size - i) 0 ⟨rfl, rfl, trivial⟩ (Nat.zero_le _) (fun w h => h) ?_
  intro i ρ hi
  by_cases hlt : i < s.size
  · have hlt' : (i : Int) < s.size := by omega
    have hb := h1 i hlt
    have hd : decide (BlankP (bt s (i : Nat))) = false := decide_eq_false hb.1
    have hn : ¬ bt s (i : Nat) = 10 := hb.2
    have hnb : ¬ BlankP (bt s (i : Nat)) := hb.1
    repeat' (first | ((first | refine WLA.m rfl rfl ?_ ?_ | refine WLA.st rfl ?_ ?_ | refine WLA.x rfl rfl ?_ (fun x => ?_) | refine WLA.x0 rfl ?_ (fun x => ?_)); first | exact sdT | skip) | (refine Stp.go ?_) | (guard_target =~ WLA _ _ _ _ _ (⟨_, .call ⟨.value (.func 80), _, _⟩, _, _, _, _⟩ :: _) _ _; refine WLA.cq rfl rfl (Blank_tr) ?_) | (refine WPA.ifT ?_) | (refine WPA.ifF ?_) | (refine WLA.no rfl rfl ?_) | ((first | refine WPA.dec ?_ | ((fail_if_success (guard_target =~ WLA _ _ _ _ _ _ (put1 _ _ (.bool true)) _)); (fail_if_success (guard_target =~ WLA _ _ _ _ _ _ (put1 _ _ (.bool false)) _)); refine WLA.dec rfl rfl ?_) | refine WLA.pk ?_); first | refine orL ?_ | refine orR ?_) | ((first | refine WPA.ifBt ?_ ?_ | refine WPA.ifBnf ?_ ?_); assumption) | ((first | refine WPA.ifBnt ?_ ?_ | refine WPA.ifBf ?_ ?_); assumption) | ((first | refine WPA.ifs ?_ ?_ | refine WPA.ifB ?_ ?_) <;> intro hc) | ((fail_if_success (guard_target =~ WLA _ _ _ _ _ _ (put1 _ _ (.bool true)) _)); (fail_if_success (guard_target =~ WLA _ _ _ _ _ _ (put1 _ _ (.bool false)) _)); (first | refine WLA.both rfl rfl ?_ ?_ | refine WLA.bothB rfl rfl ?_ ?_) <;> intro hg))
    exact QQ.loopS (i + 1) ⟨rfl, rfl, trivial⟩ (by omega) (by omega) (fun w h => h)
  · have hlt' : ¬ (i : Int) < s.size := by omega
    repeat' (first | ((first | refine WLA.m rfl rfl ?_ ?_ | refine WLA.st rfl ?_ ?_ | refine WLA.x rfl rfl ?_ (fun x => ?_) | refine WLA.x0 rfl ?_ (fun x => ?_)); first | exact sdT | skip) | (refine Stp.go ?_) | (guard_target =~ WLA _ _ _ _ _ (⟨_, .call ⟨.value (.func 81), _, _⟩, _, _, _, _⟩ :: _) _ _; refine WLA.cq rfl rfl (Mark_tr) ?_) | (refine WPA.ifT ?_) | (refine WPA.ifF ?_) | (refine WLA.no rfl rfl ?_) | ((first | refine WPA.dec ?_ | ((fail_if_success (guard_target =~ WLA _ _ _ _ _ _ (put1 _ _ (.bool true)) _)); (fail_if_success (guard_target =~ WLA _ _ _ _ _ _ (put1 _ _ (.bool false)) _)); refine WLA.dec rfl rfl ?_) | refine WLA.pk ?_); first | refine orL ?_ | refine orR ?_) | ((first | refine WPA.ifBt ?_ ?_ | refine WPA.ifBnf ?_ ?_); assumption) | ((first | refine WPA.ifBnt ?_ ?_ | refine WPA.ifBf ?_ ?_); assumption) | ((first | refine WPA.ifs ?_ ?_ | refine WPA.ifB ?_ ?_) <;> intro hc) | ((fail_if_success (guard_target =~ WLA _ _ _ _ _ _ (put1 _ _ (.bool true)) _)); (fail_if_success (guard_target =~ WLA _ _ _ _ _ _ (put1 _ _ (.bool false)) _)); (first | refine WLA.both rfl rfl ?_ ?_ | refine WLA.bothB rfl rfl ?_ ?_) <;> intro hg))
    refine QQ.end_ rfl () (congrArg Value.bool ?_) fun w h => h
    simp [h4]
theorem Right_n {s : ByteArray} (hs : s.size ≤ 140737488351232) (h : ¬ RightP s) : TrP Tryz.prog 61 #[.string s] (SL w0 I L) (.bool false) := by
  refine TrP.ofD fun u => Tr.intro Tryz.func61 rfl Tryz.ntmps61 rfl ?_
  repeat' (first | ((first | refine WLA.m rfl rfl ?_ ?_ | refine WLA.st rfl ?_ ?_ | refine WLA.x rfl rfl ?_ (fun x => ?_) | refine WLA.x0 rfl ?_ (fun x => ?_)); first | exact sdT | skip) | (refine Stp.go ?_) | (refine WPA.ifT ?_) | (refine WPA.ifF ?_) | ((first | refine WPA.dec ?_); first | refine orL ?_ | refine orR ?_) | ((first | refine WPA.ifBt ?_ ?_ | refine WPA.ifBnf ?_ ?_); assumption) | ((first | refine WPA.ifBnt ?_ ?_ | refine WPA.ifBf ?_ ?_); assumption) | ((first | refine WPA.ifs ?_ ?_ | refine WPA.ifB ?_ ?_) <;> intro hc))
  refine WPA.loopS (σ := Nat) (fun i => [(0, .string s), (3, .int .i64 i)]) (fun i => i ≤ s.size ∧ ∀ j : Nat, j < i → ¬ BlankP (bt s j) ∧ bt s j ≠ 10)
    (fun i => SLd w0 I L u) (fun i => s.size - i) 0 ⟨rfl, rfl, trivial⟩ ⟨Nat.zero_le _, fun j hj => by omega⟩ (fun w h => h) ?_
  rintro i ρ ⟨hi, hg⟩
  by_cases hlt : i < s.size
  · have hlt' : (i : Int) < s.size := by omega
    by_cases hb : BlankP (bt s (i : Nat))
    · have hd : decide (BlankP (bt s (i : Nat))) = true := decide_eq_true hb
      repeat' (first | ((first | refine WLA.m rfl rfl ?_ ?_ | refine WLA.st rfl ?_ ?_ | refine WLA.x rfl rfl ?_ (fun x => ?_) | refine WLA.x0 rfl ?_ (fun x => ?_)); first | exact sdT | skip) | (refine Stp.go ?_) | (guard_target =~ WLA _ _ _ _ _ (⟨_, .call ⟨.value (.func 80), _, _⟩, _, _, _, _⟩ :: _) _ _; refine WLA.cq rfl rfl (Blank_tr) ?_) | (refine WPA.ifT ?_) | (refine WPA.ifF ?_) | (refine WLA.no rfl rfl ?_) | ((first | refine WPA.dec ?_ | ((fail_if_success (guard_target =~ WLA _ _ _ _ _ _ (put1 _ _ (.bool true)) _)); (fail_if_success (guard_target =~ WLA _ _ _ _ _ _ (put1 _ _ (.bool false)) _)); refine WLA.dec rfl rfl ?_) | refine WLA.pk ?_); first | refine orL ?_ | refine orR ?_) | ((first | refine WPA.ifBt ?_ ?_ | refine WPA.ifBnf ?_ ?_); assumption) | ((first | refine WPA.ifBnt ?_ ?_ | refine WPA.ifBf ?_ ?_); assumption) | ((first | refine WPA.ifs ?_ ?_ | refine WPA.ifB ?_ ?_) <;> intro hc) | ((fail_if_success (guard_target =~ WLA _ _ _ _ _ _ (put1 _ _ (.bool true)) _)); (fail_if_success (guard_target =~ WLA _ _ _ _ _ _ (put1 _ _ (.bool false)) _)); (first | refine WLA.both rfl rfl ?_ ?_ | refine WLA.bothB rfl rfl ?_ ?_) <;> intro hg))
      exact QQ.end_ rfl () rfl fun w h => h
    · have hd : decide (BlankP (bt s (i : Nat))) = false := decide_eq_false hb
      by_cases hn : bt s (i : Nat) = 10
      · skip
        repeat' (first | ((first | refine WLA.m rfl rfl ?_ ?_ | refine WLA.st rfl ?_ ?_ | refine WLA.x rfl rfl ?_ (fun x => ?_) | refine WLA.x0 rfl ?_ (fun x => ?_)); first | exact sdT | skip) | (refine Stp.go ?_) | (guard_target =~ WLA _ _ _ _ _ (⟨_, .call ⟨.value (.func 80), _, _⟩, _, _, _, _⟩ :: _) _ _; refine WLA.cq rfl rfl (Blank_tr) ?_) | (refine WPA.ifT ?_) | (refine WPA.ifF ?_) | (refine WLA.no rfl rfl ?_) | ((first | refine WPA.dec ?_ | ((fail_if_success (guard_target =~ WLA _ _ _ _ _ _ (put1 _ _ (.bool true)) _)); (fail_if_success (guard_target =~ WLA _ _ _ _ _ _ (put1 _ _ (.bool false)) _)); refine WLA.dec rfl rfl ?_) | refine WLA.pk ?_); first | refine orL ?_ | refine orR ?_) | ((first | refine WPA.ifBt ?_ ?_ | refine WPA.ifBnf ?_ ?_); assumption) | ((first | refine WPA.ifBnt ?_ ?_ | refine WPA.ifBf ?_ ?_); assumption) | ((first | refine WPA.ifs ?_ ?_ | refine WPA.ifB ?_ ?_) <;> intro hc) | ((fail_if_success (guard_target =~ WLA _ _ _ _ _ _ (put1 _ _ (.bool true)) _)); (fail_if_success (guard_target =~ WLA _ _ _ _ _ _ (put1 _ _ (.bool false)) _)); (first | refine WLA.both rfl rfl ?_ ?_ | refine WLA.bothB rfl rfl ?_ ?_) <;> intro hg))
        exact QQ.end_ rfl () rfl fun w h => h
      · skip
        repeat' (first | ((first | refine WLA.m rfl rfl ?_ ?_ | refine WLA.st rfl ?_ ?_ | refine WLA.x rfl rfl ?_ (fun x => ?_) | refine WLA.x0 rfl ?_ (fun x => ?_)); first | exact sdT | skip) | (refine Stp.go ?_) | (guard_target =~ WLA _ _ _ _ _ (⟨_, .call ⟨.value (.func 80), _, _⟩, _, _, _, _⟩ :: _) _ _; refine WLA.cq rfl rfl (Blank_tr) ?_) | (refine WPA.ifT ?_) | (refine WPA.ifF ?_) | (refine WLA.no rfl rfl ?_) | ((first | refine WPA.dec ?_ | ((fail_if_success (guard_target =~ WLA _ _ _ _ _ _ (put1 _ _ (.bool true)) _)); (fail_if_success (guard_target =~ WLA _ _ _ _ _ _ (put1 _ _ (.bool false)) _)); refine WLA.dec rfl rfl ?_) | refine WLA.pk ?_); first | refine orL ?_ | refine orR ?_) | ((first | refine WPA.ifBt ?_ ?_ | refine WPA.ifBnf ?_ ?_); assumption) | ((first | refine WPA.ifBnt ?_ ?_ | refine WPA.ifBf ?_ ?_); assumption) | ((first | refine WPA.ifs ?_ ?_ | refine WPA.ifB ?_ ?_) <;> intro hc) | ((fail_if_success (guard_target =~ WLA _ _ _ _ _ _ (put1 _ _ (.bool true)) _)); (fail_if_success (guard_target =~ WLA _ _ _ _ _ _ (put1 _ _ (.bool false)) _)); (first | refine WLA.both rfl rfl ?_ ?_ | refine WLA.bothB rfl rfl ?_ ?_) <;> intro hg))
        refine QQ.loopS (i + 1) ⟨rfl, rfl, trivial⟩ ⟨by omega, fun j hj => ?_⟩ (by omega) (fun w h => h)
        by_cases e : j = i
        · rw [e]; exact ⟨hb, hn⟩
        · exact hg j (by omega)
  · have hlt' : ¬ (i : Int) < s.size := by omega
    have hall : ∀ j : Nat, j < s.size → ¬ BlankP (bt s j) ∧ bt s j ≠ 10 := fun j hj => hg j (by omega)
    by_cases h1 : s = ⟨#[]⟩
    · have h1' : ¬ s ≠ ⟨#[]⟩ := fun h => h h1
      repeat' (first | ((first | refine WLA.m rfl rfl ?_ ?_ | refine WLA.st rfl ?_ ?_ | refine WLA.x rfl rfl ?_ (fun x => ?_) | refine WLA.x0 rfl ?_ (fun x => ?_)); first | exact sdT | skip) | (refine Stp.go ?_) | (guard_target =~ WLA _ _ _ _ _ (⟨_, .call ⟨.value (.func 81), _, _⟩, _, _, _, _⟩ :: _) _ _; refine WLA.cq rfl rfl (Mark_tr) ?_) | (refine WPA.ifT ?_) | (refine WPA.ifF ?_) | (refine WLA.no rfl rfl ?_) | ((first | refine WPA.dec ?_ | ((fail_if_success (guard_target =~ WLA _ _ _ _ _ _ (put1 _ _ (.bool true)) _)); (fail_if_success (guard_target =~ WLA _ _ _ _ _ _ (put1 _ _ (.bool false)) _)); refine WLA.dec rfl rfl ?_) | refine WLA.pk ?_); first | refine orL ?_ | refine orR ?_) | ((first | refine WPA.ifBt ?_ ?_ | refine WPA.ifBnf ?_ ?_); assumption) | ((first | refine WPA.ifBnt ?_ ?_ | refine WPA.ifBf ?_ ?_); assumption) | ((first | refine WPA.ifs ?_ ?_ | refine WPA.ifB ?_ ?_) <;> intro hc) | ((fail_if_success (guard_target =~ WLA _ _ _ _ _ _ (put1 _ _ (.bool true)) _)); (fail_if_success (guard_target =~ WLA _ _ _ _ _ _ (put1 _ _ (.bool false)) _)); (first | refine WLA.both rfl rfl ?_ ?_ | refine WLA.bothB rfl rfl ?_ ?_) <;> intro hg))
      exact QQ.end_ rfl () rfl fun w h => h
    · by_cases h2 : (s.size : Int) ≤ 255
      · have h3 : MarkP s := Classical.byContradiction fun h3 => h ⟨hall, ⟨h1, by omega⟩, h3⟩
        repeat' (first | ((first | refine WLA.m rfl rfl ?_ ?_ | refine WLA.st rfl ?_ ?_ | refine WLA.x rfl rfl ?_ (fun x => ?_) | refine WLA.x0 rfl ?_ (fun x => ?_)); first | exact sdT | skip) | (refine Stp.go ?_) | (guard_target =~ WLA _ _ _ _ _ (⟨_, .call ⟨.value (.func 81), _, _⟩, _, _, _, _⟩ :: _) _ _; refine WLA.cq rfl rfl (Mark_tr) ?_) | (refine WPA.ifT ?_) | (refine WPA.ifF ?_) | (refine WLA.no rfl rfl ?_) | ((first | refine WPA.dec ?_ | ((fail_if_success (guard_target =~ WLA _ _ _ _ _ _ (put1 _ _ (.bool true)) _)); (fail_if_success (guard_target =~ WLA _ _ _ _ _ _ (put1 _ _ (.bool false)) _)); refine WLA.dec rfl rfl ?_) | refine WLA.pk ?_); first | refine orL ?_ | refine orR ?_) | ((first | refine WPA.ifBt ?_ ?_ | refine WPA.ifBnf ?_ ?_); assumption) | ((first | refine WPA.ifBnt ?_ ?_ | refine WPA.ifBf ?_ ?_); assumption) | ((first | refine WPA.ifs ?_ ?_ | refine WPA.ifB ?_ ?_) <;> intro hc) | ((fail_if_success (guard_target =~ WLA _ _ _ _ _ _ (put1 _ _ (.bool true)) _)); (fail_if_success (guard_target =~ WLA _ _ _ _ _ _ (put1 _ _ (.bool false)) _)); (first | refine WLA.both rfl rfl ?_ ?_ | refine WLA.bothB rfl rfl ?_ ?_) <;> intro hg))
        refine QQ.end_ rfl () (congrArg Value.bool ?_) fun w h => h
        simp [h3]
      · skip
        repeat' (first | ((first | refine WLA.m rfl rfl ?_ ?_ | refine WLA.st rfl ?_ ?_ | refine WLA.x rfl rfl ?_ (fun x => ?_) | refine WLA.x0 rfl ?_ (fun x => ?_)); first | exact sdT | skip) | (refine Stp.go ?_) | (guard_target =~ WLA _ _ _ _ _ (⟨_, .call ⟨.value (.func 81), _, _⟩, _, _, _, _⟩ :: _) _ _; refine WLA.cq rfl rfl (Mark_tr) ?_) | (refine WPA.ifT ?_) | (refine WPA.ifF ?_) | (refine WLA.no rfl rfl ?_) | ((first | refine WPA.dec ?_ | ((fail_if_success (guard_target =~ WLA _ _ _ _ _ _ (put1 _ _ (.bool true)) _)); (fail_if_success (guard_target =~ WLA _ _ _ _ _ _ (put1 _ _ (.bool false)) _)); refine WLA.dec rfl rfl ?_) | refine WLA.pk ?_); first | refine orL ?_ | refine orR ?_) | ((first | refine WPA.ifBt ?_ ?_ | refine WPA.ifBnf ?_ ?_); assumption) | ((first | refine WPA.ifBnt ?_ ?_ | refine WPA.ifBf ?_ ?_); assumption) | ((first | refine WPA.ifs ?_ ?_ | refine WPA.ifB ?_ ?_) <;> intro hc) | ((fail_if_success (guard_target =~ WLA _ _ _ _ _ _ (put1 _ _ (.bool true)) _)); (fail_if_success (guard_target =~ WLA _ _ _ _ _ _ (put1 _ _ (.bool false)) _)); (first | refine WLA.both rfl rfl ?_ ?_ | refine WLA.bothB rfl rfl ?_ ?_) <;> intro hg))
        exact QQ.end_ rfl () rfl fun w h => h
theorem Words_trV [h : FindK L VocH V texts L'] (hn : texts.length ≤ 100000000) : Tr Tryz.prog 60 #[.pointer (some ⟨V, 0, none⟩)] (SL w0 I L) (fun r : SV => .slice r.a r.n r.cap) (fun r => SL w0 I (OwnS 9 r texts :: VocH V texts :: L')) := by
  refine Tr.at h.out (Tr.opn fun T => ?_)
  refine Tr.intro Tryz.func60 rfl Tryz.ntmps60 rfl ?_
  repeat' (first | ((first | refine WLA.m rfl rfl ?_ ?_ | refine WLA.st rfl ?_ ?_ | refine WLA.x rfl rfl ?_ (fun x => ?_) | refine WLA.x0 rfl ?_ (fun x => ?_)); first | exact sdT | skip) | (refine Stp.go ?_) | (guard_target =~ WLA _ _ _ _ _ (⟨_, .call ⟨.value (.func 79), _, _⟩, _, _, _, _⟩ :: _) _ _; refine WLA.call rfl rfl (TAll_tr) ?_; rintro bx) | (refine WPA.ifT ?_) | (refine WPA.ifF ?_) | ((first | refine WPA.dec ?_); first | refine orL ?_ | refine orR ?_) | ((first | refine WPA.ifBt ?_ ?_ | refine WPA.ifBnf ?_ ?_); assumption) | ((first | refine WPA.ifBnt ?_ ?_ | refine WPA.ifBf ?_ ?_); assumption) | ((first | refine WPA.ifs ?_ ?_ | refine WPA.ifB ?_ ?_) <;> intro hc))
  revert x; intro t3
  refine WPA.rangeS fun D rc hrc => ?_
  let Lk : Nat × SV → List HP := fun y => Ob (D + 1) (rc .ready none) :: Ob D (.deferred (some [])) :: Bk t3 22 [.slice y.2.a y.2.n y.2.cap] :: OwnS 9 y.2 (texts.take y.1) :: Bk V 116 [.pointer (some ⟨T, 0, none⟩)] :: L'
  refine ⟨SV, fun _ => .tuple #[], fun _ => .ready, fun _ => none, fun r => Ob D (.deferred (some [])) :: Bk t3 22 [.slice r.a r.n r.cap] :: OwnS 9 r texts :: Bk V 116 [.pointer (some ⟨T, 0, none⟩)] :: TblH T texts :: L', ?_, ?_⟩
  · refine (TAll1_tr (w0 := w0) (I := I) (T := T) (texts := texts) (Bx := bx) (ω := Empty) Lk (fun y => y.1) (fun y => y.1 ≤ texts.length) (fun z _ => z.elim) (by omega) ?_ (0, SV.nil) (Nat.zero_le _) rfl (fun _ h => h)).conv (fun w h => ?_) ?_
    · rintro p ⟨i, r⟩ hi hlt
      dsimp only at hi hlt
      dsimp only [Lk]
      have hat := at_nat texts i hlt
      have htl : (texts.take i).length = i := by rw [List.length_take]; omega
      refine (YTr.ofS (val := fun y : (Nat × SV) ⊕ Empty => y.isLeft) hrc (agreeP2 rfl rfl) rfl ?_)
      repeat' (first | ((first | refine WLA.m rfl rfl ?_ ?_ | refine WLA.st rfl ?_ ?_ | refine WLA.x rfl rfl ?_ (fun x => ?_) | refine WLA.x0 rfl ?_ (fun x => ?_)); first | exact sdT | skip) | (refine Stp.go ?_) | (refine WPA.ifT ?_) | (refine WPA.ifF ?_) | ((first | refine WPA.dec ?_); first | refine orL ?_ | refine orR ?_) | ((first | refine WPA.ifBt ?_ ?_ | refine WPA.ifBnf ?_ ?_); assumption) | ((first | refine WPA.ifBnt ?_ ?_ | refine WPA.ifBf ?_ ?_); assumption) | ((first | refine WPA.ifs ?_ ?_ | refine WPA.ifB ?_ ?_) <;> intro hc))
      refine QQ.midS ?_
      repeat' (first | ((first | refine WLA.m rfl rfl ?_ ?_ | refine WLA.st rfl ?_ ?_ | refine WLA.x rfl rfl ?_ (fun x => ?_) | refine WLA.x0 rfl ?_ (fun x => ?_)); first | exact sdT | skip) | (refine Stp.go ?_) | (refine WPA.ifT ?_) | (refine WPA.ifF ?_) | ((first | refine WPA.dec ?_); first | refine orL ?_ | refine orR ?_) | ((first | refine WPA.ifBt ?_ ?_ | refine WPA.ifBnf ?_ ?_); assumption) | ((first | refine WPA.ifBnt ?_ ?_ | refine WPA.ifBf ?_ ?_); assumption) | ((first | refine WPA.ifs ?_ ?_ | refine WPA.ifB ?_ ?_) <;> intro hc))
      refine QQ.rndN (fun w h => ⟨.inl (i + 1, x), rfl, ⟨hlt, rfl⟩, ?_⟩)
      rw [List.take_add_one, List.getElem?_eq_getElem hlt, ← hat]
      dsimp only [Option.toList_some]
      exact h.to
    · dsimp only [Lk]
      rw [List.take_zero]
      have h2 : SL w0 I (Ob (D + 1) (rc .ready none) :: Ob D (.deferred (some [])) :: Bk bx 114 [.pointer (some ⟨T, 0, none⟩)] :: Bk t3 22 [.slice SV.nil.a SV.nil.n SV.nil.cap] :: Bk V 116 [.pointer (some ⟨T, 0, none⟩)] :: TblH T texts :: L') w := h
      exact h2.to
    · rintro (⟨i, r⟩ | y) w hb
      · refine ⟨r, rfl, ?_⟩
        have h := hb.2
        have e : i = texts.length := hb.1.2
        subst e
        dsimp only [Lk] at h ⊢
        rw [List.take_length] at h
        exact h.to
      · exact y.elim
  · intro r
    refine ⟨by simp, ?_⟩
    show QQ _ _ _ _
    repeat' (first | ((first | refine WLA.m rfl rfl ?_ ?_ | refine WLA.st rfl ?_ ?_ | refine WLA.x rfl rfl ?_ (fun x => ?_) | refine WLA.x0 rfl ?_ (fun x => ?_)); first | exact sdT | skip) | (refine Stp.go ?_) | (refine WPA.ifT ?_) | (refine WPA.ifF ?_) | ((first | refine WPA.dec ?_); first | refine orL ?_ | refine orR ?_) | ((first | refine WPA.ifBt ?_ ?_ | refine WPA.ifBnf ?_ ?_); assumption) | ((first | refine WPA.ifBnt ?_ ?_ | refine WPA.ifBf ?_ ?_); assumption) | ((first | refine WPA.ifs ?_ ?_ | refine WPA.ifB ?_ ?_) <;> intro hc))
    exact QQ.fin [D] (L' := OwnS 9 r texts :: VocH V texts :: L') rfl (EntC.out (L' := Ob D (.deferred (some [])) :: OwnS 9 r texts :: VocH V texts :: L')) rfl r rfl fun w h => h
theorem New_trV : Tr Tryz.prog 59 #[] (SL w0 I L) (fun V : Nat => .pointer (some ⟨V, 0, none⟩)) (fun V => SL w0 I (VocH V mk3 :: L)) := by
  refine Tr.intro Tryz.func59 rfl Tryz.ntmps59 rfl ?_
  repeat' (first | ((first | refine WLA.m rfl rfl ?_ ?_ | refine WLA.st rfl ?_ ?_ | refine WLA.x rfl rfl ?_ (fun x => ?_) | refine WLA.x0 rfl ?_ (fun x => ?_)); first | exact sdT | skip) | (refine Stp.go ?_) | (guard_target =~ WLA _ _ _ _ _ (⟨_, .call ⟨.value (.func 78), _, _⟩, _, _, _, _⟩ :: _) _ _; refine WLA.call rfl rfl (TNew_tr _ _ _) ?_; rintro T) | (refine WPA.ifT ?_) | (refine WPA.ifF ?_) | ((first | refine WPA.dec ?_); first | refine orL ?_ | refine orR ?_) | ((first | refine WPA.ifBt ?_ ?_ | refine WPA.ifBnf ?_ ?_); assumption) | ((first | refine WPA.ifBnt ?_ ?_ | refine WPA.ifBf ?_ ?_); assumption) | ((first | refine WPA.ifs ?_ ?_ | refine WPA.ifB ?_ ?_) <;> intro hc))
  rename_i V
  refine WPA.loopS (σ := Nat) (fun i => [(1, .pointer (some ⟨V, 0, none⟩)), (7, .slice x.a x.n x.cap), (8, .int .i64 3), (9, .int .i64 i)]) (fun i => i ≤ 3)
    (fun i => SL w0 I (LitS 9 x mk3 :: Bk V 116 [.pointer (some ⟨T, 0, none⟩)] :: TblH T (mk3.take i) :: L)) (fun i => 3 - i) 0 ⟨rfl, rfl, rfl, rfl, trivial⟩ (by omega) (fun w h => h) ?_
  intro i ρ hi
  have hl3 : mk3.length = 3 := rfl
  have htl : (mk3.take i).length ≤ 3 := by rw [List.length_take]; omega
  by_cases hlt : i < 3
  · have hlt' : (i : Int) < 3 := by omega
    have hput : putT (mk3.take i) (at_ mk3 (i : Int)) = mk3.take (i + 1) ∧ (at_ mk3 (i : Int)).size ≤ 140737488355328 := by
      rcases i with _ | _ | _ | i
      · exact ⟨by decide, by decide⟩
      · exact ⟨by decide, by decide⟩
      · exact ⟨by decide, by decide⟩
      · omega
    have hfew : (mk3.take i).length < 1000000000 := by omega
    have hm3 : 0 ≤ (i : Int) ∧ (i : Int) < mk3.length := by rw [hl3]; omega
    repeat' (first | ((first | refine WLA.m rfl rfl ?_ ?_ | refine WLA.st rfl ?_ ?_ | refine WLA.x rfl rfl ?_ (fun x => ?_) | refine WLA.x0 rfl ?_ (fun x => ?_)); first | exact sdT | skip) | (refine Stp.go ?_) | (guard_target =~ WLA _ _ _ _ _ (⟨_, .call ⟨.value (.func 62), _, _⟩, _, _, _, _⟩ :: _) _ _; refine WLA.call rfl rfl (TPut_tr hput.2 hfew) ?_; rintro ⟨⟩) | (refine WPA.ifT ?_) | (refine WPA.ifF ?_) | ((first | refine WPA.dec ?_); first | refine orL ?_ | refine orR ?_) | ((first | refine WPA.ifBt ?_ ?_ | refine WPA.ifBnf ?_ ?_); assumption) | ((first | refine WPA.ifBnt ?_ ?_ | refine WPA.ifBf ?_ ?_); assumption) | ((first | refine WPA.ifs ?_ ?_ | refine WPA.ifB ?_ ?_) <;> intro hc))
    exact QQ.loopS (i + 1) ⟨rfl, rfl, rfl, rfl, trivial⟩ (by omega) (by omega) (fun w h => by rw [← hput.1]; exact h.to)
  · have hlt' : ¬ (i : Int) < 3 := by omega
    have e : i = 3 := by omega
    subst e
    repeat' (first | ((first | refine WLA.m rfl rfl ?_ ?_ | refine WLA.st rfl ?_ ?_ | refine WLA.x rfl rfl ?_ (fun x => ?_) | refine WLA.x0 rfl ?_ (fun x => ?_)); first | exact sdT | skip) | (refine Stp.go ?_) | (refine WPA.ifT ?_) | (refine WPA.ifF ?_) | ((first | refine WPA.dec ?_); first | refine orL ?_ | refine orR ?_) | ((first | refine WPA.ifBt ?_ ?_ | refine WPA.ifBnf ?_ ?_); assumption) | ((first | refine WPA.ifBnt ?_ ?_ | refine WPA.ifBf ?_ ?_); assumption) | ((first | refine WPA.ifs ?_ ?_ | refine WPA.ifB ?_ ?_) <;> intro hc))
    exact QQ.end_ rfl V rfl fun w h => by
      have e3 : mk3.take 3 = mk3 := rfl
      rw [e3] at h; exact h.to
theorem Marks_tr : Tr Tryz.prog 46 #[] (SL w0 I L) (fun r : SV => .slice r.a r.n r.cap) (fun r => SL w0 I (OwnS 9 r mk3 :: L)) := by
  refine Tr.intro Tryz.func46 rfl Tryz.ntmps46 rfl ?_
  repeat' (first | ((first | refine WLA.m rfl rfl ?_ ?_ | refine WLA.st rfl ?_ ?_ | refine WLA.x rfl rfl ?_ (fun x => ?_) | refine WLA.x0 rfl ?_ (fun x => ?_)); first | exact sdT | skip) | (refine Stp.go ?_) | (refine WPA.ifT ?_) | (refine WPA.ifF ?_) | ((first | refine WPA.dec ?_); first | refine orL ?_ | refine orR ?_) | ((first | refine WPA.ifBt ?_ ?_ | refine WPA.ifBnf ?_ ?_); assumption) | ((first | refine WPA.ifBnt ?_ ?_ | refine WPA.ifBf ?_ ?_); assumption) | ((first | refine WPA.ifs ?_ ?_ | refine WPA.ifB ?_ ?_) <;> intro hc))
  exact QQ.end_ rfl x rfl fun w h => by
    have h2 : SL w0 I (LitS 9 x mk3 :: L) w := h
    exact h2.to
end
end Go.Proofs.YthkhneimfjaohaaGreatDoor
