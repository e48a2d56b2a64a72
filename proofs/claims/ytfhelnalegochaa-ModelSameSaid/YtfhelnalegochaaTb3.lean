/- Tables of texts: made, grown. Conditions: none. -/
import Derived.Test.YtfhelnalegochaaTb2
namespace Go.Proofs.Ytfhelnalegochaa
open Go Go.Fw Go.RowKit
set_option linter.unusedVariables false
set_option linter.unusedSimpArgs false
set_option maxRecDepth 100000
set_option maxHeartbeats 16000000
set_option synthInstance.maxHeartbeats 200000
set_option synthInstance.maxSize 100000
attribute [local irreducible] WPA WLA WDA WDQ WDE QQ seqQ blockQ loopQ fnQ OpP OpT Tr TrP SL SLd OwnS LitS Bk BkE Ob

structure TblG (texts : List ByteArray) (sl : List Int) : Prop where
  good : Good texts sl
  pow : ∃ k, sl.length = 8 * 2 ^ k ∧ (k = 0 ∨ sl.length < 4 * texts.length)
  room : 2 * texts.length ≤ sl.length
  few : texts.length ≤ 1000000000
  small : ∀ s ∈ texts, s.size ≤ 140737488355328
/-- What a table's own block holds. -/
def tbC (vt sa : SV) (B : Nat) : List Value := [.slice vt.a vt.n vt.cap, .slice sa.a sa.n sa.cap, .func (.func 122) #[] #[], .func (.func 123) #[] #[.pointer (some ⟨B, 0, none⟩)]]
structure TV where
  vt : SV
  sa : SV
  sl : List Int
  B : Nat
/-- The table at T. -/
def TblH (T : Nat) (texts : List ByteArray) : HP := exH fun y : TV => pureH (TblG texts y.sl) (star (Bk T 155 [.slice y.vt.a y.vt.n y.vt.cap, .slice y.sa.a y.sa.n y.sa.cap, .func (.func 122) #[] #[], .func (.func 123) #[] #[.pointer (some ⟨y.B, 0, none⟩)]])
  (star (OwnS 9 y.vt texts) (star (OwnS 21 y.sa (i32s y.sl)) (Bk y.B 110 [.pointer (some ⟨T, 0, none⟩)]))))
instance {T : Nat} {texts : List ByteArray} : Opn (TblH T texts) { y : TV // TblG texts y.sl } (fun y L => Bk T 155 [.slice y.1.vt.a y.1.vt.n y.1.vt.cap, .slice y.1.sa.a y.1.sa.n y.1.sa.cap, .func (.func 122) #[] #[], .func (.func 123) #[] #[.pointer (some ⟨y.1.B, 0, none⟩)]] :: OwnS 9 y.1.vt texts :: OwnS 21 y.1.sa (i32s y.1.sl) :: Bk y.1.B 110 [.pointer (some ⟨T, 0, none⟩)] :: L) := ⟨fun w0 I L w h => by
  obtain ⟨y, h⟩ := h.exH
  exact ⟨⟨y, h.pureH.1⟩, (Ent.unstar.trans (Ent.cons (Ent.unstar.trans (Ent.cons Ent.unstar)))).sl h.pureH.2⟩⟩
theorem TblH.fold {T B : Nat} {texts : List ByteArray} {vt sa : SV} {sl : List Int} {L : List HP} (h : TblG texts sl) : Ent (Bk T 155 [.slice vt.a vt.n vt.cap, .slice sa.a sa.n sa.cap, .func (.func 122) #[] #[], .func (.func 123) #[] #[.pointer (some ⟨B, 0, none⟩)]] :: OwnS 9 vt texts :: OwnS 21 sa (i32s sl) :: Bk B 110 [.pointer (some ⟨T, 0, none⟩)] :: L) (TblH T texts :: L) :=
  Ent.ex (⟨vt, sa, sl, B⟩ : TV) (Ent.pure h (Ent.star (Ent.trans (Ent.cons (Ent.trans (Ent.cons (Ent.star Ent.refl)) (Ent.star Ent.refl))) (Ent.cons Ent.refl))))
theorem TNew_tr (w0 : World) (I : Foot) (L : List HP) : Tr Try.prog 95 #[] (SL w0 I L) (fun T : Nat => .pointer (some ⟨T, 0, none⟩)) (fun T => SL w0 I (TblH T [] :: L)) := by
  refine Tr.intro Try.func95 rfl Try.ntmps95 rfl ?_
  repeat' (first | ((first | refine WLA.m rfl rfl ?_ ?_ | refine WDQ.m rfl rfl ?_ ?_ | refine WLA.st rfl ?_ ?_ | refine WLA.x rfl rfl ?_ (fun x => ?_) | refine WLA.x0 rfl ?_ (fun x => ?_)); first | exact trivial | exact rfl | assumption | omega | (refine ⟨?_, ?_⟩ <;> omega) | (simp only [Room, List.length_set, List.length_append, List.length_cons, List.length_nil, List.length_replicate]; omega) | decide | skip) | (refine Stp.go ?_) | (refine WPA.ifT ?_) | (refine WPA.ifF ?_) | ((first | refine WPA.dec ?_); first | refine .inl ⟨by first | assumption | omega | with_reducible rfl | (refine fun h => h ?_; assumption) | (simp only [List.length_append, List.length_cons, List.length_nil, List.length_set] <;> omega) | decide, ?_⟩ | refine .inr ⟨by first | assumption | omega | with_reducible rfl | (refine fun h => h ?_; assumption) | (simp only [List.length_append, List.length_cons, List.length_nil, List.length_set] <;> omega) | decide, ?_⟩) | ((first | refine WPA.ifBt ?_ ?_ | refine WPA.ifBnf ?_ ?_); assumption) | ((first | refine WPA.ifBnt ?_ ?_ | refine WPA.ifBf ?_ ?_); assumption) | ((first | refine WPA.ifs ?_ ?_ | refine WPA.ifB ?_ ?_) <;> intro hc) | (guard_target =~ WPA _ _ _ (.region 2 _ true) _ _ _; refine WPA.drawT 4 (.q 0 (.q 2 (.e 1 (.q 3 .fin)))) mixed ?_ ?_; kernel_rfl) | (refine WDA.finish (tl := [⟨_, _, _, _, _, _⟩, ⟨_, _, _, _, _, _⟩, ⟨_, _, _, _, _, _⟩]) rfl ?_) | (refine WDQ.see rfl ?_) | (refine WDE.see rfl ?_) | (refine WDE.alloc rfl rfl (fun w h => h) (fun x => ?_)) | (refine WDE.stE rfl ?_) | (refine WDE.x rfl rfl ?_ ?_ (fun x => ?_); rotate_left 1; (intro x w h; first | exact h | exact Ent.drop1.sl h | exact SL.unI h | exact SL.to h); rotate_left 1; first | exact trivial | exact rfl | assumption | omega | (refine ⟨?_, ?_⟩ <;> omega) | (simp only [Room, List.length_set, List.length_append, List.length_cons, List.length_nil, List.length_replicate]; omega) | decide | skip))
  rename_i T B
  refine QQ.end_ rfl T rfl fun w h => ?_
  have e : List.replicate (Int.toNat 8) (toK .i32 0) = i32s (List.replicate 8 0) := rfl
  rw [e] at h
  have hg : TblG [] (List.replicate 8 0) := ⟨good_empty (by decide), ⟨0, rfl, .inl rfl⟩, by simp, by simp, by simp⟩
  have h2 : SL w0 I (Bk T 155 [.slice SV.nil.a SV.nil.n SV.nil.cap, .slice x.a x.n x.cap, .func (.func 122) #[] #[], .func (.func 123) #[] #[.pointer (some ⟨B, 0, none⟩)]] :: OwnS 21 x (i32s (List.replicate 8 0)) :: Bk B 110 [.pointer (some ⟨T, 0, none⟩)] :: L) w := h
  exact (TblH.fold (vt := SV.nil) (sa := x) (B := B) hg).sl h2.to
set_option maxHeartbeats 4000000 in
theorem grow_tr {B T p : Nat} {vt sa : SV} {texts : List ByteArray} {sl : List Int} {L : List HP} {w0 : World} {I : Foot}
    (hp : sl.length = 2 ^ p) (hp2 : p ≤ 39) (hnd : texts.Nodup) (hfew : texts.length < 2 * sl.length) (hn : texts.length ≤ 1000000000) (hsm : ∀ s ∈ texts, s.size ≤ 140737488355328) :
    Tr Try.prog 113 #[.pointer (some ⟨T, 1, none⟩), .int .i64 texts.length] (SL w0 I (Bk T 155 [.slice vt.a vt.n vt.cap, .slice sa.a sa.n sa.cap, .func (.func 122) #[] #[], .func (.func 123) #[] #[.pointer (some ⟨B, 0, none⟩)]] :: OwnS 9 vt texts :: OwnS 21 sa (i32s sl) :: Bk B 110 [.pointer (some ⟨T, 0, none⟩)] :: L)) (fun _ : SV × List Int => .tuple #[])
      (fun x w => (x.2.length = 2 * sl.length ∧ Good texts x.2) ∧ SL w0 I (Bk T 155 [.slice vt.a vt.n vt.cap, .slice x.1.a x.1.n x.1.cap, .func (.func 122) #[] #[], .func (.func 123) #[] #[.pointer (some ⟨B, 0, none⟩)]] :: OwnS 9 vt texts :: OwnS 21 x.1 (i32s x.2) :: Bk B 110 [.pointer (some ⟨T, 0, none⟩)] :: L) w) := by
  have hm0 : 0 < sl.length := by rw [hp]; exact Nat.pow_pos (by omega)
  have hm1 : sl.length ≤ 549755813888 := by
    have : 2 ^ p ≤ 2 ^ 39 := Nat.pow_le_pow_right (by omega) hp2
    omega
  have hlen := i32s_len sl
  refine Tr.intro Try.func113 rfl Try.ntmps113 rfl ?_
  repeat' (first | ((first | refine WLA.m rfl rfl ?_ ?_ | refine WLA.st rfl ?_ ?_ | refine WLA.x rfl rfl ?_ (fun x => ?_) | refine WLA.x0 rfl ?_ (fun x => ?_)); first | exact trivial | exact rfl | assumption | omega | (refine ⟨?_, ?_⟩ <;> omega) | (simp only [Room, List.length_set, List.length_append, List.length_cons, List.length_nil, List.length_replicate]; omega) | decide | skip) | (refine Stp.go ?_) | (refine WPA.ifT ?_) | (refine WPA.ifF ?_) | ((first | refine WPA.dec ?_); first | refine .inl ⟨by first | assumption | omega | with_reducible rfl | (refine fun h => h ?_; assumption) | (simp only [List.length_append, List.length_cons, List.length_nil, List.length_set] <;> omega) | decide, ?_⟩ | refine .inr ⟨by first | assumption | omega | with_reducible rfl | (refine fun h => h ?_; assumption) | (simp only [List.length_append, List.length_cons, List.length_nil, List.length_set] <;> omega) | decide, ?_⟩) | ((first | refine WPA.ifBt ?_ ?_ | refine WPA.ifBnf ?_ ?_); assumption) | ((first | refine WPA.ifBnt ?_ ?_ | refine WPA.ifBf ?_ ?_); assumption) | ((first | refine WPA.ifs ?_ ?_ | refine WPA.ifB ?_ ?_) <;> intro hc))
  have hz : List.replicate (2 * ((i32s sl).length : Int)).toNat (toK .i32 0) = i32s (List.replicate (2 * sl.length) 0) := by
    rw [hlen, show (2 * (sl.length : Int)).toNat = 2 * sl.length by omega]; rfl
  rw [hz]
  have g0 : Good (texts.take 0) (List.replicate (2 * sl.length) 0) := by rw [List.take_zero]; exact good_empty (by omega)
  refine WPA.loopS (σ := Nat × List Int) (fun y => [(0, .pointer (some ⟨T, 1, none⟩)), (15, .int .i64 texts.length), (16, .int .i64 y.1)]) (fun y => y.1 ≤ texts.length ∧ y.2.length = 2 * sl.length ∧ Good (texts.take y.1) y.2)
    (fun y => SL w0 I (Bk T 155 [.slice vt.a vt.n vt.cap, .slice x.a x.n x.cap, .func (.func 122) #[] #[], .func (.func 123) #[] #[.pointer (some ⟨B, 0, none⟩)]] :: OwnS 9 vt texts :: OwnS 21 x (i32s y.2) :: Bk B 110 [.pointer (some ⟨T, 0, none⟩)] :: L)) (fun y => texts.length - y.1) (0, List.replicate (2 * sl.length) 0) ⟨rfl, rfl, rfl, trivial⟩ ⟨by omega, by simp, g0⟩ (fun w h => h.to) ?_
  rintro ⟨i, s2⟩ ρ ⟨hi, hl, g⟩
  dsimp only at hi hl g ⊢
  by_cases hlt : i < texts.length
  · have hlt' : (i : Int) < texts.length := by omega
    have hat := at_nat texts i hlt
    have hs : texts[i] ∉ texts.take i := by
      intro hm
      obtain ⟨j, hj, e⟩ := List.getElem_of_mem hm
      rw [List.length_take] at hj
      rw [List.getElem_take] at e
      exact absurd e (List.pairwise_iff_getElem.1 hnd j i (by omega) hlt (by omega))
    have hsz := hsm _ (List.getElem_mem hlt)
    rw [← hat] at hs hsz
    have hltk : (texts.take i).length = i := by rw [List.length_take]; omega
    obtain ⟨f, d, hp1, hp2', hp3⟩ := g.free (by rw [hltk]; omega) hs
    have g' := g.insert hs hp2' hp3
    rw [hltk] at g'
    rw [show texts.take i ++ [at_ texts (i : Int)] = texts.take (i + 1) by rw [hat]; exact (List.take_succ_eq_append_getElem hlt).symm] at g'
    have hrng : ∀ q, q < s2.length → 0 ≤ s2.getD q 0 ∧ s2.getD q 0 ≤ i := fun q hq => by have := g.range q hq; rw [hltk] at this; exact this
    rw [placeL_take (k := i) hrng hi g.some_ f _ (start_lt g.some_ _)] at hp1
    have hr := pos_lt g.some_ (start s2 (at_ texts (i : Int))) d
    generalize pos s2.length (start s2 (at_ texts (i : Int))) d = r at hp1 hp2' g' hr
    have hrng2 : ∀ q, q < s2.length → 0 ≤ s2.getD q 0 ∧ s2.getD q 0 ≤ texts.length := fun q hq => ⟨(hrng q hq).1, by have := (hrng q hq).2; omega⟩
    have hpw : s2.length = 2 ^ (p + 1) := by rw [hl, hp, Nat.pow_succ]; omega
    have hp3' : p + 1 ≤ 40 := by omega
    have hn' : texts.length ≤ 2147483647 := by omega
    have hzi : 0 ≤ (i : Int) ∧ (i : Int) < texts.length := by omega
    have hl2 := i32s_len s2
    have hw : IntKind.i32.wrap ((i : Int) + 1) = (i : Int) + 1 := wrap_i32 (by omega)
    clear hrng g hp2' hp3
    repeat' (first | ((first | refine WLA.m rfl rfl ?_ ?_ | refine WDQ.m rfl rfl ?_ ?_ | refine WLA.st rfl ?_ ?_ | refine WLA.x rfl rfl ?_ (fun x => ?_) | refine WLA.x0 rfl ?_ (fun x => ?_)); first | exact trivial | exact rfl | assumption | omega | (refine ⟨?_, ?_⟩ <;> omega) | (simp only [Room, List.length_set, List.length_append, List.length_cons, List.length_nil, List.length_replicate]; omega) | decide | skip) | (refine Stp.go ?_) | (guard_target =~ WLA _ _ _ _ _ (⟨_, .call ⟨.value (.tmp _), _, _⟩, _, _, _, _⟩ :: _) _ _; refine WLA.cqV rfl rfl (key_tr hzi) ?_) | (guard_target =~ WLA _ _ _ _ _ (⟨_, .call ⟨.value (.func 112), _, _⟩, _, _, _, _⟩ :: _) _ _; refine WLA.cq rfl rfl (place_tr hpw hp3' hrng2 hn' hsz hp1) ?_) | (refine WPA.ifT ?_) | (refine WPA.ifF ?_) | ((first | refine WPA.dec ?_); first | refine .inl ⟨by first | assumption | omega | with_reducible rfl | (refine fun h => h ?_; assumption) | (simp only [List.length_append, List.length_cons, List.length_nil, List.length_set] <;> omega) | decide, ?_⟩ | refine .inr ⟨by first | assumption | omega | with_reducible rfl | (refine fun h => h ?_; assumption) | (simp only [List.length_append, List.length_cons, List.length_nil, List.length_set] <;> omega) | decide, ?_⟩) | ((first | refine WPA.ifBt ?_ ?_ | refine WPA.ifBnf ?_ ?_); assumption) | ((first | refine WPA.ifBnt ?_ ?_ | refine WPA.ifBf ?_ ?_); assumption) | ((first | refine WPA.ifs ?_ ?_ | refine WPA.ifB ?_ ?_) <;> intro hc) | (guard_target =~ WPA _ _ _ (.region 4 _ true) _ _ _; refine WPA.drawT 15 (.q 0 (.q 1 (.q 2 (.q 3 (.q 4 (.q 5 (.q 6 (.q 7 (.q 8 (.q 9 (.q 10 (.q 11 (.q 12 (.q 13 (.q 14 .fin))))))))))))))) mixed ?_ ?_; kernel_rfl) | (refine WDA.finish (tl := [⟨_, _, _, _, _, _⟩, ⟨_, _, _, _, _, _⟩]) rfl ?_) | (refine WDQ.see rfl ?_) | (guard_target =~ WDQ _ _ _ _ _ _ _ ⟨_, .call ⟨.value (.tmp _), _, _⟩, _, _, _, _⟩ _ _ _; refine WDQ.cqV rfl rfl (key_tr hzi) ?_) | (guard_target =~ WDQ _ _ _ _ _ _ _ ⟨_, .call ⟨.value (.func 112), _, _⟩, _, _, _, _⟩ _ _ _; refine WDQ.cq rfl rfl (place_tr hpw hp3' hrng2 hn' hsz hp1) ?_))
    refine QQ.loopS (i + 1, s2.set r ((i : Int) + 1)) ⟨rfl, rfl, rfl, trivial⟩ ⟨hlt, by rw [List.length_set]; exact hl, g'⟩ (by dsimp only; omega) (fun w h => ?_)
    have e : (i32s s2).set (r : Int).toNat (toK .i32 (IntKind.i32.wrap ((i : Int) + 1))) = i32s (s2.set r ((i : Int) + 1)) := by rw [hw]; rfl
    rw [e] at h
    exact h.to
  · have hlt' : ¬ (i : Int) < texts.length := by omega
    repeat' (first | ((first | refine WLA.m rfl rfl ?_ ?_ | refine WDQ.m rfl rfl ?_ ?_ | refine WDP.m rfl rfl ?_ ?_ | refine WLA.st rfl ?_ ?_ | refine WLA.x rfl rfl ?_ (fun x => ?_) | refine WLA.x0 rfl ?_ (fun x => ?_) | refine WDW.x rfl rfl ?_ (fun x => ?_) | refine WDW.st rfl ?_ ?_); first | exact trivial | exact rfl | assumption | omega | (refine ⟨?_, ?_⟩ <;> omega) | (simp only [Room, List.length_set, List.length_append, List.length_cons, List.length_nil, List.length_replicate]; omega) | decide | skip) | (refine Stp.go ?_) | (refine WPA.ifT ?_) | (refine WPA.ifF ?_) | ((first | refine WPA.dec ?_); first | refine .inl ⟨by first | assumption | omega | with_reducible rfl | (refine fun h => h ?_; assumption) | (simp only [List.length_append, List.length_cons, List.length_nil, List.length_set] <;> omega) | decide, ?_⟩ | refine .inr ⟨by first | assumption | omega | with_reducible rfl | (refine fun h => h ?_; assumption) | (simp only [List.length_append, List.length_cons, List.length_nil, List.length_set] <;> omega) | decide, ?_⟩) | ((first | refine WPA.ifBt ?_ ?_ | refine WPA.ifBnf ?_ ?_); assumption) | ((first | refine WPA.ifBnt ?_ ?_ | refine WPA.ifBf ?_ ?_); assumption) | ((first | refine WPA.ifs ?_ ?_ | refine WPA.ifB ?_ ?_) <;> intro hc) | (guard_target =~ WPA _ _ _ (.region 4 _ true) _ _ _; refine WPA.drawT 15 (.p 0 (.p 1 (.p 2 (.p 3 (.p 4 (.p 5 (.p 6 (.p 7 (.q 8 (.p 9 (.p 12 (.p 13 (.p 14 (.w 10 (.w 11 .fin))))))))))))))) mixed ?_ ?_; kernel_rfl) | (refine WDA.finish (tl := [⟨_, _, _, _, _, _⟩, ⟨_, _, _, _, _, _⟩]) rfl ?_) | (refine WDQ.see rfl ?_) | (refine WDP.see rfl ?_) | (refine WDW.see rfl ?_))
    have e : i = texts.length := by omega
    subst e
    rw [List.take_length] at g
    exact QQ.endn rfl (x, s2) rfl fun w h => ⟨⟨hl, g⟩, h⟩
end Go.Proofs.Ytfhelnalegochaa
