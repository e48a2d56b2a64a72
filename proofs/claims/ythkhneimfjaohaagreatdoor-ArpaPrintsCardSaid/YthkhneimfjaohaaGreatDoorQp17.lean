/- Texts that ArpaPrints_law leans on, part 17. Conditions: none. -/
import Derived.Test.YthkhneimfjaohaaGreatDoorQp16
namespace Go.Proofs.YthkhneimfjaohaaGreatDoor
open Go Go.Fw Go.RowKit
set_option linter.unusedVariables false
set_option linter.unusedSimpArgs false
set_option maxRecDepth 100000
set_option maxHeartbeats 16000000
set_option synthInstance.maxHeartbeats 200000
set_option synthInstance.maxSize 100000
attribute [local irreducible] WPA WLA WDA WDQ WDE QQ seqQ blockQ loopQ fnQ OpP OpT Tr TrP SL SLd OwnS LitS Bk BkE Ob
attribute [local irreducible] TblH VocH TabP PrnR
def cntsB : Nat → List (List EV) → ByteArray
  | _, [] => ⟨#[]⟩
  | k, l :: A => ((ngB (k + 1) ++ intS l.length) ++ nlB) ++ cntsB (k + 1) A
def secsB (ws : List ByteArray) (N : Nat) : Nat → List (List EV) → ByteArray
  | _, [] => ⟨#[]⟩
  | k, l :: A => secTB ws (decide (k + 1 = N)) (k + 1) l ++ secsB ws N (k + 1) A
def printB (fr : Int) (ws : List ByteArray) (A : List (List EV)) : ByteArray := (((((dataB ++ nlB) ++ ((fracB ++ intS fr) ++ nlB)) ++ cntsB 0 A) ++ nlB) ++ secsB ws A.length 0 A) ++ (endB ++ nlB)
theorem entE_G {xs : List Int} {p b n words : Int} {last : Bool} (h : entE xs p b n words last = 0) : (((xs.length : Int) = n ∧ ¬ BadW words xs) ∧ CodeP p ∧ CodeP b) ∧ ¬ 1 ∈ xs.drop 1 ∧ (last = true → b = 0) := by
  unfold entE at h
  split at h
  · cases h
  split at h
  · cases h
  split at h
  · cases h
  split at h
  · cases h
  split at h
  · cases h
  · rename_i h1 h2 h3 h4 h5
    have h4' := Classical.byContradiction h4
    exact ⟨⟨⟨Classical.byContradiction h1, h2⟩, h4'.1, h4'.2⟩, h3, fun hl => Classical.byContradiction fun hb => h5 ⟨hl, hb⟩⟩
theorem chkEA_ent {nW : Nat} {top : Bool} {k : Nat} {es ps : List EV} {i : Nat} (h : chkEA nW top k es ps i = 0) : entE (aE es (i : Int)).2 (aE es (i : Int)).1.1 (aE es (i : Int)).1.2 ((k : Int) + 1) nW top = 0 := by
  unfold chkEA at h
  split at h
  · rename_i h1; exact absurd h h1
  · rename_i h1; exact Classical.byContradiction h1
theorem chkLsA_ent {nW : Nat} {top : Bool} {k : Nat} {es ps : List EV} (h : chkLsA nW top k es ps = 0) : (∀ i, i < es.length → chkEA nW top k es ps i = 0) ∧ (k = 0 → es.length = nW) := by
  unfold chkLsA at h
  split at h
  · rename_i h1; exact absurd h h1
  · rename_i h1
    refine ⟨firstN_zero (Classical.byContradiction h1), fun hk => Classical.byContradiction fun hne => ?_⟩
    rw [if_pos ⟨hk, hne⟩] at h
    cases h
theorem aE_mem {es : List EV} {e : EV} (h : e ∈ es) : ∃ i : Nat, i < es.length ∧ aE es (i : Int) = e := by
  obtain ⟨i, hi, rfl⟩ := List.getElem_of_mem h
  exact ⟨i, hi, by unfold aE; rw [Int.toNat_natCast, List.getD_eq_getElem?_getD, List.getElem?_eq_getElem hi]; rfl⟩
theorem chkA_zero {fr : Int} {ws : List ByteArray} {A : List (List EV)} (h : chkA fr ws A = 0) : (0 ≤ fr ∧ fr ≤ 12 ∧ 1 ≤ A.length ∧ A.length ≤ 8) ∧ ofE ws = 0 ∧ ∀ k : Nat, k < A.length → ((∀ e ∈ aL A (k : Int), EntG ws.length (k + 1) e ∧ ¬ 1 ∈ e.2.drop 1 ∧ (k + 1 = A.length → e.1.2 = 0)) ∧ (k = 0 → (aL A (k : Int)).length = ws.length)) := by
  unfold chkA at h
  split at h
  · cases h
  split at h
  · rename_i h1; exact absurd h h1
  · rename_i h1 h2
    refine ⟨by omega, Classical.byContradiction h2, fun k hk => ?_⟩
    have hk2 := firstN_zero h k hk
    unfold chkLA at hk2
    obtain ⟨a1, a2⟩ := chkLsA_ent hk2
    refine ⟨fun e he => ?_, a2⟩
    obtain ⟨i, hi, rfl⟩ := aE_mem he
    obtain ⟨⟨⟨b1, b2⟩, b3, b4⟩, b5, b6⟩ := entE_G (chkEA_ent (a1 i hi))
    refine ⟨⟨by omega, fun x hx => ?_, b3, b4⟩, b5, fun e => b6 (decide_eq_true (by omega))⟩
    constructor
    · exact Classical.byContradiction fun hc => b2 ⟨x, hx, .inl (by omega)⟩
    · exact Classical.byContradiction fun hc => b2 ⟨x, hx, .inr (by omega)⟩
theorem WPA.prn {ro : Option Nat} {n : Nat} {Q : Hnd} {c : Code} {ρ : Env} {w0 : World} {I : Foot} {L : List HP} {b : Nat} (k : WPA ro Tryz.prog n c Q ρ (SL w0 I (PrnR b ⟨#[]⟩ :: L))) : WPA ro Tryz.prog n c Q ρ (SL w0 I (Bk b 51 [.pointer none, .slice none 0 0] :: L)) :=
  WPA.mono (fun w h => PrnR.new.sl h) k
section
variable {kg : SV → List Int} {re : SV → List En} {L : List HP} {w0 : World} {I : Foot}
theorem Print_trK {fr : Int} {w g : SV} {ws : List ByteArray} {gr : List SV} {A : List (List EV)} (hT : TabP w0) (h0 : w0.drawn = 0) (hM : MdI I kg re w g ws gr) (hA : (gr.map fun h => enV kg (re h)) = A) (hz : chkA fr ws A = 0 → (printB fr ws A).size ≤ 900000000) :
    Tr Tryz.prog 8 #[.agg #[.int .i64 fr, .slice w.a w.n w.cap, .slice g.a g.n g.cap]] (SL w0 I L) (fun _ : Unit => .tuple #[.string (if chkA fr ws A = 0 then printB fr ws A else ⟨#[]⟩), .int .i64 (chkA fr ws A)]) (fun _ => SL w0 I L) := by
  refine Tr.intro Tryz.func8 rfl Tryz.ntmps8 rfl ?_
  have hchk := fun {L : List HP} => Check_tr (w0 := w0) (L := L) (fr := fr) hM
  have hcA : chkM kg re fr ws gr = chkA fr ws A := by rw [chkM_A, hA]
  rw [hcA] at hchk
  by_cases hc : chkA fr ws A = 0
  · rw [if_pos hc]
    have hz := hz hc
    obtain ⟨⟨f1, f2, f3, f4⟩, f5, f6⟩ := chkA_zero hc
    rw [hc] at hchk ⊢
    have hAl : A.length = gr.length := by rw [← hA, List.length_map]
    have hr1 : SlI I g SV inferInstance gr := hM.grams
    obtain ⟨T, hTT⟩ : ∃ T, printB fr ws A = T := ⟨_, rfl⟩
    rw [hTT] at hz ⊢
    have nl1 : nlB.size = 1 := rfl
    have ht0 : dataB ++ nlB = dataB ++ nlB := rfl
    obtain ⟨T1, hT1⟩ : ∃ T1, dataB ++ nlB = T1 := ⟨_, rfl⟩
    obtain ⟨T2, hT2⟩ : ∃ T2, T1 ++ ((fracB ++ intS fr) ++ nlB) = T2 := ⟨_, rfl⟩
    obtain ⟨T3, hT3⟩ : ∃ T3, T2 ++ cntsB 0 A = T3 := ⟨_, rfl⟩
    obtain ⟨T4, hT4⟩ : ∃ T4, T3 ++ nlB = T4 := ⟨_, rfl⟩
    obtain ⟨T5, hT5⟩ : ∃ T5, T4 ++ secsB ws A.length 0 A = T5 := ⟨_, rfl⟩
    have hTe : T5 ++ (endB ++ nlB) = T := by rw [← hTT, ← hT5, ← hT4, ← hT3, ← hT2, ← hT1]; rfl
    have z5 := congrArg ByteArray.size hTe
    have z4 := congrArg ByteArray.size hT5
    have z3 := congrArg ByteArray.size hT4
    have z2 := congrArg ByteArray.size hT3
    have z1 := congrArg ByteArray.size hT2
    simp only [ByteArray.size_append] at z1 z2 z3 z4 z5
    have g1 : [dataB].foldl (· ++ ·) ⟨#[]⟩ ++ nlB = T1 := by
      have e9 : (⟨#[]⟩ : ByteArray) ++ dataB = dataB := ByteArray.empty_append
      simp only [List.foldl_cons, List.foldl_nil]
      rw [e9, hT1]
    have g1s : (⟨#[]⟩ : ByteArray).size + sumB [dataB] + 1 ≤ 1000000000 := by decide
    have g2 : [fracB, intS fr].foldl (· ++ ·) T1 ++ nlB = T2 := by simp only [List.foldl_cons, List.foldl_nil]; rw [← hT2]; simp only [ByteArray.append_assoc]
    have g2s : T1.size + sumB [fracB, intS fr] + 1 ≤ 1000000000 := by
      have e1 : sumB [fracB, intS fr] = fracB.size + (intS fr).size := by unfold sumB; simp only [List.map_cons, List.map_nil, List.sum_cons, List.sum_nil, Nat.add_zero]
      rw [e1]; omega
    have hitf := fun {L : List HP} => Itoa_tr (w0 := w0) (I := I) (L := L) (n := fr) hT ⟨by omega, by omega⟩
    repeat' ((fail_if_success (guard_target =~ WPA _ _ _ (.region 5 _ _) _ _ _)); first | ((first | refine WLA.m rfl rfl ?_ ?_ | refine WLA.st rfl ?_ ?_ | refine WLA.x rfl rfl ?_ (fun x => ?_) | refine WLA.x0 rfl ?_ (fun x => ?_)); first | exact trivial | exact rfl | assumption | omega | (refine ⟨?_, ?_⟩ <;> omega) | (simp only [Room, lenS]; omega) | decide | skip) | (refine Stp.go ?_) | (guard_target =~ WLA _ _ _ _ _ (⟨_, .call ⟨.value (.func 15), _, _⟩, _, _, _, _⟩ :: _) _ _; refine WLA.call rfl rfl (hchk) ?_; rintro ⟨⟩) | (refine WPA.ifT ?_) | (refine WPA.ifF ?_) | ((first | refine WPA.dec ?_); first | refine .inl ⟨by first | assumption | omega | with_reducible rfl | (refine fun h => h ?_; first | assumption | with_reducible rfl) | (simp only [lenS] <;> omega) | decide, ?_⟩ | refine .inr ⟨by first | assumption | omega | with_reducible rfl | (refine fun h => h ?_; first | assumption | with_reducible rfl) | (simp only [lenS] <;> omega) | decide, ?_⟩) | ((first | refine WPA.ifBt ?_ ?_ | refine WPA.ifBnf ?_ ?_); assumption) | ((first | refine WPA.ifBnt ?_ ?_ | refine WPA.ifBf ?_ ?_); assumption) | ((first | refine WPA.ifs ?_ ?_ | refine WPA.ifB ?_ ?_) <;> intro hc))
    revert x; intro b; revert x; intro t1
    refine WPA.prn ?_
    repeat' (first | ((rw [g1])) | ((rw [g2])) | ((first | refine WLA.m rfl rfl ?_ ?_ | refine WLA.st rfl ?_ ?_ | refine WLA.x rfl rfl ?_ (fun x => ?_) | refine WLA.x0 rfl ?_ (fun x => ?_)); first | exact trivial | exact rfl | assumption | omega | (refine ⟨?_, ?_⟩ <;> omega) | (simp only [Room, lenS]; omega) | decide | skip) | (refine Stp.go ?_) | (guard_target =~ WLA _ _ _ _ _ (⟨_, .call ⟨.value (.func 16), _, _⟩, _, _, _, _⟩ :: _) _ _; refine WLA.call rfl rfl (lineO_tr g1s (by simp)) ?_; rintro ⟨⟩) | (guard_target =~ WLA _ _ _ _ _ (⟨_, .call ⟨.value (.func 16), _, _⟩, _, _, _, _⟩ :: _) _ _; refine WLA.call rfl rfl (lineO_tr g2s (by simp)) ?_; rintro ⟨⟩) | (guard_target =~ WLA _ _ _ _ _ (⟨_, .call ⟨.value (.func 17), _, _⟩, _, _, _, _⟩ :: _) _ _; refine WLA.call rfl rfl (hitf) ?_; rintro ⟨⟩) | (refine WPA.ifT ?_) | (refine WPA.ifF ?_) | ((first | refine WPA.dec ?_); first | refine .inl ⟨by first | assumption | omega | with_reducible rfl | (refine fun h => h ?_; first | assumption | with_reducible rfl) | (simp only [lenS] <;> omega) | decide, ?_⟩ | refine .inr ⟨by first | assumption | omega | with_reducible rfl | (refine fun h => h ?_; first | assumption | with_reducible rfl) | (simp only [lenS] <;> omega) | decide, ?_⟩) | ((first | refine WPA.ifBt ?_ ?_ | refine WPA.ifBnf ?_ ?_); assumption) | ((first | refine WPA.ifBnt ?_ ?_ | refine WPA.ifBf ?_ ?_); assumption) | ((first | refine WPA.ifs ?_ ?_ | refine WPA.ifB ?_ ?_) <;> intro hc))
    have hkA : ∀ k : Nat, k < gr.length → A.drop k = enV kg (re (at_ gr (k : Int))) :: A.drop (k + 1) := fun k hk => by
      rw [List.drop_eq_getElem_cons (by omega)]
      congr 1
      have : A[k]? = some (enV kg (re (at_ gr (k : Int)))) := by rw [← hA, List.getElem?_map, List.getElem?_eq_getElem hk, at_nat gr k hk]; rfl
      rw [List.getElem?_eq_getElem (by omega)] at this
      injection this
    refine WPA.loopS (σ := Nat × ByteArray) (fun y => [(1, .pointer (some ⟨t1, 0, none⟩)), (5, .pointer (some ⟨b, 0, none⟩)), (26, .slice g.a g.n g.cap), (27, .int .i64 gr.length), (28, .int .i64 y.1)])
      (fun y => y.1 ≤ gr.length ∧ y.2 ++ cntsB y.1 (A.drop y.1) = T3) (fun y => SL w0 I (PrnR b y.2 :: Bk t1 25 [.int .i64 fr, .slice w.a w.n w.cap, .slice g.a g.n g.cap] :: L)) (fun y => gr.length - y.1) (0, T2) ⟨rfl, rfl, rfl, rfl, rfl, trivial⟩ ⟨Nat.zero_le _, by dsimp only; rw [List.drop_zero]; exact hT3⟩ (fun w h => h.to) ?_
    rintro ⟨k, u⟩ ρ ⟨hk, hu⟩
    dsimp only at hk hu ⊢
    by_cases hlt : k < gr.length
    · have hlt' : (k : Int) < gr.length := by omega
      have hir : (0 : Int) ≤ k ∧ (k : Int) < gr.length := by omega
      have hm : at_ gr (k : Int) ∈ gr := by rw [at_nat gr k hlt]; exact List.getElem_mem _
      rw [hkA k hlt, cntsB] at hu
      have hrv := hM.rows _ hm
      have hrl := hM.rln _ hm
      obtain ⟨v, hv⟩ : ∃ v, at_ gr (k : Int) = v := ⟨_, rfl⟩
      rw [hv] at hu hrv hrl
      obtain ⟨es, hes⟩ : ∃ es, re v = es := ⟨_, rfl⟩
      rw [hes] at hu hrv hrl
      have hel : (enV kg es).length = es.length := by unfold enV; rw [List.length_map]
      rw [hel] at hu
      have en : (k : Int) + 1 = ((k + 1 : Nat) : Int) := by omega
      have q1 : [⟨#[110, 103, 114, 97, 109, 32]⟩, intS ((k + 1 : Nat) : Int), ⟨#[61]⟩, intS (es.length : Int)].foldl (· ++ ·) u ++ nlB = u ++ ((ngB (k + 1) ++ intS (es.length : Int)) ++ nlB) := by
        simp only [List.foldl_cons, List.foldl_nil]; unfold ngB; simp only [ByteArray.append_assoc]
      have z6 := congrArg ByteArray.size hu
      have z7 := congrArg ByteArray.size q1
      simp only [ByteArray.size_append, List.foldl_cons, List.foldl_nil] at z6 z7
      have q1s : u.size + sumB [⟨#[110, 103, 114, 97, 109, 32]⟩, intS ((k + 1 : Nat) : Int), ⟨#[61]⟩, intS (es.length : Int)] + 1 ≤ 1000000000 := by
        have e1 : sumB [⟨#[110, 103, 114, 97, 109, 32]⟩, intS ((k + 1 : Nat) : Int), ⟨#[61]⟩, intS (es.length : Int)] = (⟨#[110, 103, 114, 97, 109, 32]⟩ : ByteArray).size + ((intS ((k + 1 : Nat) : Int)).size + ((⟨#[61]⟩ : ByteArray).size + (intS (es.length : Int)).size)) := by unfold sumB; simp only [List.map_cons, List.map_nil, List.sum_cons, List.sum_nil, Nat.add_zero]
        rw [e1]; omega
      have hi1 := fun {L : List HP} => Itoa_tr (w0 := w0) (I := I) (L := L) (n := ((k + 1 : Nat) : Int)) hT ⟨by omega, by omega⟩
      have hi2 := fun {L : List HP} => Itoa_tr (w0 := w0) (I := I) (L := L) (n := (es.length : Int)) hT ⟨by omega, by omega⟩
      repeat' (first | ((rw [hv])) | ((rw [q1])) | ((guard_target =~ WLA _ _ _ _ _ (⟨_, .call ⟨.value (.func _), _, _⟩, _, _, _, _⟩ :: _) _ _; rw [en])) | ((first | refine WLA.m rfl rfl ?_ ?_ | refine WLA.st rfl ?_ ?_ | refine WLA.x rfl rfl ?_ (fun x => ?_) | refine WLA.x0 rfl ?_ (fun x => ?_)); first | exact trivial | exact rfl | assumption | omega | (refine ⟨?_, ?_⟩ <;> omega) | (simp only [Room, lenS]; omega) | decide | skip) | (refine Stp.go ?_) | (guard_target =~ WLA _ _ _ _ _ (⟨_, .call ⟨.value (.func 17), _, _⟩, _, _, _, _⟩ :: _) _ _; refine WLA.call rfl rfl (hi1) ?_; rintro ⟨⟩) | (guard_target =~ WLA _ _ _ _ _ (⟨_, .call ⟨.value (.func 17), _, _⟩, _, _, _, _⟩ :: _) _ _; refine WLA.call rfl rfl (hi2) ?_; rintro ⟨⟩) | (guard_target =~ WLA _ _ _ _ _ (⟨_, .call ⟨.value (.func 16), _, _⟩, _, _, _, _⟩ :: _) _ _; refine WLA.call rfl rfl (lineO_tr q1s (by simp)) ?_; rintro ⟨⟩) | (refine WPA.ifT ?_) | (refine WPA.ifF ?_) | ((first | refine WPA.dec ?_); first | refine .inl ⟨by first | assumption | omega | with_reducible rfl | (refine fun h => h ?_; first | assumption | with_reducible rfl) | (simp only [lenS] <;> omega) | decide, ?_⟩ | refine .inr ⟨by first | assumption | omega | with_reducible rfl | (refine fun h => h ?_; first | assumption | with_reducible rfl) | (simp only [lenS] <;> omega) | decide, ?_⟩) | ((first | refine WPA.ifBt ?_ ?_ | refine WPA.ifBnf ?_ ?_); assumption) | ((first | refine WPA.ifBnt ?_ ?_ | refine WPA.ifBf ?_ ?_); assumption) | ((first | refine WPA.ifs ?_ ?_ | refine WPA.ifB ?_ ?_) <;> intro hc))
      exact QQ.loopS (k + 1, u ++ ((ngB (k + 1) ++ intS (es.length : Int)) ++ nlB)) ⟨rfl, rfl, rfl, rfl, rfl, trivial⟩ ⟨hlt, by dsimp only; rw [← hu]; simp only [ByteArray.append_assoc]⟩ (by dsimp only; omega) (fun w h => h.to)
    have hlt' : ¬ (k : Int) < gr.length := by omega
    rw [List.drop_of_length_le (by omega), cntsB] at hu
    have hu3 : u = T3 := by
      have e9 : u ++ (⟨#[]⟩ : ByteArray) = u := ByteArray.append_empty
      rw [← hu, e9]
    rw [hu3]
    have g4 : T3.size + 1 ≤ 1000000000 := by omega
    repeat' (first | ((rw [hT4])) | ((first | refine WLA.m rfl rfl ?_ ?_ | refine WLA.st rfl ?_ ?_ | refine WLA.x rfl rfl ?_ (fun x => ?_) | refine WLA.x0 rfl ?_ (fun x => ?_)); first | exact trivial | exact rfl | assumption | omega | (refine ⟨?_, ?_⟩ <;> omega) | (simp only [Room, lenS]; omega) | decide | skip) | (refine Stp.go ?_) | (guard_target =~ WLA _ _ _ _ _ (⟨_, .call ⟨.value (.func 16), _, _⟩, _, _, _, _⟩ :: _) _ _; refine WLA.call rfl rfl (line0_tr g4) ?_; rintro ⟨⟩) | (refine WPA.ifT ?_) | (refine WPA.ifF ?_) | ((first | refine WPA.dec ?_); first | refine .inl ⟨by first | assumption | omega | with_reducible rfl | (refine fun h => h ?_; first | assumption | with_reducible rfl) | (simp only [lenS] <;> omega) | decide, ?_⟩ | refine .inr ⟨by first | assumption | omega | with_reducible rfl | (refine fun h => h ?_; first | assumption | with_reducible rfl) | (simp only [lenS] <;> omega) | decide, ?_⟩) | ((first | refine WPA.ifBt ?_ ?_ | refine WPA.ifBnf ?_ ?_); assumption) | ((first | refine WPA.ifBnt ?_ ?_ | refine WPA.ifBf ?_ ?_); assumption) | ((first | refine WPA.ifs ?_ ?_ | refine WPA.ifB ?_ ?_) <;> intro hc))
    refine WPA.loopS (σ := Nat × ByteArray) (fun y => [(1, .pointer (some ⟨t1, 0, none⟩)), (5, .pointer (some ⟨b, 0, none⟩)), (46, .slice g.a g.n g.cap), (47, .int .i64 gr.length), (48, .int .i64 y.1)])
      (fun y => y.1 ≤ gr.length ∧ y.2 ++ secsB ws A.length y.1 (A.drop y.1) = T5) (fun y => SL w0 I (PrnR b y.2 :: Bk t1 25 [.int .i64 fr, .slice w.a w.n w.cap, .slice g.a g.n g.cap] :: L)) (fun y => gr.length - y.1) (0, T4) ⟨rfl, rfl, rfl, rfl, rfl, trivial⟩ ⟨Nat.zero_le _, by dsimp only; rw [List.drop_zero]; exact hT5⟩ (fun w h => h.to) ?_
    rintro ⟨m, q⟩ ρ ⟨hm, hq⟩
    dsimp only at hm hq ⊢
    by_cases hltm : m < gr.length
    · have hltm' : (m : Int) < gr.length := by omega
      rw [hkA m hltm, secsB] at hq
      have en : (m : Int) + 1 = ((m + 1 : Nat) : Int) := by omega
      have z6 := congrArg ByteArray.size hq
      simp only [ByteArray.size_append] at z6
      have haL : aL A (m : Int) = enV kg (re (at_ gr (m : Int))) := by
        unfold aL
        rw [Int.toNat_natCast, List.getD_eq_getElem?_getD, ← hA, List.getElem?_map, List.getElem?_eq_getElem hltm, at_nat gr m hltm]; rfl
      have hsec := fun {L L' : List HP} [FindK L PrnR b q L'] => section_tr (w0 := w0) (I := I) (L := L) (L' := L') (b := b) (t := q) (fr := fr) hT h0 hM hltm (by omega) (fun p hp => ((f6 m (by omega)).1 (p.2, kg p.1) (by rw [haL]; exact List.mem_map.2 ⟨p, hp, rfl⟩)).1) (by rw [hAl] at z6; rw [ByteArray.size_append]; omega)
      rw [hAl] at hq
      repeat' (first | ((guard_target =~ WLA _ _ _ _ _ (⟨_, .call ⟨.value (.func _), _, _⟩, _, _, _, _⟩ :: _) _ _; rw [en])) | ((first | refine WLA.m rfl rfl ?_ ?_ | refine WLA.st rfl ?_ ?_ | refine WLA.x rfl rfl ?_ (fun x => ?_) | refine WLA.x0 rfl ?_ (fun x => ?_)); first | exact trivial | exact rfl | assumption | omega | (refine ⟨?_, ?_⟩ <;> omega) | (simp only [Room, lenS]; omega) | decide | skip) | (refine Stp.go ?_) | (guard_target =~ WLA _ _ _ _ _ (⟨_, .call ⟨.value (.func 18), _, _⟩, _, _, _, _⟩ :: _) _ _; refine WLA.call rfl rfl (hsec) ?_; rintro ⟨⟩) | (refine WPA.ifT ?_) | (refine WPA.ifF ?_) | ((first | refine WPA.dec ?_); first | refine .inl ⟨by first | assumption | omega | with_reducible rfl | (refine fun h => h ?_; first | assumption | with_reducible rfl) | (simp only [lenS] <;> omega) | decide, ?_⟩ | refine .inr ⟨by first | assumption | omega | with_reducible rfl | (refine fun h => h ?_; first | assumption | with_reducible rfl) | (simp only [lenS] <;> omega) | decide, ?_⟩) | ((first | refine WPA.ifBt ?_ ?_ | refine WPA.ifBnf ?_ ?_); assumption) | ((first | refine WPA.ifBnt ?_ ?_ | refine WPA.ifBf ?_ ?_); assumption) | ((first | refine WPA.ifs ?_ ?_ | refine WPA.ifB ?_ ?_) <;> intro hc))
      exact QQ.loopS (m + 1, q ++ secTB ws (decide (m + 1 = gr.length)) (m + 1) (enV kg (re (at_ gr (m : Int))))) ⟨rfl, rfl, rfl, rfl, rfl, trivial⟩ ⟨hltm, by dsimp only; rw [← hq, hAl]; simp only [ByteArray.append_assoc]⟩ (by dsimp only; omega) (fun w h => h.to)
    have hltm' : ¬ (m : Int) < gr.length := by omega
    rw [List.drop_of_length_le (by omega), secsB] at hq
    have hq3 : q = T5 := by
      have e9 : q ++ (⟨#[]⟩ : ByteArray) = q := ByteArray.append_empty
      rw [← hq, e9]
    rw [hq3]
    have g5 : [endB].foldl (· ++ ·) T5 ++ nlB = T := by simp only [List.foldl_cons, List.foldl_nil]; rw [← hTe]; simp only [ByteArray.append_assoc]
    have g5s : T5.size + sumB [endB] + 1 ≤ 1000000000 := by
      have e1 : sumB [endB] = endB.size := by unfold sumB; simp only [List.map_cons, List.map_nil, List.sum_cons, List.sum_nil, Nat.add_zero]
      rw [e1]; omega
    repeat' (first | ((rw [g5])) | ((first | refine WLA.m rfl rfl ?_ ?_ | refine WLA.st rfl ?_ ?_ | refine WLA.x rfl rfl ?_ (fun x => ?_) | refine WLA.x0 rfl ?_ (fun x => ?_)); first | exact trivial | exact rfl | assumption | omega | (refine ⟨?_, ?_⟩ <;> omega) | (simp only [Room, lenS]; omega) | decide | skip) | (refine Stp.go ?_) | (guard_target =~ WLA _ _ _ _ _ (⟨_, .call ⟨.value (.func 16), _, _⟩, _, _, _, _⟩ :: _) _ _; refine WLA.call rfl rfl (lineO_tr g5s (by simp)) ?_; rintro ⟨⟩) | (guard_target =~ WLA _ _ _ _ _ (⟨_, .call ⟨.value (.func 19), _, _⟩, _, _, _, _⟩ :: _) _ _; refine WLA.call rfl rfl (pString_tr) ?_; rintro ⟨⟩) | (refine WPA.ifT ?_) | (refine WPA.ifF ?_) | ((first | refine WPA.dec ?_); first | refine .inl ⟨by first | assumption | omega | with_reducible rfl | (refine fun h => h ?_; first | assumption | with_reducible rfl) | (simp only [lenS] <;> omega) | decide, ?_⟩ | refine .inr ⟨by first | assumption | omega | with_reducible rfl | (refine fun h => h ?_; first | assumption | with_reducible rfl) | (simp only [lenS] <;> omega) | decide, ?_⟩) | ((first | refine WPA.ifBt ?_ ?_ | refine WPA.ifBnf ?_ ?_); assumption) | ((first | refine WPA.ifBnt ?_ ?_ | refine WPA.ifBf ?_ ?_); assumption) | ((first | refine WPA.ifs ?_ ?_ | refine WPA.ifB ?_ ?_) <;> intro hc))
    exact QQ.end_ rfl () rfl fun w h => h.to
  · rw [if_neg hc]
    repeat' (first | ((first | refine WLA.m rfl rfl ?_ ?_ | refine WLA.st rfl ?_ ?_ | refine WLA.x rfl rfl ?_ (fun x => ?_) | refine WLA.x0 rfl ?_ (fun x => ?_)); first | exact trivial | exact rfl | assumption | omega | (refine ⟨?_, ?_⟩ <;> omega) | (simp only [Room, lenS]; omega) | decide | skip) | (refine Stp.go ?_) | (guard_target =~ WLA _ _ _ _ _ (⟨_, .call ⟨.value (.func 15), _, _⟩, _, _, _, _⟩ :: _) _ _; refine WLA.call rfl rfl (hchk) ?_; rintro ⟨⟩) | (refine WPA.ifT ?_) | (refine WPA.ifF ?_) | ((first | refine WPA.dec ?_); first | refine .inl ⟨by first | assumption | omega | with_reducible rfl | (refine fun h => h ?_; first | assumption | with_reducible rfl) | (simp only [lenS] <;> omega) | decide, ?_⟩ | refine .inr ⟨by first | assumption | omega | with_reducible rfl | (refine fun h => h ?_; first | assumption | with_reducible rfl) | (simp only [lenS] <;> omega) | decide, ?_⟩) | ((first | refine WPA.ifBt ?_ ?_ | refine WPA.ifBnf ?_ ?_); assumption) | ((first | refine WPA.ifBnt ?_ ?_ | refine WPA.ifBf ?_ ?_); assumption) | ((first | refine WPA.ifs ?_ ?_ | refine WPA.ifB ?_ ?_) <;> intro hc))
    exact QQ.end_ rfl () rfl fun w h => h.to
end
end Go.Proofs.YthkhneimfjaohaaGreatDoor
namespace Go.Proofs.YthkhneimfjaohaaGreatDoor
open Go Go.Fw Go.RowKit
set_option linter.unusedVariables false
set_option linter.unusedSimpArgs false
set_option maxRecDepth 100000
set_option maxHeartbeats 16000000
set_option synthInstance.maxHeartbeats 200000
set_option synthInstance.maxSize 100000
attribute [local irreducible] WPA WLA WDA WDQ WDE QQ seqQ blockQ loopQ fnQ OpP OpT Tr TrP SL SLd OwnS LitS Bk BkE Ob
theorem ba_ext {s t : ByteArray} (h : s.data.toList = t.data.toList) : s = t := ByteArray.ext (Array.toList_inj.1 h)
theorem tl_app (a b : ByteArray) : (a ++ b).data.toList = a.data.toList ++ b.data.toList := by rw [ByteArray.data_append, Array.toList_append]
theorem tl_ext (s : ByteArray) (a b : Nat) : (s.extract a b).data.toList = (s.data.toList.drop a).take (b - a) := by
  simp only [ByteArray.data_extract, Array.toList_extract, List.extract_eq_take_drop]
theorem tl_len (s : ByteArray) : s.data.toList.length = s.size := by rw [Array.length_toList]; rfl
theorem at_of {l1 l2 : List UInt8} {c : UInt8} {s : ByteArray} (h : s.data.toList = l1 ++ c :: l2) (hc : c ∉ l1) : atB s c = l1.length ∧ (befB s c).data.toList = l1 ∧ (aftB s c).data.toList = l2 := by
  have h1 : atB s c = l1.length := by
    unfold atB
    rcases ib_specA s.data.toList c with ⟨h1, h2⟩ | ⟨i, h1, h2, h3⟩
    · exact absurd (by rw [h, List.getElem?_append_right (Nat.le_refl _), Nat.sub_self]; rfl) (h2 l1.length)
    · rw [h1]
      rw [h] at h2 h3
      rcases Nat.lt_trichotomy i l1.length with hi | hi | hi
      · rw [List.getElem?_append_left hi, List.getElem?_eq_getElem hi] at h2
        injection h2 with h2
        exact absurd (h2 ▸ List.getElem_mem hi) hc
      · rw [hi]
      · exact absurd (by rw [List.getElem?_append_right (Nat.le_refl _), Nat.sub_self]; rfl) (h3 l1.length hi)
  refine ⟨h1, ?_, ?_⟩
  · unfold befB
    rw [tl_ext, h1, h, List.drop_zero, Int.toNat_natCast, Nat.sub_zero, List.take_left']
    rfl
  · unfold aftB
    have e1 : ((l1.length : Int) + 1).toNat = (l1 ++ [c]).length := by rw [List.length_append, List.length_singleton]; omega
    have e2 : l1 ++ c :: l2 = (l1 ++ [c]) ++ l2 := by simp
    rw [tl_ext, h1, e1, h, e2, List.drop_left' rfl, List.take_of_length_le]
    rw [← tl_len s, h, e2, List.length_append]; omega
theorem at_no {c : UInt8} {s : ByteArray} : ¬ 0 ≤ atB s c ↔ c ∉ s.data.toList := by
  constructor
  · intro h hm
    obtain ⟨l1, l2, e, hn⟩ : ∃ l1 l2, s.data.toList = l1 ++ c :: l2 ∧ c ∉ l1 := by
      generalize s.data.toList = l at hm
      induction l with
      | nil => cases hm
      | cons x l ih =>
        by_cases hx : c = x
        · subst hx; exact ⟨[], l, rfl, by simp⟩
        · obtain ⟨l1, l2, e, hn⟩ := ih (by rcases List.mem_cons.1 hm with h | h; exact absurd h hx; exact h)
          exact ⟨x :: l1, l2, by rw [e]; rfl, fun k => by rcases List.mem_cons.1 k with k | k; exact hx k; exact hn k⟩
    have := (at_of e hn).1
    omega
  · intro h hp
    unfold atB at hp
    rcases ib_specA s.data.toList c with ⟨h1, h2⟩ | ⟨i, h1, h2, h3⟩
    · rw [h1] at hp; omega
    · exact h (List.mem_of_getElem? h2)
theorem at_cut {a b : ByteArray} {c : UInt8} (h : c ∉ a.data.toList) : 0 ≤ atB ((a ++ oneB c) ++ b) c ∧ befB ((a ++ oneB c) ++ b) c = a ∧ aftB ((a ++ oneB c) ++ b) c = b := by
  have e : ((a ++ oneB c) ++ b).data.toList = a.data.toList ++ c :: b.data.toList := by rw [tl_app, tl_app]; show (_ ++ [c]) ++ _ = _; simp
  obtain ⟨h1, h2, h3⟩ := at_of e h
  exact ⟨by omega, ba_ext h2, ba_ext h3⟩
theorem spl_yes {c : UInt8} {s : ByteArray} (h : 0 ≤ atB s c) : splB s c = befB s c :: splB (aftB s c) c := by unfold splB; rw [cnt_some h, splF]
theorem spl_no {c : UInt8} {s : ByteArray} (h : ¬ 0 ≤ atB s c) : splB s c = [s] := by unfold splB; rw [cnt_none h, splF]
theorem joinB_one (x sep : ByteArray) : joinB [x] sep = x := ba_ext (by unfold joinB; simp [Go.Lib.join_one])
theorem joinB_cons (x y : ByteArray) (l : List ByteArray) (sep : ByteArray) : joinB (x :: y :: l) sep = (x ++ sep) ++ joinB (y :: l) sep := by
  apply ba_ext
  rw [tl_app, tl_app]
  unfold joinB
  simp [Go.Lib.join_cons, Go.Lib.joinTail]
theorem join_spl {c : UInt8} : ∀ {ws : List ByteArray}, ws ≠ [] → (∀ w ∈ ws, c ∉ w.data.toList) → splB (joinB ws (oneB c)) c = ws
  | [], h, _ => absurd rfl h
  | [w], _, h => by rw [joinB_one, spl_no (at_no.2 (h w List.mem_cons_self))]
  | w :: y :: l, _, h => by
    rw [joinB_cons]
    obtain ⟨h1, h2, h3⟩ := at_cut (a := w) (b := joinB (y :: l) (oneB c)) (h w List.mem_cons_self)
    rw [spl_yes h1, h2, h3, join_spl (by simp) fun w hw => h w (List.mem_cons_of_mem _ hw)]
theorem hasP_app (p s : ByteArray) : hasP (p ++ s) p ∧ cutP (p ++ s) p = s := by
  have h : hasP (p ++ s) p := by
    refine ⟨by rw [ByteArray.size_append]; omega, ba_ext ?_⟩
    rw [tl_ext, tl_app, List.drop_zero, Nat.sub_zero, List.take_left' (tl_len p)]
  refine ⟨h, ?_⟩
  unfold cutP
  rw [if_pos h]
  apply ba_ext
  rw [tl_ext, tl_app, List.drop_left' (tl_len p), List.take_of_length_le]
  rw [tl_len, ByteArray.size_append]; omega
end Go.Proofs.YthkhneimfjaohaaGreatDoor
namespace Go.Proofs.YthkhneimfjaohaaGreatDoor
open Go Go.Fw Go.RowKit
set_option linter.unusedVariables false
set_option linter.unusedSimpArgs false
set_option maxRecDepth 100000
set_option maxHeartbeats 16000000
set_option synthInstance.maxHeartbeats 200000
set_option synthInstance.maxSize 100000
attribute [local irreducible] WPA WLA WDA WDQ WDE QQ seqQ blockQ loopQ fnQ OpP OpT Tr TrP SL SLd OwnS LitS Bk BkE Ob
attribute [local irreducible] EntOk NumOk
theorem eB (t : ByteArray) : t ++ (⟨#[]⟩ : ByteArray) = t := ByteArray.append_empty
theorem Be (t : ByteArray) : (⟨#[]⟩ : ByteArray) ++ t = t := ByteArray.empty_append
end Go.Proofs.YthkhneimfjaohaaGreatDoor
namespace Go.Proofs.YthkhneimfjaohaaGreatDoor
open Go Go.Fw Go.RowKit
set_option linter.unusedVariables false
set_option linter.unusedSimpArgs false
set_option maxRecDepth 100000
set_option maxHeartbeats 16000000
set_option synthInstance.maxHeartbeats 200000
set_option synthInstance.maxSize 100000
attribute [local irreducible] WPA WLA WDA WDQ WDE QQ seqQ blockQ loopQ fnQ OpP OpT Tr TrP SL SLd OwnS LitS Bk BkE Ob
def NoB (c : UInt8) (s : ByteArray) : Prop := c ∉ s.data.toList
theorem NoB.app {c : UInt8} {a b : ByteArray} (h1 : NoB c a) (h2 : NoB c b) : NoB c (a ++ b) := by
  unfold NoB at *
  rw [tl_app]
  exact fun h => (List.mem_append.1 h).elim h1 h2
theorem NoB.lit {c : UInt8} {l : Array UInt8} (h : (l.toList.contains c) = false) : NoB c ⟨l⟩ := fun hm => by
  rw [List.contains_iff_mem.2 hm] at h; cases h
theorem nob_dec {c : UInt8} (hc : c.toNat < 48 ∨ 57 < c.toNat) (v : Nat) : NoB c (decL v) := by
  have one : ∀ m : Nat, 48 ≤ m → m ≤ 57 → NoB c ⟨#[UInt8.ofNat m]⟩ := fun m h1 h2 hm => by
    have e : c = UInt8.ofNat m := by simpa using hm
    have : c.toNat = m := by rw [e]; show m % 256 = m; omega
    omega
  induction v using Nat.strongRecOn with
  | ind v ih =>
    by_cases h : v < 10
    · rw [dec_lt h]; exact one _ (by omega) (by omega)
    · rw [dec_ge h]; exact (ih (v / 10) (by omega)).app (one _ (by omega) (by omega))
theorem nob_int {c : UInt8} (hc : c.toNat < 45) (v : Int) : NoB c (intS v) := by
  unfold intS
  split
  · refine NoB.app (fun hm => ?_) (nob_dec (.inl (by omega)) _)
    have e : c = 45 := by simpa [mnB] using hm
    subst e
    exact absurd hc (by decide)
  · exact nob_dec (.inl (by omega)) _
theorem ln_cut {l r : ByteArray} (h : NoB 10 l) : (¬ ¬ 0 ≤ atB ((l ++ nlB) ++ r) 10) ∧ befB ((l ++ nlB) ++ r) 10 = l ∧ aftB ((l ++ nlB) ++ r) 10 = r := by
  obtain ⟨h1, h2, h3⟩ := at_cut (a := l) (b := r) (c := 10) h
  exact ⟨fun k => k h1, h2, h3⟩
theorem join_nob {c d : UInt8} (hcd : c ≠ d) : ∀ {ws : List ByteArray}, (∀ w ∈ ws, NoB c w) → NoB c (joinB ws (oneB d))
  | [], _ => by intro h; simp [joinB, Go.Lib.join_nil] at h
  | [w], h => by rw [joinB_one]; exact h w List.mem_cons_self
  | w :: y :: l, h => by
    rw [joinB_cons]
    exact ((h w List.mem_cons_self).app (fun hm => hcd (by simpa [oneB] using hm))).app (join_nob hcd fun w hw => h w (List.mem_cons_of_mem _ hw))
structure WdOk (w : ByteArray) : Prop where
  piece : PieceP w
  n9 : NoB 9 w
  n10 : NoB 10 w
  n32 : NoB 32 w
structure EnOk (ws : List ByteArray) (o : Nat) (last : Bool) (e : EV) : Prop where
  len : e.2.length = o
  pos : 1 ≤ o
  wds : ∀ x ∈ e.2, WdOk (at_ ws x)
  prob : CodeP e.1.1
  back : CodeP e.1.2
  fin : last = true → e.1.2 = 0
def enT (ws : List ByteArray) (e : EV) : List ByteArray × Int × Int := (wordsB ws e.2, e.1.1, e.1.2)
def grTri (g : GrL) : List ByteArray × Int × Int := (g.words, g.prob, g.back)
theorem code_num {v : Int} (h : CodeP v) : NumOk (intS v) ∧ numV (intS v) = v := int_num ⟨by have := h.1; omega, by have := h.2; omega⟩
theorem nth_0 (a : ByteArray) (l : List ByteArray) : nthB (a :: l) 0 = a := rfl
theorem nth_1 (a b : ByteArray) (l : List ByteArray) : nthB (a :: b :: l) 1 = b := rfl
theorem nth_2 (a b c : ByteArray) (l : List ByteArray) : nthB (a :: b :: c :: l) 2 = c := rfl
section
variable {ws : List ByteArray} {o : Nat} {last : Bool} {e : EV}
theorem EnOk.words (h : EnOk ws o last e) : wordsB ws e.2 ≠ [] ∧ ∀ w ∈ wordsB ws e.2, WdOk w := by
  constructor
  · intro k
    have := congrArg List.length k
    unfold wordsB at this
    rw [List.length_map, h.len, List.length_nil] at this
    have := h.pos
    omega
  · intro w hw
    obtain ⟨x, hx, rfl⟩ := List.mem_map.1 hw
    exact h.wds x hx
def lnB (ws : List ByteArray) (last : Bool) (e : EV) : ByteArray := ((intS e.1.1 ++ tabB) ++ joinB (wordsB ws e.2) spB) ++ (if last then ⟨#[]⟩ else tabB ++ intS e.1.2)
theorem EnOk.nl (h : EnOk ws o last e) : NoB 10 (lnB ws last e) := by
  obtain ⟨h1, h2⟩ := h.words
  unfold lnB
  refine (((nob_int (by decide) _).app (NoB.lit rfl)).app (join_nob (by decide) fun w hw => (h2 w hw).n10)).app ?_
  cases last
  · exact (NoB.lit rfl).app (nob_int (by decide) _)
  · exact NoB.lit rfl
theorem EnOk.split (h : EnOk ws o last e) : splB (lnB ws last e) 9 = intS e.1.1 :: joinB (wordsB ws e.2) spB :: (if last then [] else [intS e.1.2]) := by
  obtain ⟨h1, h2⟩ := h.words
  have n1 : NoB 9 (intS e.1.1) := nob_int (by decide) _
  have n2 : NoB 9 (joinB (wordsB ws e.2) spB) := join_nob (by decide) fun w hw => (h2 w hw).n9
  have n3 : NoB 9 (intS e.1.2) := nob_int (by decide) _
  have key := join_spl (c := 9) (ws := intS e.1.1 :: joinB (wordsB ws e.2) spB :: (if last then [] else [intS e.1.2])) (by simp) (by
    intro w hw
    rcases List.mem_cons.1 hw with rfl | hw
    · exact n1
    rcases List.mem_cons.1 hw with rfl | hw
    · exact n2
    cases last
    · rw [List.mem_singleton.1 hw]; exact n3
    · cases hw)
  rw [← key]
  congr 1
  unfold lnB
  cases last
  · show _ = joinB [intS e.1.1, joinB (wordsB ws e.2) spB, intS e.1.2] (oneB 9)
    rw [joinB_cons, joinB_cons, joinB_one]
    show ((intS e.1.1 ++ tabB) ++ joinB (wordsB ws e.2) spB) ++ (tabB ++ intS e.1.2) = (intS e.1.1 ++ tabB) ++ ((joinB (wordsB ws e.2) spB ++ tabB) ++ intS e.1.2)
    simp only [ByteArray.append_assoc]
  · show _ = joinB [intS e.1.1, joinB (wordsB ws e.2) spB] (oneB 9)
    rw [joinB_cons, joinB_one]
    exact eB _
theorem EnOk.ent (h : EnOk ws o last e) (n : Int) : EntOk (o : Int) last (lnB ws last e) ∧ grTri (grF last n (lnB ws last e)) = enT ws e := by
  obtain ⟨h1, h2⟩ := h.words
  obtain ⟨p1, p2⟩ := code_num h.prob
  obtain ⟨b1, b2⟩ := code_num h.back
  have hj : splB (joinB (wordsB ws e.2) spB) 32 = wordsB ws e.2 := join_spl (c := 32) h1 fun w hw => (h2 w hw).n32
  have hl : (wordsB ws e.2).length = o := by unfold wordsB; rw [List.length_map, h.len]
  unfold EntOk grF grTri enT
  rw [h.split]
  cases last
  · rw [if_neg (by decide), if_neg (by decide), if_neg (by decide), nth_0, nth_1, nth_2, hj, hl, p2, b2]
    exact ⟨⟨rfl, ⟨p1, rfl⟩, fun w hw => (h2 w hw).piece, fun _ => b1⟩, rfl⟩
  · rw [if_pos rfl, if_pos rfl, nth_0, nth_1, hj, hl, p2, h.fin rfl]
    refine ⟨⟨rfl, ⟨p1, rfl⟩, fun w hw => (h2 w hw).piece, fun k => by cases k⟩, ?_⟩
    rw [if_pos rfl]
end
theorem secF_of {ws : List ByteArray} (o : Nat) (last : Bool) (r : ByteArray) : ∀ (es : List EV) (n : Int), (∀ e ∈ es, EnOk ws o last e) → ∃ gs n', secF (o : Int) last es.length (entsB ws last es ++ r) n = .ok (gs, r, n') ∧ gs.map grTri = es.map (enT ws)
  | [], n, _ => ⟨[], n, by rw [entsB, Be]; rfl, rfl⟩
  | e :: es, n, h => by
    have he := h e List.mem_cons_self
    obtain ⟨gs, n', i1, i2⟩ := secF_of o last r es (n + 1) fun x hx => h x (List.mem_cons_of_mem _ hx)
    obtain ⟨k1, k2, k3⟩ := ln_cut (l := lnB ws last e) (r := entsB ws last es ++ r) he.nl
    have et : entsB ws last (e :: es) ++ r = (lnB ws last e ++ nlB) ++ (entsB ws last es ++ r) := by rw [entsB, ByteArray.append_assoc]; rfl
    obtain ⟨e1, e2⟩ := he.ent n
    refine ⟨grF last n (lnB ws last e) :: gs, n', ?_, by rw [List.map_cons, List.map_cons, e2, i2]⟩
    rw [et, List.length_cons, secF, if_neg k1, k2, if_neg (fun k => k e1), k3, i1]
    rfl
theorem secB_nob (k : Nat) : NoB 10 (secB k) := ((NoB.lit rfl).app (nob_int (by decide) _)).app (NoB.lit rfl)
theorem ngB_nob (k : Nat) (v : Int) : NoB 10 (ngB k ++ intS v) := (((NoB.lit rfl).app (nob_int (by decide) _)).app (NoB.lit rfl)).app (nob_int (by decide) _)
theorem allF_of {ws : List ByteArray} (N : Nat) : ∀ (A : List (List EV)) (k : Nat) (n : Int), (∀ j : Nat, ∀ es, A[j]? = some es → ∀ e ∈ es, EnOk ws (k + j + 1) (decide (k + j + 1 = N)) e) → ∃ gss n', allF N (A.map fun l => (l.length : Int)) k (secsB ws N k A ++ (endB ++ nlB)) n = .ok (gss, ⟨#[]⟩, n') ∧ gss.map (fun gs => gs.map grTri) = A.map (fun es => es.map (enT ws))
  | [], k, n, _ => by
    obtain ⟨k1, k2, k3⟩ := ln_cut (l := endB) (r := ⟨#[]⟩) (NoB.lit rfl)
    have et : secsB ws N k [] ++ (endB ++ nlB) = (endB ++ nlB) ++ (⟨#[]⟩ : ByteArray) := by rw [secsB, Be, eB]
    refine ⟨[], n + 1 + 1, ?_, rfl⟩
    rw [et, List.map_nil, allF, if_neg k1, k2, if_neg (fun k => k rfl), k3, if_neg (fun k => k rfl)]
  | es :: A, k, n, h => by
    have hA : ∀ j : Nat, ∀ es, A[j]? = some es → ∀ e ∈ es, EnOk ws (k + 1 + j + 1) (decide (k + 1 + j + 1 = N)) e := fun j l hj e he => by
      have := h (j + 1) l (by simpa using hj) e he
      rwa [show k + (j + 1) + 1 = k + 1 + j + 1 by omega] at this
    obtain ⟨R, hR⟩ : ∃ R, secsB ws N (k + 1) A ++ (endB ++ nlB) = R := ⟨_, rfl⟩
    have e5 : decide ((k : Int) = (N : Int) - 1) = decide (k + 1 = N) := by rw [decide_eq_decide]; omega
    obtain ⟨gs, n1, s1, s2⟩ := secF_of (ws := ws) (k + 1) (decide (k + 1 = N)) ((⟨#[]⟩ ++ nlB) ++ R) es (n + 1) (fun e he => h 0 es rfl e he)
    obtain ⟨gss, n2, i1, i2⟩ := allF_of (ws := ws) N A (k + 1) (n1 + 1) hA
    obtain ⟨k1, k2, k3⟩ := ln_cut (l := secB (k + 1)) (r := entsB ws (decide (k + 1 = N)) es ++ ((⟨#[]⟩ ++ nlB) ++ R)) (secB_nob _)
    obtain ⟨q1, q2, q3⟩ := ln_cut (l := ⟨#[]⟩) (r := R) (NoB.lit rfl)
    have et : secsB ws N k (es :: A) ++ (endB ++ nlB) = (secB (k + 1) ++ nlB) ++ (entsB ws (decide (k + 1 = N)) es ++ ((⟨#[]⟩ ++ nlB) ++ R)) := by
      rw [secsB, secTB, ← hR, Be nlB]
      simp only [ByteArray.append_assoc]
    rw [hR] at i1
    refine ⟨gs :: gss, n2, ?_, by rw [List.map_cons, List.map_cons, s2, i2]⟩
    rw [et, List.map_cons, allF, if_neg k1, k2, if_neg (fun k => k rfl), k3, e5, Int.toNat_natCast, s1]
    dsimp only
    rw [if_neg q1, q2, if_neg (fun k => k rfl), q3, i1]
    rfl
theorem cnts_size : ∀ (A : List (List EV)) (k : Nat), A.length ≤ (cntsB k A).size
  | [], _ => Nat.zero_le _
  | l :: A, k => by
    have := cnts_size A (k + 1)
    have e1 : nlB.size = 1 := rfl
    rw [cntsB, List.length_cons, ByteArray.size_append, ByteArray.size_append, e1]; omega
theorem cntF_of (R : ByteArray) : ∀ (A : List (List EV)) (f : Nat) (n : Int) (cs : List Int), cs ≠ [] ∨ A ≠ [] → cs.length + A.length ≤ 8 → A.length < f → (∀ l ∈ A, l.length ≤ 1000000) → ∃ n', cntF f (aftB (cntsB cs.length A ++ (nlB ++ R)) 10) n (befB (cntsB cs.length A ++ (nlB ++ R)) 10) cs = .ok (cs ++ A.map (fun l => (l.length : Int)), R, n') ∧ ¬ ¬ 0 ≤ atB (cntsB cs.length A ++ (nlB ++ R)) 10
  | [], f, n, cs, h, h8, hf, _ => by
    obtain ⟨f, rfl⟩ : ∃ g, f = g + 1 := ⟨f - 1, by simp at hf; omega⟩
    obtain ⟨q1, q2, q3⟩ := ln_cut (l := ⟨#[]⟩) (r := R) (NoB.lit rfl)
    have et : cntsB cs.length [] ++ (nlB ++ R) = (⟨#[]⟩ ++ nlB) ++ R := by rw [cntsB, Be (nlB ++ R), Be nlB]
    refine ⟨n, ?_, by rw [et]; exact q1⟩
    rw [et, q2, q3, cntF, if_pos ⟨rfl, h.resolve_right (fun k => k rfl)⟩, List.map_nil, List.append_nil]
  | l :: A, f, n, cs, h, h8, hf, hl => by
    obtain ⟨f, rfl⟩ : ∃ g, f = g + 1 := ⟨f - 1, by omega⟩
    rw [List.length_cons] at h8 hf
    have hll := hl l List.mem_cons_self
    obtain ⟨n', i1, i2⟩ := cntF_of R A f (n + 1) (cs ++ [(l.length : Int)]) (.inl (by simp)) (by rw [List.length_append, List.length_singleton]; omega) (by omega) (fun x hx => hl x (List.mem_cons_of_mem _ hx))
    rw [List.length_append, List.length_singleton] at i1 i2
    obtain ⟨q1, q2, q3⟩ := ln_cut (l := ngB (cs.length + 1) ++ intS (l.length : Int)) (r := cntsB (cs.length + 1) A ++ (nlB ++ R)) (ngB_nob _ _)
    have et : cntsB cs.length (l :: A) ++ (nlB ++ R) = ((ngB (cs.length + 1) ++ intS (l.length : Int)) ++ nlB) ++ (cntsB (cs.length + 1) A ++ (nlB ++ R)) := by rw [cntsB, ByteArray.append_assoc]
    obtain ⟨p1, p2⟩ := int_num (v := (l.length : Int)) ⟨by omega, by omega⟩
    obtain ⟨c1, c2⟩ := hasP_app (ngB (cs.length + 1)) (intS (l.length : Int))
    refine ⟨n', ?_, by rw [et]; exact q1⟩
    have hne : ¬ (ngB (cs.length + 1) ++ intS (l.length : Int) = ⟨#[]⟩ ∧ cs ≠ []) := fun k => by
      have := congrArg ByteArray.size k.1
      unfold ngB at this
      simp only [ByteArray.size_append] at this
      have e1 : (⟨#[110, 103, 114, 97, 109, 32]⟩ : ByteArray).size = 6 := rfl
      have e2 : (⟨#[]⟩ : ByteArray).size = 0 := rfl
      omega
    rw [et, q2, q3, cntF, if_neg hne, if_neg (by omega), c2, p2, if_neg (fun k => k ⟨c1, p1⟩), if_neg (by omega), if_neg i2, i1, List.map_cons]
    simp
theorem headF_of {fr : Int} {A : List (List EV)} {R : ByteArray} (hfr : 0 ≤ fr ∧ fr ≤ 12) (h1 : A ≠ []) (h8 : A.length ≤ 8) (hl : ∀ l ∈ A, l.length ≤ 1000000) : ∃ n, headF ((dataB ++ nlB) ++ (((fracB ++ intS fr) ++ nlB) ++ (cntsB 0 A ++ (nlB ++ R)))) 0 = .ok ((fr, A.map fun l => (l.length : Int)), R, n) := by
  obtain ⟨a1, a2, a3⟩ := ln_cut (l := dataB) (r := ((fracB ++ intS fr) ++ nlB) ++ (cntsB 0 A ++ (nlB ++ R))) (NoB.lit rfl)
  obtain ⟨b1, b2, b3⟩ := ln_cut (l := fracB ++ intS fr) (r := cntsB 0 A ++ (nlB ++ R)) ((NoB.lit rfl).app (nob_int (by decide) _))
  obtain ⟨p1, p2⟩ := int_num (v := fr) ⟨by omega, by omega⟩
  obtain ⟨c1, c2⟩ := hasP_app fracB (intS fr)
  have hsz : A.length < (aftB (cntsB 0 A ++ (nlB ++ R)) 10).size + 1 := by
    obtain ⟨l, A', rfl⟩ := List.exists_cons_of_ne_nil h1
    obtain ⟨q1, q2, q3⟩ := ln_cut (l := ngB (0 + 1) ++ intS (l.length : Int)) (r := cntsB (0 + 1) A' ++ (nlB ++ R)) (ngB_nob _ _)
    have et : cntsB 0 (l :: A') ++ (nlB ++ R) = ((ngB (0 + 1) ++ intS (l.length : Int)) ++ nlB) ++ (cntsB (0 + 1) A' ++ (nlB ++ R)) := by rw [cntsB, ByteArray.append_assoc]
    have := cnts_size A' (0 + 1)
    have e1 : nlB.size = 1 := rfl
    rw [et, q3, ByteArray.size_append, ByteArray.size_append, List.length_cons, e1]; omega
  obtain ⟨n, i1, i2⟩ := cntF_of R A ((aftB (cntsB 0 A ++ (nlB ++ R)) 10).size + 1) (0 + 1 + 1 + 1) [] (.inr h1) (by simpa using h8) hsz hl
  refine ⟨n, ?_⟩
  unfold headF
  rw [List.length_nil] at i1 i2
  rw [if_neg a1, a2, if_neg (fun k => k rfl), a3, if_neg b1, b2, b3, c2, p2, if_neg (fun k => k ⟨c1, p1⟩), if_neg i2, i1]
  rfl
theorem idsN_keep : ∀ (l : List ByteArray) (i : Nat) (f : ByteArray → Option Int) (w : ByteArray) (v : Int), f w = some v → idsN l i f w = some v
  | [], _, _, _, _, h => h
  | x :: l, i, f, w, v, h => by
    rw [idsN]
    refine idsN_keep l (i + 1) _ w v ?_
    split
    · exact h
    · rename_i hx
      unfold setS
      rw [if_neg (fun e => hx (by rw [← e, h]; rfl))]
      exact h
theorem idsN_first : ∀ (l : List ByteArray) (i : Nat) (f : ByteArray → Option Int) (w : ByteArray) (j : Nat), l[j]? = some w → w ∉ l.take j → f w = none → idsN l i f w = some ((i + j : Nat) : Int)
  | [], _, _, _, _, h, _, _ => by simp at h
  | x :: l, i, f, w, 0, h, _, hf => by
    have e : x = w := by simpa using h
    subst e
    rw [idsN]
    refine idsN_keep l (i + 1) _ x _ ?_
    rw [if_neg (by rw [hf]; decide)]
    unfold setS
    rw [if_pos rfl]; rfl
  | x :: l, i, f, w, j + 1, h, hn, hf => by
    rw [List.take_succ_cons, List.mem_cons, not_or] at hn
    rw [idsN, idsN_first l (i + 1) _ w j (by simpa using h) hn.2 ?_]
    · congr 2; omega
    · split
      · exact hf
      · unfold setS
        rw [if_neg hn.1]; exact hf
section
variable {ws : List ByteArray} {f : ByteArray → Option Int}
theorem idsM_of (hf : ∀ j : Nat, j < ws.length → f (at_ ws (j : Int)) = some (j : Int)) {line : Int} : ∀ {G : List Int}, (∀ x ∈ G, 0 ≤ x ∧ x < ws.length) → idsM f line (wordsB ws G) = .ok G
  | [], _ => rfl
  | x :: G, h => by
    have hx := h x List.mem_cons_self
    have hfx := hf x.toNat (by omega)
    rw [Int.toNat_of_nonneg hx.1] at hfx
    show idsM f line (at_ ws x :: wordsB ws G) = _
    rw [idsM, hfx]
    dsimp only
    rw [idsM_of hf fun y hy => h y (List.mem_cons_of_mem _ hy)]; rfl
theorem rowF_of (hf : ∀ j : Nat, j < ws.length → f (at_ ws (j : Int)) = some (j : Int)) : ∀ {gs : List GrL} {es : List EV}, gs.map grTri = es.map (enT ws) → (∀ e ∈ es, ∀ x ∈ e.2, 0 ≤ x ∧ x < ws.length) → rowF f gs = .ok (es.map fun e => (e.2, e.1))
  | [], [], _, _ => rfl
  | [], _ :: _, h, _ => by cases h
  | _ :: _, [], h, _ => by cases h
  | g :: gs, e :: es, h, hx => by
    rw [List.map_cons, List.map_cons] at h
    injection h with h1 h2
    have hw : g.words = wordsB ws e.2 ∧ g.prob = e.1.1 ∧ g.back = e.1.2 := by
      unfold grTri enT at h1
      obtain ⟨a1, a2⟩ := Prod.mk.inj h1
      obtain ⟨a2, a3⟩ := Prod.mk.inj a2
      exact ⟨a1, a2, a3⟩
    rw [rowF, hw.1, idsM_of hf (hx e List.mem_cons_self)]
    dsimp only
    rw [rowF_of hf h2 fun e he => hx e (List.mem_cons_of_mem _ he), hw.2.1, hw.2.2]; rfl
theorem rowsF_of (hf : ∀ j : Nat, j < ws.length → f (at_ ws (j : Int)) = some (j : Int)) : ∀ {gss : List (List GrL)} {A : List (List EV)}, gss.map (fun gs => gs.map grTri) = A.map (fun es => es.map (enT ws)) → (∀ es ∈ A, ∀ e ∈ es, ∀ x ∈ e.2, 0 ≤ x ∧ x < ws.length) → rowsF f gss = .ok (A.map fun es => es.map fun e => (e.2, e.1))
  | [], [], _, _ => rfl
  | [], _ :: _, h, _ => by cases h
  | _ :: _, [], h, _ => by cases h
  | gs :: gss, es :: A, h, hx => by
    rw [List.map_cons, List.map_cons] at h
    injection h with h1 h2
    rw [rowsF, rowF_of hf h1 (hx es List.mem_cons_self)]
    dsimp only
    rw [rowsF_of hf h2 fun e he => hx e (List.mem_cons_of_mem _ he)]; rfl
end
theorem evs_of (A : List (List EV)) : evs (A.map fun es => es.map fun e => (e.2, e.1)) = A := by
  unfold evs ev
  rw [List.map_map]
  conv => rhs; rw [← List.map_id A]
  refine List.map_congr_left fun es _ => ?_
  show (es.map fun e => ((e.2, e.1) : EnL)).map _ = es
  rw [List.map_map]
  conv => rhs; rw [← List.map_id es]
  rfl
end Go.Proofs.YthkhneimfjaohaaGreatDoor
namespace Go.Proofs.YthkhneimfjaohaaGreatDoor
open Go Go.Fw Go.RowKit
set_option linter.unusedVariables false
set_option linter.unusedSimpArgs false
set_option maxRecDepth 100000
set_option maxHeartbeats 16000000
set_option synthInstance.maxHeartbeats 200000
set_option synthInstance.maxSize 100000
attribute [local irreducible] WPA WLA WDA WDQ WDE QQ seqQ blockQ loopQ fnQ OpP OpT Tr TrP SL SLd OwnS LitS Bk BkE Ob
theorem rise_at {a : Nat → Int} {n : Nat} (h1 : ∀ i, i < n → 0 ≤ a i ∧ a i < n) (h2 : ∀ i, i + 1 < n → a i < a (i + 1)) : ∀ i, i < n → a i = i := by
  have lo : ∀ i, i < n → (i : Int) ≤ a i := by
    intro i
    induction i with
    | zero => intro h; exact (h1 0 h).1
    | succ i ih => intro h; have := ih (by omega); have := h2 i h; omega
  have hi : ∀ d i, i + d < n → a i + d ≤ a (i + d) := by
    intro d
    induction d with
    | zero => intro i h; simp
    | succ d ih => intro i h; have := ih i (by omega); have := h2 (i + d) (by omega); rw [show i + (d + 1) = i + d + 1 by omega]; omega
  intro i h
  have h3 := hi (n - 1 - i) i (by omega)
  have h4 := (h1 (i + (n - 1 - i)) (by omega)).2
  have h5 := lo i h
  omega
theorem chkEA_ord {nW : Nat} {top : Bool} {k : Nat} {es ps : List EV} {i : Nat} (h : chkEA nW top k es ps i = 0) (hi : 0 < i) : cmpL (aE es ((i : Int) - 1)).2 (aE es (i : Int)).2 < 0 := by
  unfold chkEA at h
  split at h
  · rename_i h1; exact absurd h h1
  split at h
  · cases h
  · rename_i h1 h2
    exact Classical.byContradiction fun hc => h2 ⟨hi, by omega⟩
theorem chkA_ord {fr : Int} {ws : List ByteArray} {A : List (List EV)} (h : chkA fr ws A = 0) {k : Nat} (hk : k < A.length) : ∀ i : Nat, 0 < i → i < (aL A (k : Int)).length → cmpL (aE (aL A (k : Int)) ((i : Int) - 1)).2 (aE (aL A (k : Int)) (i : Int)).2 < 0 := by
  unfold chkA at h
  split at h
  · cases h
  split at h
  · rename_i h1; exact absurd h h1
  · have hk2 := firstN_zero h k hk
    unfold chkLA at hk2
    obtain ⟨a1, a2⟩ := chkLsA_ent hk2
    exact fun i h0 hi => chkEA_ord (a1 i hi) h0
section
variable {ws : List ByteArray}
theorem OfOk.mk (h : OfOk ws) {j : Nat} (hj : j < 3) : at_ ws (j : Int) = at_ mk3 (j : Int) := by
  unfold at_
  rw [Int.toNat_natCast, List.getD_eq_getElem?_getD, List.getD_eq_getElem?_getD, ← h.1.2, List.getElem?_take_of_lt hj]
theorem right_wd {w : ByteArray} (h : RightP w) : WdOk w := by
  have key : ∀ c : UInt8, c ∈ w.data.toList → ∃ j : Nat, j < w.size ∧ bt w (j : Int) = c.toNat := fun c hc => by
    obtain ⟨j, hj, e⟩ := List.getElem_of_mem hc
    have hj2 : j < w.size := by rw [tl_len] at hj; exact hj
    refine ⟨j, hj2, ?_⟩
    unfold bt
    rw [Int.toNat_natCast, dif_pos hj2, ← e]
    simp [ByteArray.getElem_eq_getElem_data]
  refine ⟨⟨h.2.1.1, fun j hj => (h.1 j hj).1⟩, fun hc => ?_, fun hc => ?_, fun hc => ?_⟩
  · obtain ⟨j, h1, h2⟩ := key _ hc
    exact (h.1 j h1).1 (by rw [h2]; exact .inl rfl)
  · obtain ⟨j, h1, h2⟩ := key _ hc
    exact (h.1 j h1).2 (by rw [h2]; rfl)
  · obtain ⟨j, h1, h2⟩ := key _ hc
    exact (h.1 j h1).1 (by rw [h2]; exact .inr (.inr (.inr (.inr rfl))))
theorem mk_wd : ∀ j : Nat, j < 3 → WdOk (at_ mk3 (j : Int)) ∧ (at_ mk3 (j : Int)).size ≤ 255 ∧ at_ mk3 (j : Int) ∉ mk3.take j := by
  intro j hj
  rcases j with _ | _ | _ | j
  · exact ⟨⟨by unfold PieceP; decide +kernel, NoB.lit rfl, NoB.lit rfl, NoB.lit rfl⟩, by decide +kernel, fun h => by cases h⟩
  · exact ⟨⟨by unfold PieceP; decide +kernel, NoB.lit rfl, NoB.lit rfl, NoB.lit rfl⟩, by decide +kernel, fun h => absurd (List.mem_singleton.1 h) (by decide +kernel)⟩
  · exact ⟨⟨by unfold PieceP; decide +kernel, NoB.lit rfl, NoB.lit rfl, NoB.lit rfl⟩, by decide +kernel, fun h => (List.mem_cons.1 h).elim (fun h => absurd h (by decide +kernel)) fun h => absurd (List.mem_singleton.1 h) (by decide +kernel)⟩
  · omega
theorem OfOk.wd (h : OfOk ws) {j : Nat} (hj : j < ws.length) : WdOk (at_ ws (j : Int)) ∧ (at_ ws (j : Int)).size ≤ 255 ∧ at_ ws (j : Int) ∉ ws.take j := by
  by_cases h3 : j < 3
  · rw [h.mk h3]
    obtain ⟨a, b, c⟩ := mk_wd j h3
    refine ⟨a, b, ?_⟩
    have e : ws.take j = mk3.take j := by rw [← h.1.2, List.take_take, Nat.min_eq_left (by omega)]
    rw [e]; exact c
  · obtain ⟨a, b⟩ := h.2.2 j (by omega) hj
    exact ⟨right_wd a, a.2.1.2, (findT_none _ _).1 b⟩
end
theorem print_parse {fr : Int} {ws : List ByteArray} {A : List (List EV)} (h : chkA fr ws A = 0) (hl : ∀ l ∈ A, l.length ≤ 1000000) : parseF (printB fr ws A) = .ok (fr, ws, A) := by
  obtain ⟨⟨f1, f2, f3, f4⟩, f5, f6⟩ := chkA_zero h
  have hof : OfOk ws := Classical.byContradiction fun k => ofE_no k f5
  have haL : ∀ (k : Nat) es, A[k]? = some es → aL A (k : Int) = es := fun k es e => by unfold aL; rw [Int.toNat_natCast, List.getD_eq_getElem?_getD, e]; rfl
  have hne : A ≠ [] := fun e => by rw [e] at f3; exact absurd f3 (by decide)
  have hen : ∀ j : Nat, ∀ es, A[j]? = some es → ∀ e ∈ es, EnOk ws (0 + j + 1) (decide (0 + j + 1 = A.length)) e := fun j es hj e he => by
    have hjl := (List.getElem?_eq_some_iff.1 hj).1
    obtain ⟨⟨g1, g2, g3, g4⟩, g5, g6⟩ := (f6 j hjl).1 e (by rw [haL j es hj]; exact he)
    refine ⟨by omega, by omega, fun x hx => ?_, g3, g4, fun k => g6 (by have := of_decide_eq_true k; omega)⟩
    have := g2 x hx
    have hw := (hof.wd (j := x.toNat) (by omega)).1
    rwa [Int.toNat_of_nonneg this.1] at hw
  obtain ⟨gss, n2, a1, a2⟩ := allF_of (ws := ws) A.length A 0
    ((headF_of (fr := fr) (R := secsB ws A.length 0 A ++ (endB ++ nlB)) ⟨f1, f2⟩ hne f4 hl).choose) hen
  have b1 := (headF_of (fr := fr) (R := secsB ws A.length 0 A ++ (endB ++ nlB)) ⟨f1, f2⟩ hne f4 hl).choose_spec
  generalize (headF_of (fr := fr) (R := secsB ws A.length 0 A ++ (endB ++ nlB)) ⟨f1, f2⟩ hne f4 hl).choose = n1 at a1 b1
  have hin : ∀ es ∈ A, ∀ e ∈ es, ∀ x ∈ e.2, 0 ≤ x ∧ x < ws.length := fun es hes e he => by
    obtain ⟨j, hj, rfl⟩ := List.getElem_of_mem hes
    exact ((f6 j hj).1 e (by rw [haL j _ (List.getElem?_eq_getElem hj)]; exact he)).1.2.1
  -- the words, told by the first order
  obtain ⟨es0, A', hA⟩ := List.exists_cons_of_ne_nil hne
  have h0 : A[0]? = some es0 := by rw [hA]; rfl
  have q0 := f6 0 (by omega)
  rw [haL 0 es0 h0] at q0
  have hlen0 := q0.2 rfl
  have hone : ∀ e ∈ es0, ∃ x, e.2 = [x] ∧ 0 ≤ x ∧ x < ws.length := fun e he => by
    obtain ⟨⟨g1, g2, _⟩, _⟩ := q0.1 e he
    match hx : e.2, g1 with
    | [x], _ => exact ⟨x, rfl, g2 x (by rw [hx]; exact List.mem_cons_self)⟩
  have hord := chkA_ord h (k := 0) (by omega)
  rw [haL 0 es0 h0] at hord
  have hpl : ∀ i : Nat, i < es0.length → (aE es0 (i : Int)).2 = [(i : Int)] := by
    have hmem : ∀ i : Nat, i < es0.length → aE es0 (i : Int) ∈ es0 := fun i hi => by unfold aE; rw [Int.toNat_natCast, List.getD_eq_getElem?_getD, List.getElem?_eq_getElem hi]; exact List.getElem_mem _
    have key := rise_at (a := fun i => (aE es0 (i : Int)).2.getD 0 0) (n := es0.length) (fun i hi => by
      obtain ⟨x, e1, e2, e3⟩ := hone _ (hmem i hi)
      rw [e1]
      exact ⟨e2, by rw [hlen0]; exact e3⟩) (fun i hi => by
      obtain ⟨x, e1, _⟩ := hone _ (hmem i (by omega))
      obtain ⟨y, e2, _⟩ := hone _ (hmem (i + 1) hi)
      have := hord (i + 1) (by omega) hi
      rw [show (((i + 1 : Nat) : Int) - 1) = (i : Int) by omega, e1, e2] at this
      rw [e1, e2]
      show x < y
      unfold cmpL at this
      split at this
      · assumption
      · split at this
        · exact absurd this (by decide)
        · unfold cmpL at this; exact absurd this (by decide))
    intro i hi
    obtain ⟨x, e1, _⟩ := hone _ (hmem i hi)
    have := key i hi
    rw [e1] at this ⊢
    have e3 : x = (i : Int) := this
    rw [e3]
  have hgd : (gss.getD 0 []).map grTri = es0.map (enT ws) := by
    have := congrArg (fun l => l.getD 0 []) a2
    rw [hA, List.map_cons] at this
    cases gss with
    | nil => rw [hA] at a2; cases a2
    | cons g gs => exact this
  have hwd : wdsF (gss.getD 0 []) = ws := by
    have e1 : wdsF (gss.getD 0 []) = (es0.map (enT ws)).map fun t => nthB t.1 0 := by rw [← hgd, List.map_map]; rfl
    rw [e1, List.map_map]
    apply List.ext_getElem
    · rw [List.length_map, hlen0]
    · intro i i1 i2
      rw [List.length_map] at i1
      rw [List.getElem_map]
      have := hpl i i1
      have e2 : aE es0 (i : Int) = es0[i] := by unfold aE; rw [Int.toNat_natCast, List.getD_eq_getElem?_getD, List.getElem?_eq_getElem i1]; rfl
      rw [e2] at this
      show nthB (wordsB ws es0[i].2) 0 = _
      rw [this]
      show at_ ws (i : Int) = _
      rw [at_nat ws i i2]
  have hf : ∀ j : Nat, j < ws.length → idF (gss.getD 0 []) (at_ ws (j : Int)) = some (j : Int) := fun j hj => by
    unfold idF
    rw [hwd, idsN_first ws 0 _ (at_ ws (j : Int)) j (by rw [List.getElem?_eq_getElem hj, at_nat ws j hj]) (hof.wd hj).2.2 rfl, Nat.zero_add]
  have c1 := rowsF_of hf a2 hin
  have et : printB fr ws A = (dataB ++ nlB) ++ (((fracB ++ intS fr) ++ nlB) ++ (cntsB 0 A ++ (nlB ++ (secsB ws A.length 0 A ++ (endB ++ nlB))))) := by unfold printB; simp only [ByteArray.append_assoc]
  unfold parseF
  rw [et, b1]
  dsimp only
  rw [List.length_map, a1]
  dsimp only
  rw [c1]
  dsimp only
  rw [hwd, evs_of, h, if_neg (fun k => k rfl)]
theorem int_size {v : Int} (h : -18446744073709551615 ≤ v ∧ v ≤ 18446744073709551615) : (intS v).size ≤ 21 := by
  unfold intS
  split
  · have := dec_20 (v := (-v).toNat) (by omega)
    rw [ByteArray.size_append]
    have e : mnB.size = 1 := rfl
    omega
  · have := dec_20 (v := v.toNat) (by omega)
    omega
theorem join_size (c : UInt8) : ∀ {ws : List ByteArray}, (∀ w ∈ ws, w.size ≤ 255) → (joinB ws (oneB c)).size ≤ 256 * ws.length
  | [], _ => by show 0 ≤ _; exact Nat.zero_le _
  | [w], h => by rw [joinB_one]; have := h w List.mem_cons_self; rw [List.length_singleton]; omega
  | w :: y :: l, h => by
    have := h w List.mem_cons_self
    have i := join_size c (ws := y :: l) fun w hw => h w (List.mem_cons_of_mem _ hw)
    rw [joinB_cons, ByteArray.size_append, ByteArray.size_append, List.length_cons, oneB_sz]; omega
theorem ents_size {ws : List ByteArray} {last : Bool} : ∀ {es : List EV}, (∀ e ∈ es, e.2.length ≤ 8 ∧ (∀ w ∈ wordsB ws e.2, w.size ≤ 255) ∧ CodeP e.1.1 ∧ CodeP e.1.2) → (entsB ws last es).size ≤ 2100 * es.length
  | [], _ => Nat.zero_le _
  | e :: es, h => by
    obtain ⟨h1, h2, h3, h4⟩ := h e List.mem_cons_self
    have i := ents_size (ws := ws) (last := last) (es := es) fun x hx => h x (List.mem_cons_of_mem _ hx)
    have a1 := int_size (v := e.1.1) ⟨by have := h3.1; omega, by have := h3.2; omega⟩
    have a2 := int_size (v := e.1.2) ⟨by have := h4.1; omega, by have := h4.2; omega⟩
    have a3 : (joinB (wordsB ws e.2) spB).size ≤ 256 * (wordsB ws e.2).length := join_size 32 h2
    have a4 : (wordsB ws e.2).length ≤ 8 := by unfold wordsB; rw [List.length_map]; exact h1
    have e1 : nlB.size = 1 := rfl
    have e2 : tabB.size = 1 := rfl
    have e3 : (if last then (⟨#[]⟩ : ByteArray) else tabB ++ intS e.1.2).size ≤ 22 := by
      cases last
      · rw [if_neg (by decide), ByteArray.size_append]; omega
      · exact Nat.zero_le _
    rw [entsB, ByteArray.size_append, List.length_cons]
    unfold entB
    simp only [ByteArray.size_append]
    omega
theorem secs_top {ws : List ByteArray} {N : Nat} : ∀ {A : List (List EV)} {k : Nat}, k + A.length ≤ 8 → (∀ es ∈ A, ∀ e ∈ es, e.2.length ≤ 8 ∧ (∀ w ∈ wordsB ws e.2, w.size ≤ 255) ∧ CodeP e.1.1 ∧ CodeP e.1.2) → (secsB ws N k A).size ≤ 2100 * (A.map List.length).sum + 40 * A.length
  | [], _, _, _ => Nat.zero_le _
  | es :: A, k, hk, h => by
    rw [List.length_cons] at hk
    have i := secs_top (ws := ws) (N := N) (A := A) (k := k + 1) (by omega) fun es hes => h es (List.mem_cons_of_mem _ hes)
    have a := ents_size (ws := ws) (last := decide (k + 1 = N)) (h es List.mem_cons_self)
    have b := int_size (v := ((k + 1 : Nat) : Int)) ⟨by omega, by omega⟩
    have e1 : nlB.size = 1 := rfl
    have e2 : (⟨#[92]⟩ : ByteArray).size = 1 := rfl
    have e3 : (⟨#[45, 103, 114, 97, 109, 115, 58]⟩ : ByteArray).size = 7 := rfl
    rw [secsB, ByteArray.size_append, List.map_cons, List.sum_cons, List.length_cons]
    unfold secTB secB
    simp only [ByteArray.size_append]
    omega
theorem cnts_top : ∀ {A : List (List EV)} {k : Nat}, k + A.length ≤ 8 → (∀ es ∈ A, es.length ≤ 1000000) → (cntsB k A).size ≤ 60 * A.length
  | [], _, _, _ => Nat.zero_le _
  | es :: A, k, hk, h => by
    rw [List.length_cons] at hk
    have i := cnts_top (A := A) (k := k + 1) (by omega) fun es hes => h es (List.mem_cons_of_mem _ hes)
    have hl := h es List.mem_cons_self
    have b := int_size (v := ((k + 1 : Nat) : Int)) ⟨by omega, by omega⟩
    have c := int_size (v := (es.length : Int)) ⟨by omega, by omega⟩
    have e1 : nlB.size = 1 := rfl
    have e2 : (⟨#[61]⟩ : ByteArray).size = 1 := rfl
    have e3 : (⟨#[110, 103, 114, 97, 109, 32]⟩ : ByteArray).size = 6 := rfl
    rw [cntsB, ByteArray.size_append, List.length_cons]
    unfold ngB
    simp only [ByteArray.size_append]
    omega
theorem le_sumN : ∀ {l : List Nat} {x : Nat}, x ∈ l → x ≤ l.sum
  | y :: l, x, h => by
    rw [List.sum_cons]
    rcases List.mem_cons.1 h with rfl | h
    · omega
    · have := le_sumN h; omega
theorem print_size {fr : Int} {ws : List ByteArray} {A : List (List EV)} (h : chkA fr ws A = 0) (hs : (A.map List.length).sum ≤ 200) : (printB fr ws A).size ≤ 500000 := by
  obtain ⟨⟨f1, f2, f3, f4⟩, f5, f6⟩ := chkA_zero h
  have hof : OfOk ws := Classical.byContradiction fun k => ofE_no k f5
  have hin : ∀ es ∈ A, ∀ e ∈ es, e.2.length ≤ 8 ∧ (∀ w ∈ wordsB ws e.2, w.size ≤ 255) ∧ CodeP e.1.1 ∧ CodeP e.1.2 := fun es hes e he => by
    obtain ⟨j, hj, rfl⟩ := List.getElem_of_mem hes
    have haL : aL A (j : Int) = A[j] := by unfold aL; rw [Int.toNat_natCast, List.getD_eq_getElem?_getD, List.getElem?_eq_getElem hj]; rfl
    obtain ⟨⟨g1, g2, g3, g4⟩, _⟩ := (f6 j hj).1 e (by rw [haL]; exact he)
    refine ⟨by omega, fun w hw => ?_, g3, g4⟩
    obtain ⟨x, hx, rfl⟩ := List.mem_map.1 hw
    have := g2 x hx
    have k := (hof.wd (j := x.toNat) (by omega)).2.1
    rwa [Int.toNat_of_nonneg this.1] at k
  have hl : ∀ es ∈ A, es.length ≤ 1000000 := fun es hes => by
    have : es.length ≤ (A.map List.length).sum := le_sumN (List.mem_map.2 ⟨es, hes, rfl⟩)
    omega
  have a := secs_top (ws := ws) (N := A.length) (A := A) (k := 0) (by omega) hin
  have b := cnts_top (A := A) (k := 0) (by omega) hl
  have c := int_size (v := fr) ⟨by omega, by omega⟩
  have e1 : nlB.size = 1 := rfl
  have e2 : dataB.size = 6 := rfl
  have e3 : fracB.size = 5 := rfl
  have e4 : endB.size = 5 := rfl
  unfold printB
  simp only [ByteArray.size_append]
  omega
end Go.Proofs.YthkhneimfjaohaaGreatDoor
