/- Texts that ArpaPrints_law leans on, part 18. Conditions: none. -/
import Derived.Test.YthkhneimfjaohaaGreatDoorQp17
namespace Go.Proofs.YthkhneimfjaohaaGreatDoor
open Go Go.Fw Go.RowKit
set_option linter.unusedVariables false
set_option linter.unusedSimpArgs false
set_option maxRecDepth 100000
set_option maxHeartbeats 16000000
set_option synthInstance.maxHeartbeats 200000
set_option synthInstance.maxSize 100000
attribute [local irreducible] WPA WLA WDA WDQ WDE QQ seqQ blockQ loopQ fnQ OpP OpT Tr TrP SL SLd OwnS LitS Bk BkE Ob
attribute [local irreducible] TblH VocH EntOk NumOk
theorem join_snoc (sep : ByteArray) : ∀ (xs : List ByteArray) (x : ByteArray), xs ≠ [] → joinB (xs ++ [x]) sep = (joinB xs sep ++ sep) ++ x
  | [], _, h => absurd rfl h
  | [y], x, _ => by show joinB [y, x] sep = _; rw [joinB_cons, joinB_one, joinB_one]
  | y :: z :: l, x, _ => by
    show joinB (y :: z :: (l ++ [x])) sep = _
    rw [joinB_cons, joinB_cons]
    have := join_snoc sep (z :: l) x (by simp)
    rw [show z :: (l ++ [x]) = (z :: l) ++ [x] from rfl, this]
    simp only [ByteArray.append_assoc]
theorem take_snoc {l : List ByteArray} {i : Nat} (h : i < l.length) : l.take (i + 1) = l.take i ++ [at_ l (i : Int)] := by
  rw [List.take_add_one, List.getElem?_eq_getElem h, ← at_nat l i h]; rfl
section
variable {L : List HP} {w0 : World} {I : Foot}
theorem rJoin_tr {a : SV} {l : List ByteArray} [ha : RdS I L a ByteArray inferInstance l] (hn : l.length ≤ 60) (hz : ∀ w ∈ l, w.size ≤ 255) : TrP Tryz.prog 29 #[.slice a.a a.n a.cap] (SL w0 I L) (.string (joinB l spB)) := by
  refine TrP.ofD fun u => Tr.intro Tryz.func29 rfl Tryz.ntmps29 rfl ?_
  repeat' (first | ((first | refine WLA.m rfl rfl ?_ ?_ | refine WLA.st rfl ?_ ?_ | refine WLA.x rfl rfl ?_ (fun x => ?_) | refine WLA.x0 rfl ?_ (fun x => ?_)); first | exact trivial | exact rfl | assumption | omega | (refine ⟨?_, ?_⟩ <;> omega) | (simp only [Room, lenS]; omega) | decide | skip) | (refine Stp.go ?_) | (refine WPA.ifT ?_) | (refine WPA.ifF ?_) | ((first | refine WPA.dec ?_); first | refine .inl ⟨by first | assumption | omega | with_reducible rfl | (refine fun h => h ?_; first | assumption | with_reducible rfl) | (simp only [lenS] <;> omega) | decide, ?_⟩ | refine .inr ⟨by first | assumption | omega | with_reducible rfl | (refine fun h => h ?_; first | assumption | with_reducible rfl) | (simp only [lenS] <;> omega) | decide, ?_⟩) | ((first | refine WPA.ifBt ?_ ?_ | refine WPA.ifBnf ?_ ?_); assumption) | ((first | refine WPA.ifBnt ?_ ?_ | refine WPA.ifBf ?_ ?_); assumption) | ((first | refine WPA.ifs ?_ ?_ | refine WPA.ifB ?_ ?_) <;> intro hc))
  refine WPA.loopS (σ := Nat) (fun i => [(0, .slice a.a a.n a.cap), (3, .string (joinB (l.take i) spB)), (4, .int .i64 i)]) (fun i => i ≤ l.length)
    (fun i => SLd w0 I L u) (fun i => l.length - i) 0 ⟨rfl, rfl, rfl, trivial⟩ (Nat.zero_le _) (fun w h => h) ?_
  intro i ρ hi
  by_cases hlt : i < l.length
  · have hlt' : (i : Int) < l.length := by omega
    have hjs : (joinB (l.take i) spB).size ≤ 256 * (l.take i).length := join_size 32 fun w hw => hz w (List.mem_of_mem_take hw)
    rw [List.length_take] at hjs
    have hw := hz _ (List.getElem_mem hlt)
    rw [← at_nat l i hlt] at hw
    have h32 : (⟨#[32]⟩ : ByteArray).size = 1 := rfl
    have hcat : (joinB (l.take i) spB ++ (⟨#[32]⟩ : ByteArray)).size = (joinB (l.take i) spB).size + 1 := by rw [ByteArray.size_append]; rfl
    have hsn := take_snoc hlt
    by_cases h0 : 0 < i
    · have h0' : (0 : Int) < i := by omega
      repeat' (first | ((first | refine WLA.m rfl rfl ?_ ?_ | refine WLA.st rfl ?_ ?_ | refine WLA.x rfl rfl ?_ (fun x => ?_) | refine WLA.x0 rfl ?_ (fun x => ?_)); first | exact trivial | exact rfl | assumption | omega | (refine ⟨?_, ?_⟩ <;> omega) | (simp only [Room, lenS]; omega) | decide | skip) | (refine Stp.go ?_) | (refine WPA.ifT ?_) | (refine WPA.ifF ?_) | ((first | refine WPA.dec ?_); first | refine .inl ⟨by first | assumption | omega | with_reducible rfl | (refine fun h => h ?_; first | assumption | with_reducible rfl) | (simp only [lenS] <;> omega) | decide, ?_⟩ | refine .inr ⟨by first | assumption | omega | with_reducible rfl | (refine fun h => h ?_; first | assumption | with_reducible rfl) | (simp only [lenS] <;> omega) | decide, ?_⟩) | ((first | refine WPA.ifBt ?_ ?_ | refine WPA.ifBnf ?_ ?_); assumption) | ((first | refine WPA.ifBnt ?_ ?_ | refine WPA.ifBf ?_ ?_); assumption) | ((first | refine WPA.ifs ?_ ?_ | refine WPA.ifB ?_ ?_) <;> intro hc))
      have e : joinB (l.take (i + 1)) spB = (joinB (l.take i) spB ++ ⟨#[32]⟩) ++ at_ l i := by rw [hsn, join_snoc spB _ _ (fun k => by have := congrArg List.length k; rw [List.length_take, List.length_nil] at this; omega)]
      exact QQ.loopS (i + 1) ⟨rfl, by rw [e]; rfl, rfl, trivial⟩ hlt (by omega) (fun w h => h)
    · have h0' : ¬ (0 : Int) < i := by omega
      obtain rfl : i = 0 := by omega
      repeat' (first | ((first | refine WLA.m rfl rfl ?_ ?_ | refine WLA.st rfl ?_ ?_ | refine WLA.x rfl rfl ?_ (fun x => ?_) | refine WLA.x0 rfl ?_ (fun x => ?_)); first | exact trivial | exact rfl | assumption | omega | (refine ⟨?_, ?_⟩ <;> omega) | (simp only [Room, lenS]; omega) | decide | skip) | (refine Stp.go ?_) | (refine WPA.ifT ?_) | (refine WPA.ifF ?_) | ((first | refine WPA.dec ?_); first | refine .inl ⟨by first | assumption | omega | with_reducible rfl | (refine fun h => h ?_; first | assumption | with_reducible rfl) | (simp only [lenS] <;> omega) | decide, ?_⟩ | refine .inr ⟨by first | assumption | omega | with_reducible rfl | (refine fun h => h ?_; first | assumption | with_reducible rfl) | (simp only [lenS] <;> omega) | decide, ?_⟩) | ((first | refine WPA.ifBt ?_ ?_ | refine WPA.ifBnf ?_ ?_); assumption) | ((first | refine WPA.ifBnt ?_ ?_ | refine WPA.ifBf ?_ ?_); assumption) | ((first | refine WPA.ifs ?_ ?_ | refine WPA.ifB ?_ ?_) <;> intro hc))
      have e : joinB (l.take (0 + 1)) spB = joinB (l.take 0) spB ++ at_ l ((0 : Nat) : Int) := by
        rw [hsn]
        show joinB [at_ l ((0 : Nat) : Int)] spB = (⟨#[]⟩ : ByteArray) ++ _
        rw [joinB_one, Be]
      exact QQ.loopS (0 + 1) ⟨rfl, by rw [e]; rfl, rfl, trivial⟩ hlt (by omega) (fun w h => h)
  · have hlt' : ¬ (i : Int) < l.length := by omega
    rw [List.take_of_length_le (by omega)]
    repeat' (first | ((first | refine WLA.m rfl rfl ?_ ?_ | refine WLA.st rfl ?_ ?_ | refine WLA.x rfl rfl ?_ (fun x => ?_) | refine WLA.x0 rfl ?_ (fun x => ?_)); first | exact trivial | exact rfl | assumption | omega | (refine ⟨?_, ?_⟩ <;> omega) | (simp only [Room, lenS]; omega) | decide | skip) | (refine Stp.go ?_) | (refine WPA.ifT ?_) | (refine WPA.ifF ?_) | ((first | refine WPA.dec ?_); first | refine .inl ⟨by first | assumption | omega | with_reducible rfl | (refine fun h => h ?_; first | assumption | with_reducible rfl) | (simp only [lenS] <;> omega) | decide, ?_⟩ | refine .inr ⟨by first | assumption | omega | with_reducible rfl | (refine fun h => h ?_; first | assumption | with_reducible rfl) | (simp only [lenS] <;> omega) | decide, ?_⟩) | ((first | refine WPA.ifBt ?_ ?_ | refine WPA.ifBnf ?_ ?_); assumption) | ((first | refine WPA.ifBnt ?_ ?_ | refine WPA.ifBf ?_ ?_); assumption) | ((first | refine WPA.ifs ?_ ?_ | refine WPA.ifB ?_ ?_) <;> intro hc))
    exact QQ.end_ rfl () rfl fun w h => h
end
section
variable {kg : SV → List Int} {re : SV → List En} {L : List HP} {w0 : World} {I : Foot}
theorem rPrint_tr {fr : Int} {w g : SV} {ws : List ByteArray} {gr : List SV} {A : List (List EV)} (hM : MdI I kg re w g ws gr) (hA : (gr.map fun h => enV kg (re h)) = A) (hfr : 0 ≤ fr ∧ fr ≤ 12) (hN : 1 ≤ gr.length ∧ gr.length ≤ 8)
    (hE : ∀ k : Nat, k < gr.length → ∀ p ∈ re (at_ gr (k : Int)), EntG ws.length (k + 1) (p.2, kg p.1)) (hw255 : ∀ x ∈ ws, x.size ≤ 255) (hz : (printB fr ws A).size ≤ 500000) :
    Tr Tryz.prog 11 #[.agg #[.int .i64 fr, .slice w.a w.n w.cap, .slice g.a g.n g.cap]] (SL w0 I L) (fun _ : Unit => .string (printB fr ws A)) (fun _ => SL w0 I L) := by
  refine Tr.intro Tryz.func11 rfl Tryz.ntmps11 rfl ?_
  have hAl : A.length = gr.length := by rw [← hA, List.length_map]
  have hr1 : SlI I g SV inferInstance gr := hM.grams
  have hr2 : SlI I w ByteArray inferInstance ws := hM.words
  obtain ⟨T, hTT⟩ : ∃ T, printB fr ws A = T := ⟨_, rfl⟩
  rw [hTT] at hz ⊢
  have nl1 : (⟨#[10]⟩ : ByteArray).size = 1 := rfl
  have tb1 : (⟨#[9]⟩ : ByteArray).size = 1 := rfl
  have eq1 : (⟨#[61]⟩ : ByteArray).size = 1 := rfl
  have bs1 : (⟨#[92]⟩ : ByteArray).size = 1 := rfl
  have ng6 : (⟨#[110, 103, 114, 97, 109, 32]⟩ : ByteArray).size = 6 := rfl
  have gm8 : (⟨#[45, 103, 114, 97, 109, 115, 58, 10]⟩ : ByteArray).size = 8 := rfl
  have hd0 : (⟨#[92, 100, 97, 116, 97, 92, 10, 102, 114, 97, 99, 61]⟩ : ByteArray).size = 12 := rfl
  have en6 : (⟨#[92, 101, 110, 100, 92, 10]⟩ : ByteArray).size = 6 := rfl
  obtain ⟨T2, hT2⟩ : ∃ T2, (dataB ++ nlB) ++ ((fracB ++ intS fr) ++ nlB) = T2 := ⟨_, rfl⟩
  obtain ⟨T3, hT3⟩ : ∃ T3, T2 ++ cntsB 0 A = T3 := ⟨_, rfl⟩
  obtain ⟨T4, hT4⟩ : ∃ T4, T3 ++ (⟨#[10]⟩ : ByteArray) = T4 := ⟨_, rfl⟩
  obtain ⟨T5, hT5⟩ : ∃ T5, T4 ++ secsB ws A.length 0 A = T5 := ⟨_, rfl⟩
  have hTe : T5 ++ (⟨#[92, 101, 110, 100, 92, 10]⟩ : ByteArray) = T := by rw [← hTT, ← hT5, ← hT4, ← hT3, ← hT2]; rfl
  have z5 := congrArg ByteArray.size hTe
  have z4 := congrArg ByteArray.size hT5
  have z3 := congrArg ByteArray.size hT4
  have z2 := congrArg ByteArray.size hT3
  rw [ByteArray.size_append] at z2 z3 z4 z5
  have zfr := int_size (v := fr) ⟨by omega, by omega⟩
  have hif := fun {L : List HP} => Int_tr (w0 := w0) (I := I) (L := L) (v := fr) ⟨by omega, by omega⟩
  have q2 : ((⟨#[92, 100, 97, 116, 97, 92, 10, 102, 114, 97, 99, 61]⟩ : ByteArray) ++ intS fr) ++ (⟨#[10]⟩ : ByteArray) = T2 := by
    rw [← hT2]
    have e : (⟨#[92, 100, 97, 116, 97, 92, 10, 102, 114, 97, 99, 61]⟩ : ByteArray) = (dataB ++ nlB) ++ fracB := by decide +kernel
    rw [e]
    simp only [ByteArray.append_assoc]
  have hkA : ∀ k : Nat, k < gr.length → A.drop k = enV kg (re (at_ gr (k : Int))) :: A.drop (k + 1) := fun k hk => by
    rw [List.drop_eq_getElem_cons (by omega)]
    congr 1
    have : A[k]? = some (enV kg (re (at_ gr (k : Int)))) := by rw [← hA, List.getElem?_map, List.getElem?_eq_getElem hk, at_nat gr k hk]; rfl
    rw [List.getElem?_eq_getElem (by omega)] at this
    injection this
  repeat' (first | ((guard_target =~ (_ : Nat) ≤ _; simp only [ByteArray.size_append]; omega)) | ((rw [q2])) | ((first | refine WLA.m rfl rfl ?_ ?_ | refine WLA.st rfl ?_ ?_ | refine WLA.x rfl rfl ?_ (fun x => ?_) | refine WLA.x0 rfl ?_ (fun x => ?_)); first | exact trivial | exact rfl | assumption | omega | (refine ⟨?_, ?_⟩ <;> omega) | (simp only [Room, lenS]; omega) | decide | skip) | (refine Stp.go ?_) | (guard_target =~ WLA _ _ _ _ _ (⟨_, .call ⟨.value (.func 28), _, _⟩, _, _, _, _⟩ :: _) _ _; refine WLA.call rfl rfl (hif) ?_; rintro ⟨⟩) | (refine WPA.ifT ?_) | (refine WPA.ifF ?_) | ((first | refine WPA.dec ?_); first | refine .inl ⟨by first | assumption | omega | with_reducible rfl | (refine fun h => h ?_; first | assumption | with_reducible rfl) | (simp only [lenS] <;> omega) | decide, ?_⟩ | refine .inr ⟨by first | assumption | omega | with_reducible rfl | (refine fun h => h ?_; first | assumption | with_reducible rfl) | (simp only [lenS] <;> omega) | decide, ?_⟩) | ((first | refine WPA.ifBt ?_ ?_ | refine WPA.ifBnf ?_ ?_); assumption) | ((first | refine WPA.ifBnt ?_ ?_ | refine WPA.ifBf ?_ ?_); assumption) | ((first | refine WPA.ifs ?_ ?_ | refine WPA.ifB ?_ ?_) <;> intro hc))
  revert x; intro t1
  refine WPA.freezeBk (b := t1) ?_
  obtain ⟨J, hJ⟩ : ∃ J, BkI t1 25 [.int .i64 fr, .slice w.a w.n w.cap, .slice g.a g.n g.cap] ++ I = J := ⟨_, rfl⟩
  have iJ : InI J t1 25 [.int .i64 fr, .slice w.a w.n w.cap, .slice g.a g.n g.cap] := by subst hJ; infer_instance
  have sJ : SubI J I := by subst hJ; infer_instance
  rw [hJ]
  clear hJ hr1 hr2
  have hr1 : SlI J g SV inferInstance gr := hM.grams.sub
  have hr2 : SlI J w ByteArray inferInstance ws := hM.words.sub
  refine WPA.loopS (σ := Nat × ByteArray) (fun y => [(1, .pointer (some ⟨t1, 0, none⟩)), (3, .string y.2), (4, .int .i64 y.1)])
    (fun y => y.1 ≤ gr.length ∧ y.2 ++ cntsB y.1 (A.drop y.1) = T3) (fun y => SL w0 J L) (fun y => gr.length - y.1) (0, T2) ⟨rfl, rfl, rfl, trivial⟩ ⟨Nat.zero_le _, by dsimp only; rw [List.drop_zero]; exact hT3⟩ (fun w h => h) ?_
  rintro ⟨k, u⟩ ρ ⟨hk, hu⟩
  dsimp only at hk hu ⊢
  by_cases hlt : k < gr.length
  · have hlt' : (k : Int) < gr.length := by omega
    have hir : (0 : Int) ≤ k ∧ (k : Int) < gr.length := by omega
    have hm : at_ gr (k : Int) ∈ gr := by rw [at_nat gr k hlt]; exact List.getElem_mem _
    rw [hkA k hlt, cntsB] at hu
    have hrv := hM.rows _ hm
    have hrl := hM.rln _ hm
    obtain ⟨v, hv⟩ : ∃ v, at_ gr (k : Int) = v := ⟨_, rfl⟩
    rw [hv] at hu hrv hrl
    obtain ⟨es, hes⟩ : ∃ es, re v = es := ⟨_, rfl⟩
    rw [hes] at hu hrv hrl
    have hrv' : SlI J v En inferInstance es := hrv.sub
    have hel : (enV kg es).length = es.length := by unfold enV; rw [List.length_map]
    rw [hel] at hu
    have en : (k : Int) + 1 = ((k + 1 : Nat) : Int) := by omega
    have z6 := congrArg ByteArray.size hu
    rw [ByteArray.size_append] at z6
    have zk := int_size (v := ((k + 1 : Nat) : Int)) ⟨by omega, by omega⟩
    have zl := int_size (v := (es.length : Int)) ⟨by omega, by omega⟩
    have q1 : ((((u ++ (⟨#[110, 103, 114, 97, 109, 32]⟩ : ByteArray)) ++ intS ((k + 1 : Nat) : Int)) ++ (⟨#[61]⟩ : ByteArray)) ++ intS (es.length : Int)) ++ (⟨#[10]⟩ : ByteArray) = u ++ ((ngB (k + 1) ++ intS (es.length : Int)) ++ nlB) := by
      unfold ngB; simp only [ByteArray.append_assoc]
    have hi1 := fun {L : List HP} => Int_tr (w0 := w0) (I := J) (L := L) (v := ((k + 1 : Nat) : Int)) ⟨by omega, by omega⟩
    have hi2 := fun {L : List HP} => Int_tr (w0 := w0) (I := J) (L := L) (v := (es.length : Int)) ⟨by omega, by omega⟩
    repeat' (first | ((guard_target =~ (_ : Nat) ≤ _; simp only [ByteArray.size_append]; omega)) | ((rw [hv])) | ((rw [q1])) | ((guard_target =~ WDE _ _ _ _ _ _ _ ⟨_, .call ⟨.value (.func _), _, _⟩, _, _, _, _⟩ _ _ _; rw [en])) | ((first | refine WLA.m rfl rfl ?_ ?_ | refine WDQ.m rfl rfl ?_ ?_ | refine WLA.st rfl ?_ ?_ | refine WLA.x rfl rfl ?_ (fun x => ?_) | refine WLA.x0 rfl ?_ (fun x => ?_)); first | exact trivial | exact rfl | assumption | omega | (refine ⟨?_, ?_⟩ <;> omega) | (simp only [Room, lenS]; omega) | decide | skip) | (refine Stp.go ?_) | (guard_target =~ WLA _ _ _ _ _ (⟨_, .call ⟨.value (.func 28), _, _⟩, _, _, _, _⟩ :: _) _ _; refine WLA.call rfl rfl (hi1) ?_; rintro ⟨⟩) | (guard_target =~ WLA _ _ _ _ _ (⟨_, .call ⟨.value (.func 28), _, _⟩, _, _, _, _⟩ :: _) _ _; refine WLA.call rfl rfl (hi2) ?_; rintro ⟨⟩) | (refine WPA.ifT ?_) | (refine WPA.ifF ?_) | ((first | refine WPA.dec ?_); first | refine .inl ⟨by first | assumption | omega | with_reducible rfl | (refine fun h => h ?_; first | assumption | with_reducible rfl) | (simp only [lenS] <;> omega) | decide, ?_⟩ | refine .inr ⟨by first | assumption | omega | with_reducible rfl | (refine fun h => h ?_; first | assumption | with_reducible rfl) | (simp only [lenS] <;> omega) | decide, ?_⟩) | ((first | refine WPA.ifBt ?_ ?_ | refine WPA.ifBnf ?_ ?_); assumption) | ((first | refine WPA.ifBnt ?_ ?_ | refine WPA.ifBf ?_ ?_); assumption) | ((first | refine WPA.ifs ?_ ?_ | refine WPA.ifB ?_ ?_) <;> intro hc) | (guard_target =~ WPA _ _ _ (.region 5 _ true) _ _ _; refine WPA.drawT 14 (.q 0 (.q 1 (.q 2 (.q 3 (.q 7 (.q 8 (.q 9 (.q 10 (.q 11 (.q 12 (.e 4 (.q 5 (.q 6 (.e 13 .fin)))))))))))))) mixed ?_ ?_; kernel_rfl) | (refine WDA.finish (tl := [⟨_, _, _, _, _, _⟩, ⟨_, _, _, _, _, _⟩, ⟨_, _, _, _, _, _⟩]) rfl ?_) | (refine WDQ.see rfl ?_) | (refine WDE.see rfl ?_) | (refine WDE.alloc rfl rfl (fun w h => h) (fun x => ?_)) | (refine WDE.stE rfl ?_) | (refine WDE.x rfl rfl ?_ ?_ (fun x => ?_); rotate_left 1; (intro x w h; first | exact h | exact Ent.drop1.sl h | exact SL.unI h | exact SL.to h); rotate_left 1; first | exact trivial | exact rfl | assumption | omega | (refine ⟨?_, ?_⟩ <;> omega) | (simp only [Room, lenS]; omega) | decide | skip) | (guard_target =~ WDE _ _ _ _ _ _ _ ⟨_, .call ⟨.value (.func 28), _, _⟩, _, _, _, _⟩ _ _ _; refine WDE.call rfl rfl (hi1) ?_ ?_; (intro x w h; first | exact h | exact Ent.drop1.sl h | exact SL.unI h | exact SL.to h); rintro ⟨⟩) | (guard_target =~ WDW _ _ _ _ _ _ _ ⟨_, .call ⟨.value (.func 28), _, _⟩, _, _, _, _⟩ _ _ _; refine WDW.call rfl rfl (hi1) ?_; rintro ⟨⟩) | (guard_target =~ WDE _ _ _ _ _ _ _ ⟨_, .call ⟨.value (.func 28), _, _⟩, _, _, _, _⟩ _ _ _; refine WDE.call rfl rfl (hi2) ?_ ?_; (intro x w h; first | exact h | exact Ent.drop1.sl h | exact SL.unI h | exact SL.to h); rintro ⟨⟩) | (guard_target =~ WDW _ _ _ _ _ _ _ ⟨_, .call ⟨.value (.func 28), _, _⟩, _, _, _, _⟩ _ _ _; refine WDW.call rfl rfl (hi2) ?_; rintro ⟨⟩))
    exact QQ.loopS (k + 1, u ++ ((ngB (k + 1) ++ intS (es.length : Int)) ++ nlB)) ⟨rfl, rfl, rfl, trivial⟩ ⟨hlt, by dsimp only; rw [← hu]; simp only [ByteArray.append_assoc]⟩ (by dsimp only; omega) (fun w h => h)
  have hlt' : ¬ (k : Int) < gr.length := by omega
  rw [List.drop_of_length_le (by omega), cntsB, eB] at hu
  subst hu
  repeat' (first | ((rw [hT4])) | ((first | refine WLA.m rfl rfl ?_ ?_ | refine WLA.st rfl ?_ ?_ | refine WLA.x rfl rfl ?_ (fun x => ?_) | refine WLA.x0 rfl ?_ (fun x => ?_)); first | exact trivial | exact rfl | assumption | omega | (refine ⟨?_, ?_⟩ <;> omega) | (simp only [Room, lenS]; omega) | decide | skip) | (refine Stp.go ?_) | (refine WPA.ifT ?_) | (refine WPA.ifF ?_) | ((first | refine WPA.dec ?_); first | refine .inl ⟨by first | assumption | omega | with_reducible rfl | (refine fun h => h ?_; first | assumption | with_reducible rfl) | (simp only [lenS] <;> omega) | decide, ?_⟩ | refine .inr ⟨by first | assumption | omega | with_reducible rfl | (refine fun h => h ?_; first | assumption | with_reducible rfl) | (simp only [lenS] <;> omega) | decide, ?_⟩) | ((first | refine WPA.ifBt ?_ ?_ | refine WPA.ifBnf ?_ ?_); assumption) | ((first | refine WPA.ifBnt ?_ ?_ | refine WPA.ifBf ?_ ?_); assumption) | ((first | refine WPA.ifs ?_ ?_ | refine WPA.ifB ?_ ?_) <;> intro hc))
  refine WPA.loopS (σ := Nat × ByteArray) (fun y => [(1, .pointer (some ⟨t1, 0, none⟩)), (3, .string y.2), (5, .int .i64 y.1)])
    (fun y => y.1 ≤ gr.length ∧ y.2 ++ secsB ws A.length y.1 (A.drop y.1) = T5) (fun y => SL w0 J L) (fun y => gr.length - y.1) (0, T4) ⟨rfl, rfl, rfl, trivial⟩ ⟨Nat.zero_le _, by dsimp only; rw [List.drop_zero]; exact hT5⟩ (fun w h => h) ?_
  rintro ⟨m, u⟩ ρ ⟨hk, hu⟩
  dsimp only at hk hu ⊢
  by_cases hltm : m < gr.length
  · have hltm' : (m : Int) < gr.length := by omega
    have hir : (0 : Int) ≤ m ∧ (m : Int) < gr.length := by omega
    have hm : at_ gr (m : Int) ∈ gr := by rw [at_nat gr m hltm]; exact List.getElem_mem _
    rw [hkA m hltm, secsB, hAl] at hu
    have hrv := hM.rows _ hm
    have hrl := hM.rln _ hm
    have hGv := hM.elems _ hm
    have hEm := hE m hltm
    obtain ⟨v, hv⟩ : ∃ v, at_ gr (m : Int) = v := ⟨_, rfl⟩
    rw [hv] at hu hrv hrl hGv hEm
    obtain ⟨es, hes⟩ : ∃ es, re v = es := ⟨_, rfl⟩
    rw [hes] at hu hrv hrl hGv hEm
    have hrv' : SlI J v En inferInstance es := hrv.sub
    have hel : (enV kg es).length = es.length := by unfold enV; rw [List.length_map]
    have en : (m : Int) + 1 = ((m + 1 : Nat) : Int) := by omega
    obtain ⟨top, htop⟩ : ∃ top, decide (m + 1 = gr.length) = top := ⟨_, rfl⟩
    rw [htop] at hu
    have z6 := congrArg ByteArray.size hu
    rw [ByteArray.size_append, ByteArray.size_append] at z6
    have zk := int_size (v := ((m + 1 : Nat) : Int)) ⟨by omega, by omega⟩
    have q1 : (((u ++ (⟨#[92]⟩ : ByteArray)) ++ intS ((m + 1 : Nat) : Int)) ++ (⟨#[45, 103, 114, 97, 109, 115, 58, 10]⟩ : ByteArray)) = u ++ (secB (m + 1) ++ nlB) := by
      have e : (⟨#[45, 103, 114, 97, 109, 115, 58, 10]⟩ : ByteArray) = ⟨#[45, 103, 114, 97, 109, 115, 58]⟩ ++ nlB := by decide +kernel
      rw [e]
      unfold secB; simp only [ByteArray.append_assoc]
    obtain ⟨V1, hV1⟩ : ∃ V1, (u ++ (secB (m + 1) ++ nlB)) ++ entsB ws top (enV kg es) = V1 := ⟨_, rfl⟩
    have hV2 : V1 ++ (⟨#[10]⟩ : ByteArray) = u ++ secTB ws top (m + 1) (enV kg es) := by rw [← hV1]; unfold secTB; simp only [ByteArray.append_assoc]
    have zV := congrArg ByteArray.size hV2
    rw [ByteArray.size_append, ByteArray.size_append] at zV
    have hi1 := fun {L : List HP} => Int_tr (w0 := w0) (I := J) (L := L) (v := ((m + 1 : Nat) : Int)) ⟨by omega, by omega⟩
    repeat' (first | ((guard_target =~ (_ : Nat) ≤ _; simp only [ByteArray.size_append]; omega)) | ((rw [q1])) | ((guard_target =~ WLA _ _ _ _ _ (⟨_, .call ⟨.value (.func _), _, _⟩, _, _, _, _⟩ :: _) _ _; rw [en])) | ((first | refine WLA.m rfl rfl ?_ ?_ | refine WLA.st rfl ?_ ?_ | refine WLA.x rfl rfl ?_ (fun x => ?_) | refine WLA.x0 rfl ?_ (fun x => ?_)); first | exact trivial | exact rfl | assumption | omega | (refine ⟨?_, ?_⟩ <;> omega) | (simp only [Room, lenS]; omega) | decide | skip) | (refine Stp.go ?_) | (guard_target =~ WLA _ _ _ _ _ (⟨_, .call ⟨.value (.func 28), _, _⟩, _, _, _, _⟩ :: _) _ _; refine WLA.call rfl rfl (hi1) ?_; rintro ⟨⟩) | (refine WPA.ifT ?_) | (refine WPA.ifF ?_) | ((first | refine WPA.dec ?_); first | refine .inl ⟨by first | assumption | omega | with_reducible rfl | (refine fun h => h ?_; first | assumption | with_reducible rfl) | (simp only [lenS] <;> omega) | decide, ?_⟩ | refine .inr ⟨by first | assumption | omega | with_reducible rfl | (refine fun h => h ?_; first | assumption | with_reducible rfl) | (simp only [lenS] <;> omega) | decide, ?_⟩) | ((first | refine WPA.ifBt ?_ ?_ | refine WPA.ifBnf ?_ ?_); assumption) | ((first | refine WPA.ifBnt ?_ ?_ | refine WPA.ifBf ?_ ?_); assumption) | ((first | refine WPA.ifs ?_ ?_ | refine WPA.ifB ?_ ?_) <;> intro hc))
    refine WPA.loopS (σ := Nat × ByteArray) (fun y => [(1, .pointer (some ⟨t1, 0, none⟩)), (3, .string y.2), (5, .int .i64 m), (6, .int .i64 y.1)])
      (fun y => y.1 ≤ es.length ∧ y.2 ++ entsB ws top ((enV kg es).drop y.1) = V1) (fun y => SL w0 J L) (fun y => es.length - y.1) (0, u ++ (secB (m + 1) ++ nlB)) ⟨rfl, rfl, rfl, rfl, trivial⟩ ⟨Nat.zero_le _, by dsimp only; rw [List.drop_zero]; exact hV1⟩ (fun w h => h) ?_
    rintro ⟨i, x⟩ ρ ⟨hi, hx⟩
    dsimp only at hi hx ⊢
    by_cases hlti : i < es.length
    · have hlti' : (i : Int) < es.length := by omega
      have hiri : (0 : Int) ≤ i ∧ (i : Int) < es.length := by omega
      have hmem : at_ es (i : Int) ∈ es := by rw [at_nat es i hlti]; exact List.getElem_mem _
      have hGi := hGv _ hmem
      have hEi := hEm _ hmem
      rw [List.drop_eq_getElem_cons (by omega), ← (show aE (enV kg es) (i : Int) = (enV kg es)[i] by unfold aE; rw [Int.toNat_natCast, List.getD_eq_getElem?_getD, List.getElem?_eq_getElem]; rfl), at_enV (by omega) (by omega), entsB] at hx
      obtain ⟨p, hp⟩ : ∃ p, at_ es (i : Int) = p := ⟨_, rfl⟩
      rw [hp] at hGi hEi hx
      obtain ⟨xg, pr, bk⟩ := p
      obtain ⟨G, hGG⟩ : ∃ G, kg xg = G := ⟨_, rfl⟩
      dsimp only at hGi hEi hx
      rw [hGG] at hGi hEi hx
      obtain ⟨hl, hin, hc1, hc2⟩ := hEi
      dsimp only at hl hin hc1 hc2
      have hGJ : SlI J xg Int inferInstance G := hGi.sub
      repeat' (first | ((rw [hv])) | ((rw [hp])) | ((first | refine WLA.m rfl rfl ?_ ?_ | refine WLA.st rfl ?_ ?_ | refine WLA.x rfl rfl ?_ (fun x => ?_) | refine WLA.x0 rfl ?_ (fun x => ?_)); first | exact trivial | exact rfl | assumption | omega | (refine ⟨?_, ?_⟩ <;> omega) | (simp only [Room, lenS]; omega) | decide | skip) | (refine Stp.go ?_) | (refine WPA.ifT ?_) | (refine WPA.ifF ?_) | ((first | refine WPA.dec ?_); first | refine .inl ⟨by first | assumption | omega | with_reducible rfl | (refine fun h => h ?_; first | assumption | with_reducible rfl) | (simp only [lenS] <;> omega) | decide, ?_⟩ | refine .inr ⟨by first | assumption | omega | with_reducible rfl | (refine fun h => h ?_; first | assumption | with_reducible rfl) | (simp only [lenS] <;> omega) | decide, ?_⟩) | ((first | refine WPA.ifBt ?_ ?_ | refine WPA.ifBnf ?_ ?_); assumption) | ((first | refine WPA.ifBnt ?_ ?_ | refine WPA.ifBf ?_ ?_); assumption) | ((first | refine WPA.ifs ?_ ?_ | refine WPA.ifB ?_ ?_) <;> intro hc))
      dsimp only
      revert x; intro t7
      rename_i x
      refine WPA.freezeBk (b := t7) ?_
      obtain ⟨K, hK⟩ : ∃ K, BkI t7 42 [.slice xg.a xg.n xg.cap, .int .i64 pr, .int .i64 bk] ++ J = K := ⟨_, rfl⟩
      have iK : InI K t7 42 [.slice xg.a xg.n xg.cap, .int .i64 pr, .int .i64 bk] := by subst hK; infer_instance
      have iK1 : InI K t1 25 [.int .i64 fr, .slice w.a w.n w.cap, .slice g.a g.n g.cap] := by subst hK; infer_instance
      have sK : SubI K J := by subst hK; infer_instance
      rw [hK]
      clear hK
      have hGK : SlI K xg Int inferInstance G := hGJ.sub
      have hrK : SlI K w ByteArray inferInstance ws := hr2.sub
      have hgK : SlI K g SV inferInstance gr := hr1.sub
      have hwl : (wordsB ws G).length = m + 1 := by unfold wordsB; rw [List.length_map, hl]
      refine WPA.loopS (σ := Nat × SV) (fun y => [(1, .pointer (some ⟨t1, 0, none⟩)), (3, .string x), (5, .int .i64 m), (6, .int .i64 i), (7, .pointer (some ⟨t7, 0, none⟩)), (8, .slice y.2.a y.2.n y.2.cap), (9, .int .i64 y.1)])
        (fun y => y.1 ≤ G.length) (fun y => SL w0 K (OwnS 9 y.2 ((wordsB ws G).take y.1) :: L)) (fun y => G.length - y.1) (0, SV.nil) ⟨rfl, rfl, rfl, rfl, rfl, rfl, rfl, trivial⟩
        (Nat.zero_le _) (fun w h => (Ent.ownNil (α := ByteArray) (t := 9) Ent.refl).sl h) ?_
      rintro ⟨j, q⟩ ρ hj
      dsimp only at hj ⊢
      by_cases hltj : j < G.length
      · have hltj' : (j : Int) < G.length := by omega
        have hjr : (0 : Int) ≤ j ∧ (j : Int) < G.length := by omega
        have hmj : at_ G (j : Int) ∈ G := by rw [at_nat G j hltj]; exact List.getElem_mem _
        have hidx := hin _ hmj
        obtain ⟨c, hc⟩ : ∃ c, at_ G (j : Int) = c := ⟨_, rfl⟩
        rw [hc] at hidx
        have hsn : (wordsB ws G).take (j + 1) = (wordsB ws G).take j ++ [at_ ws c] := by
          rw [take_snoc (by omega)]
          congr 2
          unfold wordsB
          rw [at_nat _ j (by rw [List.length_map]; exact hltj), List.getElem_map, ← at_nat G j hltj, hc]
        have htl : ((wordsB ws G).take j).length = j := by rw [List.length_take]; omega
        have hroom : Room (((wordsB ws G).take j).length + 1) 16 := ⟨by omega, by omega⟩
        repeat' (first | ((rw [hc])) | ((first | refine WLA.m rfl rfl ?_ ?_ | refine WDQ.m rfl rfl ?_ ?_ | refine WLA.st rfl ?_ ?_ | refine WLA.x rfl rfl ?_ (fun x => ?_) | refine WLA.x0 rfl ?_ (fun x => ?_)); first | exact trivial | exact rfl | assumption | omega | (refine ⟨?_, ?_⟩ <;> omega) | (simp only [Room, lenS]; omega) | decide | skip) | (refine Stp.go ?_) | (refine WPA.ifT ?_) | (refine WPA.ifF ?_) | ((first | refine WPA.dec ?_); first | refine .inl ⟨by first | assumption | omega | with_reducible rfl | (refine fun h => h ?_; first | assumption | with_reducible rfl) | (simp only [lenS] <;> omega) | decide, ?_⟩ | refine .inr ⟨by first | assumption | omega | with_reducible rfl | (refine fun h => h ?_; first | assumption | with_reducible rfl) | (simp only [lenS] <;> omega) | decide, ?_⟩) | ((first | refine WPA.ifBt ?_ ?_ | refine WPA.ifBnf ?_ ?_); assumption) | ((first | refine WPA.ifBnt ?_ ?_ | refine WPA.ifBf ?_ ?_); assumption) | ((first | refine WPA.ifs ?_ ?_ | refine WPA.ifB ?_ ?_) <;> intro hc) | (guard_target =~ WPA _ _ _ (.region 19 _ true) _ _ _; refine WPA.drawT 11 (.q 0 (.q 1 (.q 2 (.q 3 (.q 4 (.q 5 (.q 6 (.q 7 (.q 8 (.q 9 (.e 10 .fin))))))))))) mixed ?_ ?_; kernel_rfl) | (refine WDA.finish (tl := [⟨_, _, _, _, _, _⟩, ⟨_, _, _, _, _, _⟩]) rfl ?_) | (refine WDQ.see rfl ?_) | (refine WDE.see rfl ?_) | (refine WDE.alloc rfl rfl (fun w h => h) (fun x => ?_)) | (refine WDE.stE rfl ?_) | (refine WDE.x rfl rfl ?_ ?_ (fun x => ?_); rotate_left 1; (intro x w h; first | exact h | exact Ent.drop1.sl h | exact SL.unI h | exact SL.to h); rotate_left 1; first | exact trivial | exact rfl | assumption | omega | (refine ⟨?_, ?_⟩ <;> omega) | (simp only [Room, lenS]; omega) | decide | skip))
        exact QQ.loopS (j + 1, x) ⟨rfl, rfl, rfl, rfl, rfl, rfl, rfl, trivial⟩ hltj (by dsimp only; omega) (fun w h => by dsimp only; rw [hsn]; exact h.to)
      have hltj' : ¬ (j : Int) < G.length := by omega
      rw [List.take_of_length_le (by omega)]
      have zp := int_size (v := pr) ⟨by have := hc1.1; omega, by have := hc1.2; omega⟩
      have zb := int_size (v := bk) ⟨by have := hc2.1; omega, by have := hc2.2; omega⟩
      have hw8 : ∀ w ∈ wordsB ws G, w.size ≤ 255 := fun w hw => by
        obtain ⟨y, hy, rfl⟩ := List.mem_map.1 hw
        have := hin y hy
        have e : at_ ws y ∈ ws := by
          obtain ⟨n, rfl⟩ : ∃ n : Nat, y = n := ⟨y.toNat, by omega⟩
          rw [at_nat ws n (by omega)]; exact List.getElem_mem _
        exact hw255 _ e
      have zj : (joinB (wordsB ws G) spB).size ≤ 256 * (wordsB ws G).length := join_size 32 hw8
      have zx := congrArg ByteArray.size hx
      rw [ByteArray.size_append, ByteArray.size_append] at zx
      have hip := fun {L : List HP} => Int_tr (w0 := w0) (I := K) (L := L) (v := pr) ⟨by have := hc1.1; omega, by have := hc1.2; omega⟩
      have hib := fun {L : List HP} => Int_tr (w0 := w0) (I := K) (L := L) (v := bk) ⟨by have := hc2.1; omega, by have := hc2.2; omega⟩
      have hjn := fun {L : List HP} (a : SV) [RdS K L a ByteArray inferInstance (wordsB ws G)] => rJoin_tr (w0 := w0) (I := K) (L := L) (a := a) (l := wordsB ws G) (by omega) hw8
      have hx2 : (x ++ entB ws top ((pr, bk), G)) ++ entsB ws top (List.drop (i + 1) (enV kg es)) = V1 := by rw [← hx]; simp only [ByteArray.append_assoc]
      cases top
      · have htp : (m : Int) < (gr.length : Int) - 1 := by have := of_decide_eq_false htop; omega
        have q3 : ((((x ++ intS pr) ++ (⟨#[9]⟩ : ByteArray)) ++ joinB (wordsB ws G) spB) ++ (⟨#[9]⟩ : ByteArray) ++ intS bk) ++ (⟨#[10]⟩ : ByteArray) = x ++ entB ws false ((pr, bk), G) := by
          unfold entB; rw [if_neg (by decide)]; simp only [ByteArray.append_assoc]
        repeat' (first | ((guard_target =~ (_ : Nat) ≤ _; simp only [ByteArray.size_append]; omega)) | ((rw [q3])) | ((first | refine WLA.m rfl rfl ?_ ?_ | refine WLA.st rfl ?_ ?_ | refine WLA.x rfl rfl ?_ (fun x => ?_) | refine WLA.x0 rfl ?_ (fun x => ?_)); first | exact trivial | exact rfl | assumption | omega | (refine ⟨?_, ?_⟩ <;> omega) | (simp only [Room, lenS]; omega) | decide | skip) | (refine Stp.go ?_) | (guard_target =~ WLA _ _ _ _ _ (⟨_, .call ⟨.value (.func 28), _, _⟩, _, _, _, _⟩ :: _) _ _; refine WLA.call rfl rfl (hip) ?_; rintro ⟨⟩) | (guard_target =~ WLA _ _ _ _ _ (⟨_, .call ⟨.value (.func 28), _, _⟩, _, _, _, _⟩ :: _) _ _; refine WLA.call rfl rfl (hib) ?_; rintro ⟨⟩) | (guard_target =~ WLA _ _ _ _ _ (⟨_, .call ⟨.value (.func 29), _, _⟩, _, _, _, _⟩ :: _) _ _; refine WLA.cq rfl rfl (hjn _) ?_) | (refine WPA.ifT ?_) | (refine WPA.ifF ?_) | ((first | refine WPA.dec ?_); first | refine .inl ⟨by first | assumption | omega | with_reducible rfl | (refine fun h => h ?_; first | assumption | with_reducible rfl) | (simp only [lenS] <;> omega) | decide, ?_⟩ | refine .inr ⟨by first | assumption | omega | with_reducible rfl | (refine fun h => h ?_; first | assumption | with_reducible rfl) | (simp only [lenS] <;> omega) | decide, ?_⟩) | ((first | refine WPA.ifBt ?_ ?_ | refine WPA.ifBnf ?_ ?_); assumption) | ((first | refine WPA.ifBnt ?_ ?_ | refine WPA.ifBf ?_ ?_); assumption) | ((first | refine WPA.ifs ?_ ?_ | refine WPA.ifB ?_ ?_) <;> intro hc))
        exact QQ.loopS (i + 1, x ++ entB ws false ((pr, bk), G)) ⟨rfl, rfl, rfl, rfl, trivial⟩ ⟨hlti, hx2⟩ (by dsimp only; omega) (fun w h => (h.sub sK.out).to)
      · have htp : ¬ (m : Int) < (gr.length : Int) - 1 := by have := of_decide_eq_true htop; omega
        have q3 : (((x ++ intS pr) ++ (⟨#[9]⟩ : ByteArray)) ++ joinB (wordsB ws G) spB) ++ (⟨#[10]⟩ : ByteArray) = x ++ entB ws true ((pr, bk), G) := by
          unfold entB; rw [if_pos rfl, eB]; simp only [ByteArray.append_assoc]
        repeat' (first | ((guard_target =~ (_ : Nat) ≤ _; simp only [ByteArray.size_append]; omega)) | ((rw [q3])) | ((first | refine WLA.m rfl rfl ?_ ?_ | refine WLA.st rfl ?_ ?_ | refine WLA.x rfl rfl ?_ (fun x => ?_) | refine WLA.x0 rfl ?_ (fun x => ?_)); first | exact trivial | exact rfl | assumption | omega | (refine ⟨?_, ?_⟩ <;> omega) | (simp only [Room, lenS]; omega) | decide | skip) | (refine Stp.go ?_) | (guard_target =~ WLA _ _ _ _ _ (⟨_, .call ⟨.value (.func 28), _, _⟩, _, _, _, _⟩ :: _) _ _; refine WLA.call rfl rfl (hip) ?_; rintro ⟨⟩) | (guard_target =~ WLA _ _ _ _ _ (⟨_, .call ⟨.value (.func 29), _, _⟩, _, _, _, _⟩ :: _) _ _; refine WLA.cq rfl rfl (hjn _) ?_) | (refine WPA.ifT ?_) | (refine WPA.ifF ?_) | ((first | refine WPA.dec ?_); first | refine .inl ⟨by first | assumption | omega | with_reducible rfl | (refine fun h => h ?_; first | assumption | with_reducible rfl) | (simp only [lenS] <;> omega) | decide, ?_⟩ | refine .inr ⟨by first | assumption | omega | with_reducible rfl | (refine fun h => h ?_; first | assumption | with_reducible rfl) | (simp only [lenS] <;> omega) | decide, ?_⟩) | ((first | refine WPA.ifBt ?_ ?_ | refine WPA.ifBnf ?_ ?_); assumption) | ((first | refine WPA.ifBnt ?_ ?_ | refine WPA.ifBf ?_ ?_); assumption) | ((first | refine WPA.ifs ?_ ?_ | refine WPA.ifB ?_ ?_) <;> intro hc))
        exact QQ.loopS (i + 1, x ++ entB ws true ((pr, bk), G)) ⟨rfl, rfl, rfl, rfl, trivial⟩ ⟨hlti, hx2⟩ (by dsimp only; omega) (fun w h => (h.sub sK.out).to)
    have hlti' : ¬ (i : Int) < es.length := by omega
    rw [List.drop_of_length_le (by omega), entsB, eB] at hx
    subst hx
    repeat' (first | ((guard_target =~ (_ : Nat) ≤ _; simp only [ByteArray.size_append]; omega)) | ((rw [hv])) | ((rw [hV2])) | ((first | refine WLA.m rfl rfl ?_ ?_ | refine WLA.st rfl ?_ ?_ | refine WLA.x rfl rfl ?_ (fun x => ?_) | refine WLA.x0 rfl ?_ (fun x => ?_)); first | exact trivial | exact rfl | assumption | omega | (refine ⟨?_, ?_⟩ <;> omega) | (simp only [Room, lenS]; omega) | decide | skip) | (refine Stp.go ?_) | (refine WPA.ifT ?_) | (refine WPA.ifF ?_) | ((first | refine WPA.dec ?_); first | refine .inl ⟨by first | assumption | omega | with_reducible rfl | (refine fun h => h ?_; first | assumption | with_reducible rfl) | (simp only [lenS] <;> omega) | decide, ?_⟩ | refine .inr ⟨by first | assumption | omega | with_reducible rfl | (refine fun h => h ?_; first | assumption | with_reducible rfl) | (simp only [lenS] <;> omega) | decide, ?_⟩) | ((first | refine WPA.ifBt ?_ ?_ | refine WPA.ifBnf ?_ ?_); assumption) | ((first | refine WPA.ifBnt ?_ ?_ | refine WPA.ifBf ?_ ?_); assumption) | ((first | refine WPA.ifs ?_ ?_ | refine WPA.ifB ?_ ?_) <;> intro hc))
    exact QQ.loopS (m + 1, u ++ secTB ws top (m + 1) (enV kg es)) ⟨rfl, rfl, rfl, trivial⟩ ⟨hltm, by dsimp only; rw [← hu, hAl]; simp only [ByteArray.append_assoc]⟩ (by dsimp only; omega) (fun w h => h)
  have hltm' : ¬ (m : Int) < gr.length := by omega
  rw [List.drop_of_length_le (by omega), secsB, eB] at hu
  subst hu
  repeat' (first | ((rw [hTe])) | ((first | refine WLA.m rfl rfl ?_ ?_ | refine WLA.st rfl ?_ ?_ | refine WLA.x rfl rfl ?_ (fun x => ?_) | refine WLA.x0 rfl ?_ (fun x => ?_)); first | exact trivial | exact rfl | assumption | omega | (refine ⟨?_, ?_⟩ <;> omega) | (simp only [Room, lenS]; omega) | decide | skip) | (refine Stp.go ?_) | (refine WPA.ifT ?_) | (refine WPA.ifF ?_) | ((first | refine WPA.dec ?_); first | refine .inl ⟨by first | assumption | omega | with_reducible rfl | (refine fun h => h ?_; first | assumption | with_reducible rfl) | (simp only [lenS] <;> omega) | decide, ?_⟩ | refine .inr ⟨by first | assumption | omega | with_reducible rfl | (refine fun h => h ?_; first | assumption | with_reducible rfl) | (simp only [lenS] <;> omega) | decide, ?_⟩) | ((first | refine WPA.ifBt ?_ ?_ | refine WPA.ifBnf ?_ ?_); assumption) | ((first | refine WPA.ifBnt ?_ ?_ | refine WPA.ifBf ?_ ?_); assumption) | ((first | refine WPA.ifs ?_ ?_ | refine WPA.ifB ?_ ?_) <;> intro hc))
  exact QQ.end_ rfl () rfl fun w h => h.sub sJ.out
end
end Go.Proofs.YthkhneimfjaohaaGreatDoor
namespace Go.Proofs.YthkhneimfjaohaaGreatDoor
open Go Go.Fw Go.RowKit
set_option linter.unusedVariables false
set_option linter.unusedSimpArgs false
set_option maxRecDepth 100000
set_option maxHeartbeats 16000000
set_option synthInstance.maxHeartbeats 200000
set_option synthInstance.maxSize 100000
attribute [local irreducible] WPA WLA WDA WDQ WDE QQ seqQ blockQ loopQ fnQ OpP OpT Tr TrP SL SLd OwnS LitS Bk BkE Ob
attribute [local irreducible] TblH VocH
structure MdR (I : Foot) (kg : SV → List Int) (re : SV → List En) (w g : SV) (ws : List ByteArray) (gr : List SV) : Prop where
  words : SlI I w ByteArray inferInstance ws
  grams : SlI I g SV inferInstance gr
  rows : ∀ h ∈ gr, SlI I h En inferInstance (re h)
  elems : ∀ h ∈ gr, EnG I kg (re h)
  wsz : ∀ s ∈ ws, s.size ≤ 140737488351232
def FewS (kg : SV → List Int) (re : SV → List En) (ws : List ByteArray) (gr : List SV) : Prop := ((ws.length ≤ 30 ∧ gr.length ≤ 10) ∧ ∀ h ∈ gr, (re h).length ≤ 100 ∧ ∀ p ∈ re h, (kg p.1).length ≤ 12) ∧ (gr.map fun h => (re h).length).sum ≤ 200
section
variable {kg : SV → List Int} {re : SV → List En} {L : List HP} {w0 : World} {I : Foot}
theorem Small_trS {fr : Int} {w g : SV} {ws : List ByteArray} {gr : List SV} (hM : MdR I kg re w g ws gr) :
    Tr Tryz.prog 6 #[.agg #[.int .i64 fr, .slice w.a w.n w.cap, .slice g.a g.n g.cap]] (SL w0 I L) (fun b : { b : Bool // b = true → FewS kg re ws gr } => .bool b.1) (fun _ => SL w0 I L) := by
  refine Tr.intro Tryz.func6 rfl Tryz.ntmps6 rfl ?_
  obtain ⟨hW, hg, hR, hE, hz⟩ := hM
  by_cases h1 : (30 : Int) < ws.length
  · skip
    repeat' (first | ((first | refine WLA.m rfl rfl ?_ ?_ | refine WLA.st rfl ?_ ?_ | refine WLA.x rfl rfl ?_ (fun x => ?_) | refine WLA.x0 rfl ?_ (fun x => ?_)); first | exact trivial | exact rfl | assumption | omega | (refine ⟨?_, ?_⟩ <;> omega) | (simp only [Room, lenS]; omega) | decide | skip) | (refine Stp.go ?_) | (refine WPA.ifT ?_) | (refine WPA.ifF ?_) | (refine WLA.no rfl rfl ?_) | ((first | refine WPA.dec ?_ | ((fail_if_success (guard_target =~ WLA _ _ _ _ _ _ (put1 _ _ (.bool true)) _)); (fail_if_success (guard_target =~ WLA _ _ _ _ _ _ (put1 _ _ (.bool false)) _)); refine WLA.dec rfl rfl ?_) | refine WLA.pk ?_); first | refine .inl ⟨by first | assumption | omega | with_reducible rfl | (refine fun h => h ?_; first | assumption | with_reducible rfl) | (simp only [lenS] <;> omega) | decide, ?_⟩ | refine .inr ⟨by first | assumption | omega | with_reducible rfl | (refine fun h => h ?_; first | assumption | with_reducible rfl) | (simp only [lenS] <;> omega) | decide, ?_⟩) | ((first | refine WPA.ifBt ?_ ?_ | refine WPA.ifBnf ?_ ?_); assumption) | ((first | refine WPA.ifBnt ?_ ?_ | refine WPA.ifBf ?_ ?_); assumption) | ((first | refine WPA.ifs ?_ ?_ | refine WPA.ifB ?_ ?_) <;> intro hc) | ((fail_if_success (guard_target =~ WLA _ _ _ _ _ _ (put1 _ _ (.bool true)) _)); (fail_if_success (guard_target =~ WLA _ _ _ _ _ _ (put1 _ _ (.bool false)) _)); (first | refine WLA.both rfl rfl ?_ ?_ | refine WLA.bothB rfl rfl ?_ ?_) <;> intro hg))
    exact QQ.end_ rfl ⟨false, by simp⟩ rfl fun w h => h.to
  by_cases h2 : (10 : Int) < gr.length
  · skip
    repeat' (first | ((first | refine WLA.m rfl rfl ?_ ?_ | refine WLA.st rfl ?_ ?_ | refine WLA.x rfl rfl ?_ (fun x => ?_) | refine WLA.x0 rfl ?_ (fun x => ?_)); first | exact trivial | exact rfl | assumption | omega | (refine ⟨?_, ?_⟩ <;> omega) | (simp only [Room, lenS]; omega) | decide | skip) | (refine Stp.go ?_) | (refine WPA.ifT ?_) | (refine WPA.ifF ?_) | (refine WLA.no rfl rfl ?_) | ((first | refine WPA.dec ?_ | ((fail_if_success (guard_target =~ WLA _ _ _ _ _ _ (put1 _ _ (.bool true)) _)); (fail_if_success (guard_target =~ WLA _ _ _ _ _ _ (put1 _ _ (.bool false)) _)); refine WLA.dec rfl rfl ?_) | refine WLA.pk ?_); first | refine .inl ⟨by first | assumption | omega | with_reducible rfl | (refine fun h => h ?_; first | assumption | with_reducible rfl) | (simp only [lenS] <;> omega) | decide, ?_⟩ | refine .inr ⟨by first | assumption | omega | with_reducible rfl | (refine fun h => h ?_; first | assumption | with_reducible rfl) | (simp only [lenS] <;> omega) | decide, ?_⟩) | ((first | refine WPA.ifBt ?_ ?_ | refine WPA.ifBnf ?_ ?_); assumption) | ((first | refine WPA.ifBnt ?_ ?_ | refine WPA.ifBf ?_ ?_); assumption) | ((first | refine WPA.ifs ?_ ?_ | refine WPA.ifB ?_ ?_) <;> intro hc) | ((fail_if_success (guard_target =~ WLA _ _ _ _ _ _ (put1 _ _ (.bool true)) _)); (fail_if_success (guard_target =~ WLA _ _ _ _ _ _ (put1 _ _ (.bool false)) _)); (first | refine WLA.both rfl rfl ?_ ?_ | refine WLA.bothB rfl rfl ?_ ?_) <;> intro hg))
    exact QQ.end_ rfl ⟨false, by simp⟩ rfl fun w h => h.to
  repeat' (first | ((first | refine WLA.m rfl rfl ?_ ?_ | refine WLA.st rfl ?_ ?_ | refine WLA.x rfl rfl ?_ (fun x => ?_) | refine WLA.x0 rfl ?_ (fun x => ?_)); first | exact trivial | exact rfl | assumption | omega | (refine ⟨?_, ?_⟩ <;> omega) | (simp only [Room, lenS]; omega) | decide | skip) | (refine Stp.go ?_) | (refine WPA.ifT ?_) | (refine WPA.ifF ?_) | (refine WLA.no rfl rfl ?_) | ((first | refine WPA.dec ?_ | ((fail_if_success (guard_target =~ WLA _ _ _ _ _ _ (put1 _ _ (.bool true)) _)); (fail_if_success (guard_target =~ WLA _ _ _ _ _ _ (put1 _ _ (.bool false)) _)); refine WLA.dec rfl rfl ?_) | refine WLA.pk ?_); first | refine .inl ⟨by first | assumption | omega | with_reducible rfl | (refine fun h => h ?_; first | assumption | with_reducible rfl) | (simp only [lenS] <;> omega) | decide, ?_⟩ | refine .inr ⟨by first | assumption | omega | with_reducible rfl | (refine fun h => h ?_; first | assumption | with_reducible rfl) | (simp only [lenS] <;> omega) | decide, ?_⟩) | ((first | refine WPA.ifBt ?_ ?_ | refine WPA.ifBnf ?_ ?_); assumption) | ((first | refine WPA.ifBnt ?_ ?_ | refine WPA.ifBf ?_ ?_); assumption) | ((first | refine WPA.ifs ?_ ?_ | refine WPA.ifB ?_ ?_) <;> intro hc) | ((fail_if_success (guard_target =~ WLA _ _ _ _ _ _ (put1 _ _ (.bool true)) _)); (fail_if_success (guard_target =~ WLA _ _ _ _ _ _ (put1 _ _ (.bool false)) _)); (first | refine WLA.both rfl rfl ?_ ?_ | refine WLA.bothB rfl rfl ?_ ?_) <;> intro hg))
  revert x; intro t1
  refine WPA.loopS (σ := Nat × Nat) (fun y => [(1, .pointer (some ⟨t1, 0, none⟩)), (3, .int .i64 y.2), (4, .int .i64 y.1)]) (fun y => ((y.1 ≤ gr.length ∧ y.2 ≤ 100 * y.1) ∧ ((gr.take y.1).map fun h => (re h).length).sum = y.2) ∧ ∀ h ∈ gr.take y.1, (re h).length ≤ 100 ∧ ∀ p ∈ re h, (kg p.1).length ≤ 12)
    (fun _ => SL w0 I (Bk t1 25 [.int .i64 fr, .slice w.a w.n w.cap, .slice g.a g.n g.cap] :: L)) (fun y => gr.length - y.1) (0, 0) ⟨rfl, rfl, rfl, trivial⟩ ⟨⟨⟨Nat.zero_le _, Nat.zero_le _⟩, rfl⟩, by simp⟩ (fun w h => h.to) ?_
  rintro ⟨k, n⟩ ρ ⟨⟨⟨hk, hn⟩, hsum⟩, hf⟩
  dsimp only at hk hn hsum hf ⊢
  by_cases hkl : k < gr.length
  · have hkl' : (k : Int) < gr.length := by omega
    have hme : at_ gr (k : Int) ∈ gr := by rw [at_nat gr k hkl]; exact List.getElem_mem _
    have hRk := hR _ hme
    have hEk := hE _ hme
    have hnx : ∀ h ∈ gr.take (k + 1), h ∈ gr.take k ∨ h = at_ gr (k : Int) := by
      intro h hh
      rw [List.take_add_one, List.getElem?_eq_getElem hkl, ← at_nat gr k hkl] at hh
      rcases List.mem_append.1 hh with hh | hh
      · exact .inl hh
      · simp only [Option.toList_some, List.mem_singleton] at hh; exact .inr hh
    generalize hes : re (at_ gr (k : Int)) = es at hRk hEk
    by_cases h3 : (100 : Int) < es.length
    · skip
      repeat' (first | ((first | refine WLA.m rfl rfl ?_ ?_ | refine WLA.st rfl ?_ ?_ | refine WLA.x rfl rfl ?_ (fun x => ?_) | refine WLA.x0 rfl ?_ (fun x => ?_)); first | exact trivial | exact rfl | assumption | omega | (refine ⟨?_, ?_⟩ <;> omega) | (simp only [Room, lenS]; omega) | decide | skip) | (refine Stp.go ?_) | (refine WPA.ifT ?_) | (refine WPA.ifF ?_) | ((first | refine WPA.dec ?_); first | refine .inl ⟨by first | assumption | omega | with_reducible rfl | (refine fun h => h ?_; first | assumption | with_reducible rfl) | (simp only [lenS] <;> omega) | decide, ?_⟩ | refine .inr ⟨by first | assumption | omega | with_reducible rfl | (refine fun h => h ?_; first | assumption | with_reducible rfl) | (simp only [lenS] <;> omega) | decide, ?_⟩) | ((first | refine WPA.ifBt ?_ ?_ | refine WPA.ifBnf ?_ ?_); assumption) | ((first | refine WPA.ifBnt ?_ ?_ | refine WPA.ifBf ?_ ?_); assumption) | ((first | refine WPA.ifs ?_ ?_ | refine WPA.ifB ?_ ?_) <;> intro hc))
      exact QQ.end_ rfl ⟨false, by simp⟩ rfl fun w h => h.to
    · have hsm : -9223372036854775808 ≤ (n : Int) + es.length ∧ (n : Int) + es.length ≤ 9223372036854775807 := by omega
      repeat' (first | ((first | refine WLA.m rfl rfl ?_ ?_ | refine WLA.st rfl ?_ ?_ | refine WLA.x rfl rfl ?_ (fun x => ?_) | refine WLA.x0 rfl ?_ (fun x => ?_)); first | exact trivial | exact rfl | assumption | omega | (refine ⟨?_, ?_⟩ <;> omega) | (simp only [Room, lenS]; omega) | decide | skip) | (refine Stp.go ?_) | (refine WPA.ifT ?_) | (refine WPA.ifF ?_) | ((first | refine WPA.dec ?_); first | refine .inl ⟨by first | assumption | omega | with_reducible rfl | (refine fun h => h ?_; first | assumption | with_reducible rfl) | (simp only [lenS] <;> omega) | decide, ?_⟩ | refine .inr ⟨by first | assumption | omega | with_reducible rfl | (refine fun h => h ?_; first | assumption | with_reducible rfl) | (simp only [lenS] <;> omega) | decide, ?_⟩) | ((first | refine WPA.ifBt ?_ ?_ | refine WPA.ifBnf ?_ ?_); assumption) | ((first | refine WPA.ifBnt ?_ ?_ | refine WPA.ifBf ?_ ?_); assumption) | ((first | refine WPA.ifs ?_ ?_ | refine WPA.ifB ?_ ?_) <;> intro hc))
      refine WPA.loopS (σ := Nat) (fun i => [(1, .pointer (some ⟨t1, 0, none⟩)), (3, .int .i64 ((n : Int) + es.length)), (4, .int .i64 k), (5, .int .i64 i)]) (fun i => i ≤ es.length ∧ ∀ p ∈ es.take i, (kg p.1).length ≤ 12)
        (fun _ => SL w0 I (Bk t1 25 [.int .i64 fr, .slice w.a w.n w.cap, .slice g.a g.n g.cap] :: L)) (fun i => es.length - i) 0 ⟨rfl, rfl, rfl, rfl, trivial⟩ ⟨Nat.zero_le _, by simp⟩ (fun w h => h.to) ?_
      rintro i ρ2 ⟨hi, hfi⟩
      by_cases hil : i < es.length
      · have hil' : (i : Int) < es.length := by omega
        have hxg := hEk.at hil
        by_cases h4 : (12 : Int) < (kg (at_ es (i : Int)).1).length
        · skip
          repeat' (first | ((first | refine WLA.m rfl rfl ?_ ?_ | refine WLA.st rfl ?_ ?_ | refine WLA.x rfl rfl ?_ (fun x => ?_) | refine WLA.x0 rfl ?_ (fun x => ?_)); first | exact trivial | exact rfl | assumption | omega | (refine ⟨?_, ?_⟩ <;> omega) | (simp only [Room, lenS]; omega) | decide | skip) | (refine Stp.go ?_) | (refine WPA.ifT ?_) | (refine WPA.ifF ?_) | ((first | refine WPA.dec ?_); first | refine .inl ⟨by first | assumption | omega | with_reducible rfl | (refine fun h => h ?_; first | assumption | with_reducible rfl) | (simp only [lenS] <;> omega) | decide, ?_⟩ | refine .inr ⟨by first | assumption | omega | with_reducible rfl | (refine fun h => h ?_; first | assumption | with_reducible rfl) | (simp only [lenS] <;> omega) | decide, ?_⟩) | ((first | refine WPA.ifBt ?_ ?_ | refine WPA.ifBnf ?_ ?_); assumption) | ((first | refine WPA.ifBnt ?_ ?_ | refine WPA.ifBf ?_ ?_); assumption) | ((first | refine WPA.ifs ?_ ?_ | refine WPA.ifB ?_ ?_) <;> intro hc))
          exact QQ.end_ rfl ⟨false, by simp⟩ rfl fun w h => h.to
        · skip
          repeat' (first | ((first | refine WLA.m rfl rfl ?_ ?_ | refine WLA.st rfl ?_ ?_ | refine WLA.x rfl rfl ?_ (fun x => ?_) | refine WLA.x0 rfl ?_ (fun x => ?_)); first | exact trivial | exact rfl | assumption | omega | (refine ⟨?_, ?_⟩ <;> omega) | (simp only [Room, lenS]; omega) | decide | skip) | (refine Stp.go ?_) | (refine WPA.ifT ?_) | (refine WPA.ifF ?_) | ((first | refine WPA.dec ?_); first | refine .inl ⟨by first | assumption | omega | with_reducible rfl | (refine fun h => h ?_; first | assumption | with_reducible rfl) | (simp only [lenS] <;> omega) | decide, ?_⟩ | refine .inr ⟨by first | assumption | omega | with_reducible rfl | (refine fun h => h ?_; first | assumption | with_reducible rfl) | (simp only [lenS] <;> omega) | decide, ?_⟩) | ((first | refine WPA.ifBt ?_ ?_ | refine WPA.ifBnf ?_ ?_); assumption) | ((first | refine WPA.ifBnt ?_ ?_ | refine WPA.ifBf ?_ ?_); assumption) | ((first | refine WPA.ifs ?_ ?_ | refine WPA.ifB ?_ ?_) <;> intro hc))
          refine QQ.loopS (i + 1) ⟨rfl, rfl, rfl, rfl, trivial⟩ ⟨hil, ?_⟩ (by omega) (fun w h => h.to)
          intro p hp
          rw [List.take_add_one, List.getElem?_eq_getElem hil, ← at_nat es i hil] at hp
          rcases List.mem_append.1 hp with hp | hp
          · exact hfi p hp
          · simp only [Option.toList_some, List.mem_singleton] at hp; subst hp; omega
      · have hil' : ¬ (i : Int) < es.length := by omega
        rw [List.take_of_length_le (by omega)] at hfi
        repeat' (first | ((first | refine WLA.m rfl rfl ?_ ?_ | refine WLA.st rfl ?_ ?_ | refine WLA.x rfl rfl ?_ (fun x => ?_) | refine WLA.x0 rfl ?_ (fun x => ?_)); first | exact trivial | exact rfl | assumption | omega | (refine ⟨?_, ?_⟩ <;> omega) | (simp only [Room, lenS]; omega) | decide | skip) | (refine Stp.go ?_) | (refine WPA.ifT ?_) | (refine WPA.ifF ?_) | ((first | refine WPA.dec ?_); first | refine .inl ⟨by first | assumption | omega | with_reducible rfl | (refine fun h => h ?_; first | assumption | with_reducible rfl) | (simp only [lenS] <;> omega) | decide, ?_⟩ | refine .inr ⟨by first | assumption | omega | with_reducible rfl | (refine fun h => h ?_; first | assumption | with_reducible rfl) | (simp only [lenS] <;> omega) | decide, ?_⟩) | ((first | refine WPA.ifBt ?_ ?_ | refine WPA.ifBnf ?_ ?_); assumption) | ((first | refine WPA.ifBnt ?_ ?_ | refine WPA.ifBf ?_ ?_); assumption) | ((first | refine WPA.ifs ?_ ?_ | refine WPA.ifB ?_ ?_) <;> intro hc))
        refine QQ.loopS (k + 1, n + es.length) ⟨rfl, rfl, rfl, trivial⟩ ⟨⟨⟨hkl, by dsimp only; omega⟩, by dsimp only; rw [List.take_add_one, List.getElem?_eq_getElem hkl, ← at_nat gr k hkl, List.map_append, List.sum_append, hsum]; show n + ((re (at_ gr (k : Int))).length + 0) = _; rw [hes, Nat.add_zero]⟩, fun h hh => ?_⟩ (by dsimp only; omega) (fun w h => h.to)
        rcases hnx h hh with hh | rfl
        · exact hf h hh
        · rw [hes]; exact ⟨by omega, hfi⟩
  · have hkl' : ¬ (k : Int) < gr.length := by omega
    rw [List.take_of_length_le (by omega)] at hf hsum
    repeat' ((fail_if_success (guard_target =~ WPA _ _ _ (.region 15 _ _) _ _ _)); first | ((first | refine WLA.m rfl rfl ?_ ?_ | refine WLA.st rfl ?_ ?_ | refine WLA.x rfl rfl ?_ (fun x => ?_) | refine WLA.x0 rfl ?_ (fun x => ?_)); first | exact trivial | exact rfl | assumption | omega | (refine ⟨?_, ?_⟩ <;> omega) | (simp only [Room, lenS]; omega) | decide | skip) | (refine Stp.go ?_) | (refine WPA.ifT ?_) | (refine WPA.ifF ?_) | ((first | refine WPA.dec ?_); first | refine .inl ⟨by first | assumption | omega | with_reducible rfl | (refine fun h => h ?_; first | assumption | with_reducible rfl) | (simp only [lenS] <;> omega) | decide, ?_⟩ | refine .inr ⟨by first | assumption | omega | with_reducible rfl | (refine fun h => h ?_; first | assumption | with_reducible rfl) | (simp only [lenS] <;> omega) | decide, ?_⟩) | ((first | refine WPA.ifBt ?_ ?_ | refine WPA.ifBnf ?_ ?_); assumption) | ((first | refine WPA.ifBnt ?_ ?_ | refine WPA.ifBf ?_ ?_); assumption) | ((first | refine WPA.ifs ?_ ?_ | refine WPA.ifB ?_ ?_) <;> intro hc))
    repeat' (first | ((first | refine WLA.m rfl rfl ?_ ?_ | refine WLA.st rfl ?_ ?_ | refine WLA.x rfl rfl ?_ (fun x => ?_) | refine WLA.x0 rfl ?_ (fun x => ?_)); first | exact trivial | exact rfl | assumption | omega | (refine ⟨?_, ?_⟩ <;> omega) | (simp only [Room, lenS]; omega) | decide | skip) | (refine Stp.go ?_) | (refine WPA.ifT ?_) | (refine WPA.ifF ?_) | ((first | refine WPA.dec ?_); first | refine .inl ⟨by first | assumption | omega | with_reducible rfl | (refine fun h => h ?_; first | assumption | with_reducible rfl) | (simp only [lenS] <;> omega) | decide, ?_⟩ | refine .inr ⟨by first | assumption | omega | with_reducible rfl | (refine fun h => h ?_; first | assumption | with_reducible rfl) | (simp only [lenS] <;> omega) | decide, ?_⟩) | ((first | refine WPA.ifBt ?_ ?_ | refine WPA.ifBnf ?_ ?_); assumption) | ((first | refine WPA.ifBnt ?_ ?_ | refine WPA.ifBf ?_ ?_); assumption) | ((first | refine WPA.ifs ?_ ?_ | refine WPA.ifB ?_ ?_) <;> intro hc))
    exact QQ.end_ rfl ⟨decide ((n : Int) ≤ 200), fun hd => ⟨⟨⟨by omega, by omega⟩, hf⟩, by have := of_decide_eq_true hd; omega⟩⟩ rfl fun w h => h.to
end
theorem mdR_all {W : World} {w g : SV} (hw : gSl gStr 16 W w) (hg : gSl (gSl (gPair (gSl gInt 8) (gPair gInt gInt)) 40) 24 W g) : ∃ (ws : List ByteArray) (gr : List SV), MdR (allB W) (rd Int (allB W)) (rd En (allB W)) w g ws gr := by
  obtain ⟨ws, a1, a2, a3⟩ := hw
  obtain ⟨gr, b1, b2, b3⟩ := hg
  refine ⟨ws, gr, SlI.all a1, SlI.all b1, fun h hm => ?_, fun h hm p hp => ?_, fun s hs => ?_⟩
  · obtain ⟨es, c1, c2, c3⟩ := b2 h hm
    exact (SlI.all c1).rd
  · obtain ⟨es, c1, c2, c3⟩ := b2 h hm
    have e : rd En (allB W) h = es := (SlI.all c1).rd.det (SlI.all c1) (SL.all W)
    rw [e] at hp
    obtain ⟨xs, q1, q2, q3⟩ := (c2 p hp).1
    exact (SlI.all q1).rd
  · have := a2 s hs; unfold gStr at this; omega
theorem MdR.toL {J : Foot} {kg : SV → List Int} {re : SV → List En} {w g : SV} {ws : List ByteArray} {gr : List SV} (h : MdR J kg re w g ws gr) : MdL J w g ws (gr.map fun h => enV kg (re h)) := by
  refine ⟨h.words, gr, h.grams, by simp, fun k hk => ?_⟩
  rw [List.length_map] at hk
  have hm : at_ gr (k : Int) ∈ gr := by rw [at_nat gr k hk]; exact List.getElem_mem _
  rw [List.getD_eq_getElem?_getD, List.getElem?_map, List.getElem?_eq_getElem hk, ← at_nat gr k hk]
  refine ⟨re (at_ gr (k : Int)), h.rows _ hm, by unfold enV; simp [List.map_map, Function.comp_def], fun i hi => ?_⟩
  have hp := h.elems _ hm _ (List.getElem_mem hi)
  show SlI J _ Int _ ((enV kg (re (at_ gr (k : Int)))).getD i ((0, 0), [])).2
  unfold enV
  rw [List.getD_eq_getElem?_getD, List.getElem?_map, List.getElem?_eq_getElem hi, at_nat _ i hi]
  exact hp
def FewA (ws : List ByteArray) (A : List (List EV)) : Prop := (ws.length ≤ 1000000 ∧ A.length ≤ 1000000) ∧ ∀ es ∈ A, es.length ≤ 1000000 ∧ ∀ e ∈ es, e.2.length ≤ 1000000
section
variable {L : List HP} {w0 : World} {I : Foot}
theorem MdQ.at {w g : SV} {ws : List ByteArray} {gr : List SV} {A : List (List EV)} (h : MdQ I w g ws gr A) (f : FewA ws A) {i : Nat} (hi : i < gr.length) :
    (SlI I (at_ gr (i : Int)) En inferInstance (rd En I (at_ gr (i : Int))) ∧ EnG I (rd Int I) (rd En I (at_ gr (i : Int)))) ∧ A[i]? = some (enV (rd Int I) (rd En I (at_ gr (i : Int)))) ∧ (rd En I (at_ gr (i : Int))).length ≤ 1000000 ∧ ∀ p ∈ rd En I (at_ gr (i : Int)), (rd Int I p.1).length ≤ 1000000 := by
  have hm : at_ gr (i : Int) ∈ gr := by rw [at_nat gr i hi]; exact List.getElem_mem _
  have hc : A[i]? = some (enV (rd Int I) (rd En I (at_ gr (i : Int)))) := by rw [← h.cont, List.getElem?_map, List.getElem?_eq_getElem hi, at_nat gr i hi]; rfl
  obtain ⟨f1, f2⟩ := f.2 _ (List.mem_of_getElem? hc)
  refine ⟨h.rows _ hm, hc, by simpa [enV] using f1, fun p hp => ?_⟩
  exact f2 (p.2, rd Int I p.1) (List.mem_map.2 ⟨p, hp, rfl⟩)
theorem MdQ.len {w g : SV} {ws : List ByteArray} {gr : List SV} {A : List (List EV)} (h : MdQ I w g ws gr A) : gr.length = A.length := by rw [← h.cont, List.length_map]
theorem rSame_trQ {w g w2 g2 : SV} {ws ws2 : List ByteArray} {gr gr2 : List SV} {A B : List (List EV)} {fr fr2 : Int} (ha : MdQ I w g ws gr A) (hb : MdQ I w2 g2 ws2 gr2 B) (fa : FewA ws A) (fb : FewA ws2 B) :
    Tr Tryz.prog 12 #[.agg #[.int .i64 fr, .slice w.a w.n w.cap, .slice g.a g.n g.cap], .agg #[.int .i64 fr2, .slice w2.a w2.n w2.cap, .slice g2.a g2.n g2.cap]] (SL w0 I L) (fun _ : Unit => .bool (decide (fr = fr2 ∧ ws = ws2 ∧ A = B))) (fun _ => SL w0 I L) := by
  refine Tr.intro Tryz.func12 rfl Tryz.ntmps12 rfl ?_
  have h1 := ha.words
  have h2 := hb.words
  have h3 := ha.grams
  have h4 := hb.grams
  have hwl : ws.length ≤ 1000000000 := by have := fa.1.1; omega
  have hga := ha.len
  have hgb := hb.len
  have hgl : gr.length ≤ 1000000 := by have := fa.1.2; omega
  have no : ¬ (fr = fr2 ∧ ws = ws2 ∧ A = B) → decide (fr = fr2 ∧ ws = ws2 ∧ A = B) = false := decide_eq_false
  by_cases c1 : fr = fr2
  · have c1' : ¬ fr ≠ fr2 := fun h => h c1
    by_cases c2 : gr.length = gr2.length
    · have c2' : ¬ (gr.length : Int) ≠ gr2.length := by omega
      by_cases c3 : ws = ws2
      · have c3' : ¬ ¬ ws = ws2 := fun h => h c3
        repeat' (first | ((first | refine WLA.m rfl rfl ?_ ?_ | refine WLA.st rfl ?_ ?_ | refine WLA.x rfl rfl ?_ (fun x => ?_) | refine WLA.x0 rfl ?_ (fun x => ?_)); first | exact trivial | exact rfl | assumption | omega | (refine ⟨?_, ?_⟩ <;> omega) | (simp only [Room, lenS]; omega) | decide | skip) | (refine Stp.go ?_) | (guard_target =~ WLA _ _ _ _ _ (⟨_, .call ⟨.value (.func 30), _, _⟩, _, _, _, _⟩ :: _) _ _; refine WLA.cq rfl rfl (Same_tr hwl) ?_) | (refine WPA.ifT ?_) | (refine WPA.ifF ?_) | (refine WLA.no rfl rfl ?_) | ((first | refine WPA.dec ?_ | ((fail_if_success (guard_target =~ WLA _ _ _ _ _ _ (put1 _ _ (.bool true)) _)); (fail_if_success (guard_target =~ WLA _ _ _ _ _ _ (put1 _ _ (.bool false)) _)); refine WLA.dec rfl rfl ?_) | refine WLA.pk ?_); first | refine .inl ⟨by first | assumption | omega | with_reducible rfl | (refine fun h => h ?_; first | assumption | with_reducible rfl) | (simp only [lenS] <;> omega) | decide, ?_⟩ | refine .inr ⟨by first | assumption | omega | with_reducible rfl | (refine fun h => h ?_; first | assumption | with_reducible rfl) | (simp only [lenS] <;> omega) | decide, ?_⟩) | ((first | refine WPA.ifBt ?_ ?_ | refine WPA.ifBnf ?_ ?_); assumption) | ((first | refine WPA.ifBnt ?_ ?_ | refine WPA.ifBf ?_ ?_); assumption) | ((first | refine WPA.ifs ?_ ?_ | refine WPA.ifB ?_ ?_) <;> intro hc) | ((fail_if_success (guard_target =~ WLA _ _ _ _ _ _ (put1 _ _ (.bool true)) _)); (fail_if_success (guard_target =~ WLA _ _ _ _ _ _ (put1 _ _ (.bool false)) _)); (first | refine WLA.both rfl rfl ?_ ?_ | refine WLA.bothB rfl rfl ?_ ?_) <;> intro hg))
        rename_i t2
        revert x; intro t3
        refine WPA.loopS (σ := Nat) (fun i => [(2, .pointer (some ⟨t2, 0, none⟩)), (3, .pointer (some ⟨t3, 0, none⟩)), (5, .int .i64 i)]) (fun i => i ≤ gr.length ∧ A.take i = B.take i)
          (fun _ => SL w0 I (Bk t3 25 [.int .i64 fr2, .slice w2.a w2.n w2.cap, .slice g2.a g2.n g2.cap] :: Bk t2 25 [.int .i64 fr, .slice w.a w.n w.cap, .slice g.a g.n g.cap] :: L)) (fun i => gr.length - i) 0 ⟨rfl, rfl, rfl, trivial⟩ ⟨Nat.zero_le _, rfl⟩ (fun w h => h.to) ?_
        rintro i ρ ⟨hi, he⟩
        by_cases hlt : i < gr.length
        · have hlt' : (i : Int) < gr.length := by omega
          have hlt2 : (i : Int) < gr2.length := by omega
          obtain ⟨⟨p1, p2⟩, p3, p4, p5⟩ := ha.at fa hlt
          obtain ⟨⟨q1, q2⟩, q3, q4, q5⟩ := hb.at fb (show i < gr2.length by omega)
          generalize rd En I (at_ gr (i : Int)) = xs at p1 p2 p3 p4 p5
          generalize rd En I (at_ gr2 (i : Int)) = ys at q1 q2 q3 q4 q5
          have hp5 : ∀ p ∈ xs, (rd Int I p.1).length ≤ 1000000000 := fun p hp => by have := p5 p hp; omega
          by_cases c4 : enV (rd Int I) xs = enV (rd Int I) ys
          · have c4' : ¬ ¬ enV (rd Int I) xs = enV (rd Int I) ys := fun h => h c4
            repeat' (first | ((first | refine WLA.m rfl rfl ?_ ?_ | refine WDQ.m rfl rfl ?_ ?_ | refine WLA.st rfl ?_ ?_ | refine WLA.x rfl rfl ?_ (fun x => ?_) | refine WLA.x0 rfl ?_ (fun x => ?_)); first | exact trivial | exact rfl | assumption | omega | (refine ⟨?_, ?_⟩ <;> omega) | (simp only [Room, lenS]; omega) | decide | skip) | (refine Stp.go ?_) | (guard_target =~ WLA _ _ _ _ _ (⟨_, .call ⟨.value (.func 31), _, _⟩, _, _, _, _⟩ :: _) _ _; refine WLA.cq rfl rfl (Entries_tr (fun p hp ↦ RdS.imm (h := p2 p hp)) (fun p hp ↦ RdS.imm (h := q2 p hp)) (by omega) hp5) ?_) | (refine WPA.ifT ?_) | (refine WPA.ifF ?_) | ((first | refine WPA.dec ?_); first | refine .inl ⟨by first | assumption | omega | with_reducible rfl | (refine fun h => h ?_; first | assumption | with_reducible rfl) | (simp only [lenS] <;> omega) | decide, ?_⟩ | refine .inr ⟨by first | assumption | omega | with_reducible rfl | (refine fun h => h ?_; first | assumption | with_reducible rfl) | (simp only [lenS] <;> omega) | decide, ?_⟩) | ((first | refine WPA.ifBt ?_ ?_ | refine WPA.ifBnf ?_ ?_); assumption) | ((first | refine WPA.ifBnt ?_ ?_ | refine WPA.ifBf ?_ ?_); assumption) | ((first | refine WPA.ifs ?_ ?_ | refine WPA.ifB ?_ ?_) <;> intro hc) | (guard_target =~ WPA _ _ _ (.region 6 _ true) _ _ _; refine WPA.drawT 10 (.q 0 (.q 1 (.q 2 (.q 3 (.q 4 (.q 5 (.q 6 (.q 7 (.q 8 (.q 9 .fin)))))))))) mixed ?_ ?_; kernel_rfl) | (refine WDA.finish (tl := [⟨_, _, _, _, _, _⟩, ⟨_, _, _, _, _, _⟩]) rfl ?_) | (refine WDQ.see rfl ?_) | (guard_target =~ WDQ _ _ _ _ _ _ _ ⟨_, .call ⟨.value (.func 31), _, _⟩, _, _, _, _⟩ _ _ _; refine WDQ.cq rfl rfl (Entries_tr (fun p hp ↦ RdS.imm (h := p2 p hp)) (fun p hp ↦ RdS.imm (h := q2 p hp)) (by omega) hp5) ?_))
            exact QQ.loopS (i + 1) ⟨rfl, rfl, rfl, trivial⟩ ⟨hlt, by rw [List.take_add_one, List.take_add_one, he, p3, q3, c4]⟩ (by omega) (fun w h => h.to)
          · skip
            repeat' (first | ((first | refine WLA.m rfl rfl ?_ ?_ | refine WDQ.m rfl rfl ?_ ?_ | refine WLA.st rfl ?_ ?_ | refine WLA.x rfl rfl ?_ (fun x => ?_) | refine WLA.x0 rfl ?_ (fun x => ?_)); first | exact trivial | exact rfl | assumption | omega | (refine ⟨?_, ?_⟩ <;> omega) | (simp only [Room, lenS]; omega) | decide | skip) | (refine Stp.go ?_) | (guard_target =~ WLA _ _ _ _ _ (⟨_, .call ⟨.value (.func 31), _, _⟩, _, _, _, _⟩ :: _) _ _; refine WLA.cq rfl rfl (Entries_tr (fun p hp ↦ RdS.imm (h := p2 p hp)) (fun p hp ↦ RdS.imm (h := q2 p hp)) (by omega) hp5) ?_) | (refine WPA.ifT ?_) | (refine WPA.ifF ?_) | ((first | refine WPA.dec ?_); first | refine .inl ⟨by first | assumption | omega | with_reducible rfl | (refine fun h => h ?_; first | assumption | with_reducible rfl) | (simp only [lenS] <;> omega) | decide, ?_⟩ | refine .inr ⟨by first | assumption | omega | with_reducible rfl | (refine fun h => h ?_; first | assumption | with_reducible rfl) | (simp only [lenS] <;> omega) | decide, ?_⟩) | ((first | refine WPA.ifBt ?_ ?_ | refine WPA.ifBnf ?_ ?_); assumption) | ((first | refine WPA.ifBnt ?_ ?_ | refine WPA.ifBf ?_ ?_); assumption) | ((first | refine WPA.ifs ?_ ?_ | refine WPA.ifB ?_ ?_) <;> intro hc) | (guard_target =~ WPA _ _ _ (.region 6 _ true) _ _ _; refine WPA.drawT 10 (.q 0 (.q 1 (.q 2 (.q 3 (.q 4 (.q 5 (.q 6 (.q 7 (.q 8 (.q 9 .fin)))))))))) mixed ?_ ?_; kernel_rfl) | (refine WDA.finish (tl := [⟨_, _, _, _, _, _⟩, ⟨_, _, _, _, _, _⟩]) rfl ?_) | (refine WDQ.see rfl ?_) | (guard_target =~ WDQ _ _ _ _ _ _ _ ⟨_, .call ⟨.value (.func 31), _, _⟩, _, _, _, _⟩ _ _ _; refine WDQ.cq rfl rfl (Entries_tr (fun p hp ↦ RdS.imm (h := p2 p hp)) (fun p hp ↦ RdS.imm (h := q2 p hp)) (by omega) hp5) ?_))
            exact QQ.end_ rfl () (by rw [no fun h => c4 (by have e := h.2.2; rw [e, q3] at p3; injection p3 with p3; exact p3.symm)]) fun w h => h.to
        · have hlt' : ¬ (i : Int) < gr.length := by omega
          rw [List.take_of_length_le (by omega), List.take_of_length_le (by omega)] at he
          repeat' (first | ((first | refine WLA.m rfl rfl ?_ ?_ | refine WLA.st rfl ?_ ?_ | refine WLA.x rfl rfl ?_ (fun x => ?_) | refine WLA.x0 rfl ?_ (fun x => ?_)); first | exact trivial | exact rfl | assumption | omega | (refine ⟨?_, ?_⟩ <;> omega) | (simp only [Room, lenS]; omega) | decide | skip) | (refine Stp.go ?_) | (refine WPA.ifT ?_) | (refine WPA.ifF ?_) | ((first | refine WPA.dec ?_); first | refine .inl ⟨by first | assumption | omega | with_reducible rfl | (refine fun h => h ?_; first | assumption | with_reducible rfl) | (simp only [lenS] <;> omega) | decide, ?_⟩ | refine .inr ⟨by first | assumption | omega | with_reducible rfl | (refine fun h => h ?_; first | assumption | with_reducible rfl) | (simp only [lenS] <;> omega) | decide, ?_⟩) | ((first | refine WPA.ifBt ?_ ?_ | refine WPA.ifBnf ?_ ?_); assumption) | ((first | refine WPA.ifBnt ?_ ?_ | refine WPA.ifBf ?_ ?_); assumption) | ((first | refine WPA.ifs ?_ ?_ | refine WPA.ifB ?_ ?_) <;> intro hc))
          exact QQ.end_ rfl () (by rw [decide_eq_true ⟨c1, c3, he⟩]) fun w h => h.to
      · skip
        repeat' (first | ((first | refine WLA.m rfl rfl ?_ ?_ | refine WLA.st rfl ?_ ?_ | refine WLA.x rfl rfl ?_ (fun x => ?_) | refine WLA.x0 rfl ?_ (fun x => ?_)); first | exact trivial | exact rfl | assumption | omega | (refine ⟨?_, ?_⟩ <;> omega) | (simp only [Room, lenS]; omega) | decide | skip) | (refine Stp.go ?_) | (guard_target =~ WLA _ _ _ _ _ (⟨_, .call ⟨.value (.func 30), _, _⟩, _, _, _, _⟩ :: _) _ _; refine WLA.cq rfl rfl (Same_tr hwl) ?_) | (refine WPA.ifT ?_) | (refine WPA.ifF ?_) | (refine WLA.no rfl rfl ?_) | ((first | refine WPA.dec ?_ | ((fail_if_success (guard_target =~ WLA _ _ _ _ _ _ (put1 _ _ (.bool true)) _)); (fail_if_success (guard_target =~ WLA _ _ _ _ _ _ (put1 _ _ (.bool false)) _)); refine WLA.dec rfl rfl ?_) | refine WLA.pk ?_); first | refine .inl ⟨by first | assumption | omega | with_reducible rfl | (refine fun h => h ?_; first | assumption | with_reducible rfl) | (simp only [lenS] <;> omega) | decide, ?_⟩ | refine .inr ⟨by first | assumption | omega | with_reducible rfl | (refine fun h => h ?_; first | assumption | with_reducible rfl) | (simp only [lenS] <;> omega) | decide, ?_⟩) | ((first | refine WPA.ifBt ?_ ?_ | refine WPA.ifBnf ?_ ?_); assumption) | ((first | refine WPA.ifBnt ?_ ?_ | refine WPA.ifBf ?_ ?_); assumption) | ((first | refine WPA.ifs ?_ ?_ | refine WPA.ifB ?_ ?_) <;> intro hc) | ((fail_if_success (guard_target =~ WLA _ _ _ _ _ _ (put1 _ _ (.bool true)) _)); (fail_if_success (guard_target =~ WLA _ _ _ _ _ _ (put1 _ _ (.bool false)) _)); (first | refine WLA.both rfl rfl ?_ ?_ | refine WLA.bothB rfl rfl ?_ ?_) <;> intro hg))
        exact QQ.end_ rfl () (by rw [no fun h => c3 h.2.1]) fun w h => h.to
    · have c2' : (gr.length : Int) ≠ gr2.length := by omega
      repeat' (first | ((first | refine WLA.m rfl rfl ?_ ?_ | refine WLA.st rfl ?_ ?_ | refine WLA.x rfl rfl ?_ (fun x => ?_) | refine WLA.x0 rfl ?_ (fun x => ?_)); first | exact trivial | exact rfl | assumption | omega | (refine ⟨?_, ?_⟩ <;> omega) | (simp only [Room, lenS]; omega) | decide | skip) | (refine Stp.go ?_) | (refine WPA.ifT ?_) | (refine WPA.ifF ?_) | (refine WLA.no rfl rfl ?_) | ((first | refine WPA.dec ?_ | ((fail_if_success (guard_target =~ WLA _ _ _ _ _ _ (put1 _ _ (.bool true)) _)); (fail_if_success (guard_target =~ WLA _ _ _ _ _ _ (put1 _ _ (.bool false)) _)); refine WLA.dec rfl rfl ?_) | refine WLA.pk ?_); first | refine .inl ⟨by first | assumption | omega | with_reducible rfl | (refine fun h => h ?_; first | assumption | with_reducible rfl) | (simp only [lenS] <;> omega) | decide, ?_⟩ | refine .inr ⟨by first | assumption | omega | with_reducible rfl | (refine fun h => h ?_; first | assumption | with_reducible rfl) | (simp only [lenS] <;> omega) | decide, ?_⟩) | ((first | refine WPA.ifBt ?_ ?_ | refine WPA.ifBnf ?_ ?_); assumption) | ((first | refine WPA.ifBnt ?_ ?_ | refine WPA.ifBf ?_ ?_); assumption) | ((first | refine WPA.ifs ?_ ?_ | refine WPA.ifB ?_ ?_) <;> intro hc) | ((fail_if_success (guard_target =~ WLA _ _ _ _ _ _ (put1 _ _ (.bool true)) _)); (fail_if_success (guard_target =~ WLA _ _ _ _ _ _ (put1 _ _ (.bool false)) _)); (first | refine WLA.both rfl rfl ?_ ?_ | refine WLA.bothB rfl rfl ?_ ?_) <;> intro hg))
      exact QQ.end_ rfl () (by rw [no fun h => c2 (by rw [hga, hgb, h.2.2])]) fun w h => h.to
  · skip
    repeat' (first | ((first | refine WLA.m rfl rfl ?_ ?_ | refine WLA.st rfl ?_ ?_ | refine WLA.x rfl rfl ?_ (fun x => ?_) | refine WLA.x0 rfl ?_ (fun x => ?_)); first | exact trivial | exact rfl | assumption | omega | (refine ⟨?_, ?_⟩ <;> omega) | (simp only [Room, lenS]; omega) | decide | skip) | (refine Stp.go ?_) | (refine WPA.ifT ?_) | (refine WPA.ifF ?_) | (refine WLA.no rfl rfl ?_) | ((first | refine WPA.dec ?_ | ((fail_if_success (guard_target =~ WLA _ _ _ _ _ _ (put1 _ _ (.bool true)) _)); (fail_if_success (guard_target =~ WLA _ _ _ _ _ _ (put1 _ _ (.bool false)) _)); refine WLA.dec rfl rfl ?_) | refine WLA.pk ?_); first | refine .inl ⟨by first | assumption | omega | with_reducible rfl | (refine fun h => h ?_; first | assumption | with_reducible rfl) | (simp only [lenS] <;> omega) | decide, ?_⟩ | refine .inr ⟨by first | assumption | omega | with_reducible rfl | (refine fun h => h ?_; first | assumption | with_reducible rfl) | (simp only [lenS] <;> omega) | decide, ?_⟩) | ((first | refine WPA.ifBt ?_ ?_ | refine WPA.ifBnf ?_ ?_); assumption) | ((first | refine WPA.ifBnt ?_ ?_ | refine WPA.ifBf ?_ ?_); assumption) | ((first | refine WPA.ifs ?_ ?_ | refine WPA.ifB ?_ ?_) <;> intro hc) | ((fail_if_success (guard_target =~ WLA _ _ _ _ _ _ (put1 _ _ (.bool true)) _)); (fail_if_success (guard_target =~ WLA _ _ _ _ _ _ (put1 _ _ (.bool false)) _)); (first | refine WLA.both rfl rfl ?_ ?_ | refine WLA.bothB rfl rfl ?_ ?_) <;> intro hg))
    exact QQ.end_ rfl () (by rw [no fun h => c1 h.1]) fun w h => h.to
theorem rSame_trI {w g w2 g2 : SV} {ws ws2 : List ByteArray} {A B : List (List EV)} {fr fr2 : Int} (ha : MdL I w g ws A) (hb : MdL I w2 g2 ws2 B) (fa : FewA ws A) (fb : FewA ws2 B) :
    Tr Tryz.prog 12 #[.agg #[.int .i64 fr, .slice w.a w.n w.cap, .slice g.a g.n g.cap], .agg #[.int .i64 fr2, .slice w2.a w2.n w2.cap, .slice g2.a g2.n g2.cap]] (SL w0 I L) (fun _ : Unit => .bool (decide (fr = fr2 ∧ ws = ws2 ∧ A = B))) (fun _ => SL w0 I L) := by
  unfold Tr
  intro u hu
  obtain ⟨gr, hq⟩ := ha.nst hu
  obtain ⟨gr2, hq2⟩ := hb.nst hu
  have h := rSame_trQ (L := L) (w0 := w0) (fr := fr) (fr2 := fr2) hq hq2 fa fb
  unfold Tr at h
  exact h u hu
end
end Go.Proofs.YthkhneimfjaohaaGreatDoor
