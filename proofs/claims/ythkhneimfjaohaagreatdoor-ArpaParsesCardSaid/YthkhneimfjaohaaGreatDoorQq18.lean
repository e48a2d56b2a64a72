/- Texts that ArpaParses_law leans on, part 18. Conditions: none. -/
import Derived.Test.YthkhneimfjaohaaGreatDoorQq17
namespace Go.Proofs.YthkhneimfjaohaaGreatDoor
open Go Go.Fw Go.RowKit
set_option linter.unusedVariables false
set_option linter.unusedSimpArgs false
set_option maxRecDepth 100000
set_option maxHeartbeats 16000000
set_option synthInstance.maxHeartbeats 200000
set_option synthInstance.maxSize 100000
attribute [local irreducible] WPA WLA WDA WDQ WDE QQ seqQ blockQ loopQ fnQ OpP OpT Tr TrP SL SLd OwnS LitS Bk BkE Ob
attribute [local irreducible] NumOk
abbrev lineC (at' : Int) (w : SV) (p b : Int) : List Value := [.int .i64 at', .slice w.a w.n w.cap, .slice none 0 0, .int .i64 p, .int .i64 b]
abbrev line0 : List Value := [.int .i64 0, .slice none 0 0, .slice none 0 0, .int .i64 0, .int .i64 0]
instance loadFrz {P : Program} {ρ : Env} {A : World → Prop} {ty : TypeId} {w0 : World} {I : Foot} {L : List HP} {x : Operand} {t t' : TypeId} {b i n : Nat} {cs l1 l2 l3 l : List Value} [hx : Ev ρ x (.pointer (some ⟨b, i, none⟩))] [ht : Agg P t n] [hA : InSL A w0 I L] [hb : InI I b t' cs] [hf : FirstL cs i l1 l2] [hl : FirstL l2 n l l3] :
    OpM P ρ A (.load t x) ty (.agg l.toArray) True := ⟨fun _ => P_loadAgg ht.out hx.out hl.out.2 fun w hw j v hj => by
  refine cell_of_heap ((hA.out w hw).mem _ _ hb.out) ?_
  rw [hf.out.1, hl.out.1]
  have h1 := hf.out.2
  have hjl := (List.getElem?_eq_some_iff.1 hj).1
  simp only [List.getElem?_toArray]
  rw [List.getElem?_append_right (by omega), show i + j - l1.length = j by omega, List.getElem?_append_left hjl]
  exact hj⟩
structure LR where
  w : SV
  p : Int
  b : Int
  ok : Bool
  R : Foot
section
variable {L L' : List HP} {w0 : World} {I : Foot}
theorem numB_iff {s : ByteArray} : numB s = true ↔ NumOk s := by
  by_cases k : NumOk s
  · rw [(num_yes k).2]; exact ⟨fun _ => k, fun _ => rfl⟩
  · rw [(num_no k).2]; exact ⟨fun e => (by cases e), fun e => absurd e k⟩
theorem line_trR {l : ByteArray} {o : Int} {last : Bool} (hs : l.size ≤ 1000000) :
    Tr Tryz.prog 36 #[.string l, .int .i64 o, .bool last] (SL w0 I L)
      (fun x : { x : LR // (x.ok = true ↔ EntOk o last l) ∧ (x.ok = true → SlI (x.R ++ I) x.w ByteArray inferInstance (splB (nthB (splB l 9) 1) 32) ∧ x.p = numV (nthB (splB l 9) 0) ∧ x.b = if last then 0 else numV (nthB (splB l 9) 2)) } => .tuple #[.agg (lineC 0 x.1.w x.1.p x.1.b).toArray, .bool x.1.ok])
      (fun x => SL w0 (x.1.R ++ I) L) := by
  refine Tr.intro Tryz.func36 rfl Tryz.ntmps36 rfl ?_
  have hc9 : ∀ {L : List HP}, Tr Tryz.prog 32 #[.string l, .int .u8 9] (SL w0 I L) (fun r : SV => .slice r.a r.n r.cap) (fun r => SL w0 I (OwnS 9 r (splB l 9) :: L)) := fun {L} => Cut_trR (c := 9) hs
  have hmem : ∀ p ∈ splB l 9, p.size ≤ l.size := fun p hp => spl_mem hp
  obtain ⟨ps, hps⟩ : ∃ ps, splB l 9 = ps := ⟨_, rfl⟩
  unfold EntOk
  rw [hps] at hc9 hmem ⊢
  by_cases hlen : (ps.length : Int) = (if last then 2 else 3)
  · cases last
    · rw [if_neg (by decide)] at hlen
      obtain ⟨p0, p1, p2, rfl⟩ : ∃ p0 p1 p2, ps = [p0, p1, p2] := by
        match ps, hlen with
        | [p0, p1, p2], _ => exact ⟨p0, p1, p2, rfl⟩
      have hz0 := hmem p0 (by simp)
      have hz1 := hmem p1 (by simp)
      have hc32 : ∀ {L : List HP}, Tr Tryz.prog 32 #[.string p1, .int .u8 32] (SL w0 I L) (fun r : SV => .slice r.a r.n r.cap) (fun r => SL w0 I (OwnS 9 r (splB p1 32) :: L)) := fun {L} => Cut_trR (c := 32) (by omega)
      have hwm : ∀ w ∈ splB p1 32, w.size ≤ p1.size := fun w hw => spl_mem hw
      have hwn : (splB p1 32).length ≤ 1000001 := by unfold splB; rw [splF_len]; have := cnt_le p1 32; omega
      have n0 : nthB [p0, p1, p2] 0 = p0 := rfl
      have n1 : nthB [p0, p1, p2] 1 = p1 := rfl
      have n2 : nthB [p0, p1, p2] 2 = p2 := rfl
      rw [n0, n1, n2]
      obtain ⟨words, hwd⟩ : ∃ words, splB p1 32 = words := ⟨_, rfl⟩
      rw [hwd] at hc32 hwm hwn ⊢
      have a0 : at_ [p0, p1, p2] (0 : Int) = p0 := rfl
      have a1 : at_ [p0, p1, p2] (1 : Int) = p1 := rfl
      have a2 : at_ [p0, p1, p2] (2 : Int) = p2 := rfl
      have m0 := fun {L : List HP} => rNumber_tr (w0 := w0) (I := I) (L := L) (s := p0)
      have m2 := fun {L : List HP} => rNumber_tr (w0 := w0) (I := I) (L := L) (s := p2)
      have hln : (([p0, p1, p2] : List ByteArray).length : Int) = 3 := rfl
      repeat' ((fail_if_success (guard_target =~ WPA _ _ _ (.region 14 _ _) _ _ _)); first | ((rw [a0])) | ((rw [a1])) | ((rw [a2])) | ((first | refine WLA.m rfl rfl ?_ ?_ | refine WLA.st rfl ?_ ?_ | refine WLA.x rfl rfl ?_ (fun x => ?_) | refine WLA.x0 rfl ?_ (fun x => ?_)); first | exact sdT | skip) | (refine Stp.go ?_) | (guard_target =~ WLA _ _ _ _ _ (⟨_, .call ⟨.value (.func 32), _, _⟩, _, _, _, _⟩ :: _) _ _; refine WLA.call rfl rfl (hc9) ?_; rintro pv) | (guard_target =~ WLA _ _ _ _ _ (⟨_, .call ⟨.value (.func 32), _, _⟩, _, _, _, _⟩ :: _) _ _; refine WLA.call rfl rfl (hc32) ?_; rintro wv) | (guard_target =~ WLA _ _ _ _ _ (⟨_, .call ⟨.value (.func 56), _, _⟩, _, _, _, _⟩ :: _) _ _; refine WLA.cq rfl rfl (m0) ?_) | (guard_target =~ WLA _ _ _ _ _ (⟨_, .call ⟨.value (.func 56), _, _⟩, _, _, _, _⟩ :: _) _ _; refine WLA.cq rfl rfl (m2) ?_) | (refine WPA.ifT ?_) | (refine WPA.ifF ?_) | (refine WLA.no rfl rfl ?_) | ((first | refine WPA.dec ?_ | ((fail_if_success (guard_target =~ WLA _ _ _ _ _ _ (put1 _ _ (.bool true)) _)); (fail_if_success (guard_target =~ WLA _ _ _ _ _ _ (put1 _ _ (.bool false)) _)); refine WLA.dec rfl rfl ?_) | refine WLA.pk ?_); first | refine orL ?_ | refine orR ?_) | ((first | refine WPA.ifBt ?_ ?_ | refine WPA.ifBnf ?_ ?_); assumption) | ((first | refine WPA.ifBnt ?_ ?_ | refine WPA.ifBf ?_ ?_); assumption) | ((first | refine WPA.ifs ?_ ?_ | refine WPA.ifB ?_ ?_) <;> intro hc) | ((fail_if_success (guard_target =~ WLA _ _ _ _ _ _ (put1 _ _ (.bool true)) _)); (fail_if_success (guard_target =~ WLA _ _ _ _ _ _ (put1 _ _ (.bool false)) _)); (first | refine WLA.both rfl rfl ?_ ?_ | refine WLA.bothB rfl rfl ?_ ?_) <;> intro hg))
      · have hok : numB p2 = true ↔ (NumOk p0 ∧ NumOk p2) ∧ ∀ w ∈ words.take 0, PieceP w := ⟨fun k => ⟨⟨numB_iff.1 hg, numB_iff.1 k⟩, fun w hw => (by rw [List.take_zero] at hw; cases hw)⟩, fun k => numB_iff.2 k.1.2⟩
        revert x; intro t10; revert x; intro t6
        refine WPA.ent (EntC.out (L' := OwnS 9 wv words :: Bk t10 83 (lineC 0 wv (numV p0) (numV p2)) :: Bk t6 83 line0 :: L)) ?_
        refine WPA.freeze fun R hR => ?_
        have hws : SlI (R ++ I) wv ByteArray inferInstance words := by have := SlI.ofOwn hR; infer_instance
        repeat' (first | ((first | refine WLA.m rfl rfl ?_ ?_ | refine WLA.st rfl ?_ ?_ | refine WLA.x rfl rfl ?_ (fun x => ?_) | refine WLA.x0 rfl ?_ (fun x => ?_)); first | exact sdT | skip) | (refine Stp.go ?_) | (refine WPA.ifT ?_) | (refine WPA.ifF ?_) | ((first | refine WPA.dec ?_); first | refine orL ?_ | refine orR ?_) | ((first | refine WPA.ifBt ?_ ?_ | refine WPA.ifBnf ?_ ?_); assumption) | ((first | refine WPA.ifBnt ?_ ?_ | refine WPA.ifBf ?_ ?_); assumption) | ((first | refine WPA.ifs ?_ ?_ | refine WPA.ifB ?_ ?_) <;> intro hc))
        refine WPA.loopS (σ := Nat × Bool) (fun y => [(1, .int .i64 o), (6, .pointer (some ⟨t6, 0, none⟩)), (10, .pointer (some ⟨t10, 0, none⟩)), (12, .bool y.2), (15, .int .i64 y.1)])
          (fun y => y.1 ≤ words.length ∧ (y.2 = true ↔ (NumOk p0 ∧ NumOk p2) ∧ ∀ w ∈ words.take y.1, PieceP w)) (fun _ => SL w0 (R ++ I) (Bk t10 83 (lineC 0 wv (numV p0) (numV p2)) :: Bk t6 83 line0 :: L)) (fun y => words.length - y.1) (0, _) ⟨rfl, rfl, rfl, rfl, rfl, trivial⟩ ⟨Nat.zero_le _, hok⟩ (fun w h => h.to) ?_
        rintro ⟨i, b⟩ ρ ⟨hi, hb⟩
        dsimp only at hi hb ⊢
        by_cases hlt : i < words.length
        · have hlt' : (i : Int) < words.length := by omega
          have hir : (0 : Int) ≤ i ∧ (i : Int) < words.length := by omega
          have hwz := hwm _ (List.getElem_mem hlt)
          rw [← at_nat words i hlt] at hwz
          have htk : ∀ w, w ∈ words.take (i + 1) ↔ w ∈ words.take i ∨ w = at_ words (i : Int) := fun w => by rw [List.take_add_one, List.getElem?_eq_getElem hlt, ← at_nat words i hlt, List.mem_append]; simp
          have hpc := fun {L : List HP} => piece_trR (w0 := w0) (I := R ++ I) (L := L) (s := at_ words (i : Int)) (by omega)
          cases b
          · skip
            repeat' (first | ((first | refine WLA.m rfl rfl ?_ ?_ | refine WLA.st rfl ?_ ?_ | refine WLA.x rfl rfl ?_ (fun x => ?_) | refine WLA.x0 rfl ?_ (fun x => ?_)); first | exact sdT | skip) | (refine Stp.go ?_) | (refine WPA.ifT ?_) | (refine WPA.ifF ?_) | (refine WLA.no rfl rfl ?_) | ((first | refine WPA.dec ?_ | ((fail_if_success (guard_target =~ WLA _ _ _ _ _ _ (put1 _ _ (.bool true)) _)); (fail_if_success (guard_target =~ WLA _ _ _ _ _ _ (put1 _ _ (.bool false)) _)); refine WLA.dec rfl rfl ?_) | refine WLA.pk ?_); first | refine orL ?_ | refine orR ?_) | ((first | refine WPA.ifBt ?_ ?_ | refine WPA.ifBnf ?_ ?_); assumption) | ((first | refine WPA.ifBnt ?_ ?_ | refine WPA.ifBf ?_ ?_); assumption) | ((first | refine WPA.ifs ?_ ?_ | refine WPA.ifB ?_ ?_) <;> intro hc) | ((fail_if_success (guard_target =~ WLA _ _ _ _ _ _ (put1 _ _ (.bool true)) _)); (fail_if_success (guard_target =~ WLA _ _ _ _ _ _ (put1 _ _ (.bool false)) _)); (first | refine WLA.both rfl rfl ?_ ?_ | refine WLA.bothB rfl rfl ?_ ?_) <;> intro hg))
            exact QQ.loopS (i + 1, false) ⟨rfl, rfl, rfl, rfl, rfl, trivial⟩ ⟨hlt, ⟨fun k => (by cases k), fun k => hb.2 ⟨k.1, fun w hw => k.2 w ((htk w).2 (.inl hw))⟩⟩⟩ (by dsimp only; omega) (fun w h => h.to)
          · by_cases hp : PieceP (at_ words (i : Int))
            · rw [decide_eq_true hp] at hpc
              repeat' (first | ((first | refine WLA.m rfl rfl ?_ ?_ | refine WLA.st rfl ?_ ?_ | refine WLA.x rfl rfl ?_ (fun x => ?_) | refine WLA.x0 rfl ?_ (fun x => ?_)); first | exact sdT | skip) | (refine Stp.go ?_) | (guard_target =~ WLA _ _ _ _ _ (⟨_, .call ⟨.value (.func 57), _, _⟩, _, _, _, _⟩ :: _) _ _; refine WLA.cq rfl rfl (hpc) ?_) | (refine WPA.ifT ?_) | (refine WPA.ifF ?_) | (refine WLA.no rfl rfl ?_) | ((first | refine WPA.dec ?_ | ((fail_if_success (guard_target =~ WLA _ _ _ _ _ _ (put1 _ _ (.bool true)) _)); (fail_if_success (guard_target =~ WLA _ _ _ _ _ _ (put1 _ _ (.bool false)) _)); refine WLA.dec rfl rfl ?_) | refine WLA.pk ?_); first | refine orL ?_ | refine orR ?_) | ((first | refine WPA.ifBt ?_ ?_ | refine WPA.ifBnf ?_ ?_); assumption) | ((first | refine WPA.ifBnt ?_ ?_ | refine WPA.ifBf ?_ ?_); assumption) | ((first | refine WPA.ifs ?_ ?_ | refine WPA.ifB ?_ ?_) <;> intro hc) | ((fail_if_success (guard_target =~ WLA _ _ _ _ _ _ (put1 _ _ (.bool true)) _)); (fail_if_success (guard_target =~ WLA _ _ _ _ _ _ (put1 _ _ (.bool false)) _)); (first | refine WLA.both rfl rfl ?_ ?_ | refine WLA.bothB rfl rfl ?_ ?_) <;> intro hg))
              exact QQ.loopS (i + 1, true) ⟨rfl, rfl, rfl, rfl, rfl, trivial⟩ ⟨hlt, ⟨fun _ => ⟨(hb.1 rfl).1, fun w hw => ((htk w).1 hw).elim ((hb.1 rfl).2 w) (fun e => e ▸ hp)⟩, fun _ => rfl⟩⟩ (by dsimp only; omega) (fun w h => h.to)
            · rw [decide_eq_false hp] at hpc
              repeat' (first | ((first | refine WLA.m rfl rfl ?_ ?_ | refine WLA.st rfl ?_ ?_ | refine WLA.x rfl rfl ?_ (fun x => ?_) | refine WLA.x0 rfl ?_ (fun x => ?_)); first | exact sdT | skip) | (refine Stp.go ?_) | (guard_target =~ WLA _ _ _ _ _ (⟨_, .call ⟨.value (.func 57), _, _⟩, _, _, _, _⟩ :: _) _ _; refine WLA.cq rfl rfl (hpc) ?_) | (refine WPA.ifT ?_) | (refine WPA.ifF ?_) | (refine WLA.no rfl rfl ?_) | ((first | refine WPA.dec ?_ | ((fail_if_success (guard_target =~ WLA _ _ _ _ _ _ (put1 _ _ (.bool true)) _)); (fail_if_success (guard_target =~ WLA _ _ _ _ _ _ (put1 _ _ (.bool false)) _)); refine WLA.dec rfl rfl ?_) | refine WLA.pk ?_); first | refine orL ?_ | refine orR ?_) | ((first | refine WPA.ifBt ?_ ?_ | refine WPA.ifBnf ?_ ?_); assumption) | ((first | refine WPA.ifBnt ?_ ?_ | refine WPA.ifBf ?_ ?_); assumption) | ((first | refine WPA.ifs ?_ ?_ | refine WPA.ifB ?_ ?_) <;> intro hc) | ((fail_if_success (guard_target =~ WLA _ _ _ _ _ _ (put1 _ _ (.bool true)) _)); (fail_if_success (guard_target =~ WLA _ _ _ _ _ _ (put1 _ _ (.bool false)) _)); (first | refine WLA.both rfl rfl ?_ ?_ | refine WLA.bothB rfl rfl ?_ ?_) <;> intro hg))
              exact QQ.loopS (i + 1, false) ⟨rfl, rfl, rfl, rfl, rfl, trivial⟩ ⟨hlt, ⟨fun k => (by cases k), fun k => absurd (k.2 _ ((htk _).2 (.inr rfl))) hp⟩⟩ (by dsimp only; omega) (fun w h => h.to)
        · have hlt' : ¬ (i : Int) < words.length := by omega
          rw [List.take_of_length_le (by omega)] at hb
          repeat' ((fail_if_success (guard_target =~ WPA _ _ _ (.region 18 _ _) _ _ _)); first | ((first | refine WLA.m rfl rfl ?_ ?_ | refine WLA.st rfl ?_ ?_ | refine WLA.x rfl rfl ?_ (fun x => ?_) | refine WLA.x0 rfl ?_ (fun x => ?_)); first | exact sdT | skip) | (refine Stp.go ?_) | (refine WPA.ifT ?_) | (refine WPA.ifF ?_) | ((first | refine WPA.dec ?_); first | refine orL ?_ | refine orR ?_) | ((first | refine WPA.ifBt ?_ ?_ | refine WPA.ifBnf ?_ ?_); assumption) | ((first | refine WPA.ifBnt ?_ ?_ | refine WPA.ifBf ?_ ?_); assumption) | ((first | refine WPA.ifs ?_ ?_ | refine WPA.ifB ?_ ?_) <;> intro hc))
          refine WPA.freezeBk (b := t10) ?_
          cases b
          · skip
            repeat' (first | ((first | refine WLA.m rfl rfl ?_ ?_ | refine WDQ.m rfl rfl ?_ ?_ | refine WDP.m rfl rfl ?_ ?_ | refine WLA.st rfl ?_ ?_ | refine WLA.x rfl rfl ?_ (fun x => ?_) | refine WLA.x0 rfl ?_ (fun x => ?_) | refine WDW.x rfl rfl ?_ (fun x => ?_) | refine WDW.st rfl ?_ ?_); first | exact sdT | skip) | (refine Stp.go ?_) | (refine WPA.ifT ?_) | (refine WPA.ifF ?_) | (refine WLA.no rfl rfl ?_) | (refine WDQ.no rfl rfl ?_) | (refine WDP.no rfl rfl ?_) | ((first | refine WPA.dec ?_ | ((fail_if_success (guard_target =~ WLA _ _ _ _ _ _ (put1 _ _ (.bool true)) _)); (fail_if_success (guard_target =~ WLA _ _ _ _ _ _ (put1 _ _ (.bool false)) _)); refine WLA.dec rfl rfl ?_) | refine WLA.pk ?_ | refine WDQ.dec rfl rfl ?_ | refine WDP.dec rfl rfl ?_); first | refine orL ?_ | refine orR ?_) | ((first | refine WPA.ifBt ?_ ?_ | refine WPA.ifBnf ?_ ?_); assumption) | ((first | refine WPA.ifBnt ?_ ?_ | refine WPA.ifBf ?_ ?_); assumption) | ((first | refine WPA.ifs ?_ ?_ | refine WPA.ifB ?_ ?_) <;> intro hc) | ((fail_if_success (guard_target =~ WLA _ _ _ _ _ _ (put1 _ _ (.bool true)) _)); (fail_if_success (guard_target =~ WLA _ _ _ _ _ _ (put1 _ _ (.bool false)) _)); (first | refine WLA.both rfl rfl ?_ ?_ | refine WLA.bothB rfl rfl ?_ ?_) <;> intro hg) | (guard_target =~ WPA _ _ _ (.region 18 _ true) _ _ _; refine WPA.drawT 10 (.q 0 (.p 1 (.p 2 (.p 3 (.p 4 (.p 5 (.p 6 (.p 7 (.p 8 (.w 9 .fin)))))))))) mixed ?_ ?_; kernel_rfl) | (refine WDA.finish (tl := [⟨_, _, _, _, _, _⟩]) rfl ?_) | (refine WDQ.see rfl ?_) | (refine WDP.see rfl ?_) | (refine WDW.see rfl ?_) | ((first | refine WDQ.both rfl rfl ?_ ?_ | refine WDP.both rfl rfl ?_ ?_) <;> intro hg))
            exact QQ.endc rfl ⟨⟨wv, numV p0, (numV p2), false, R⟩, ⟨fun k => (by cases k), fun k => absurd (hb.2 ⟨⟨k.2.1.1, k.2.2.2 rfl⟩, k.2.2.1⟩) (by decide)⟩, fun k => (by cases k)⟩ rfl fun w h => (SL.unI h).to
          · skip
            repeat' (first | ((first | refine WLA.m rfl rfl ?_ ?_ | refine WDQ.m rfl rfl ?_ ?_ | refine WDP.m rfl rfl ?_ ?_ | refine WLA.st rfl ?_ ?_ | refine WLA.x rfl rfl ?_ (fun x => ?_) | refine WLA.x0 rfl ?_ (fun x => ?_) | refine WDW.x rfl rfl ?_ (fun x => ?_) | refine WDW.st rfl ?_ ?_); first | exact sdT | skip) | (refine Stp.go ?_) | (refine WPA.ifT ?_) | (refine WPA.ifF ?_) | (refine WLA.no rfl rfl ?_) | (refine WDQ.no rfl rfl ?_) | (refine WDP.no rfl rfl ?_) | ((first | refine WPA.dec ?_ | ((fail_if_success (guard_target =~ WLA _ _ _ _ _ _ (put1 _ _ (.bool true)) _)); (fail_if_success (guard_target =~ WLA _ _ _ _ _ _ (put1 _ _ (.bool false)) _)); refine WLA.dec rfl rfl ?_) | refine WLA.pk ?_ | refine WDQ.dec rfl rfl ?_ | refine WDP.dec rfl rfl ?_); first | refine orL ?_ | refine orR ?_) | ((first | refine WPA.ifBt ?_ ?_ | refine WPA.ifBnf ?_ ?_); assumption) | ((first | refine WPA.ifBnt ?_ ?_ | refine WPA.ifBf ?_ ?_); assumption) | ((first | refine WPA.ifs ?_ ?_ | refine WPA.ifB ?_ ?_) <;> intro hc) | ((fail_if_success (guard_target =~ WLA _ _ _ _ _ _ (put1 _ _ (.bool true)) _)); (fail_if_success (guard_target =~ WLA _ _ _ _ _ _ (put1 _ _ (.bool false)) _)); (first | refine WLA.both rfl rfl ?_ ?_ | refine WLA.bothB rfl rfl ?_ ?_) <;> intro hg) | (guard_target =~ WPA _ _ _ (.region 18 _ true) _ _ _; refine WPA.drawT 10 (.q 0 (.p 1 (.p 2 (.p 3 (.p 4 (.p 5 (.p 6 (.p 7 (.p 8 (.w 9 .fin)))))))))) mixed ?_ ?_; kernel_rfl) | (refine WDA.finish (tl := [⟨_, _, _, _, _, _⟩]) rfl ?_) | (refine WDQ.see rfl ?_) | (refine WDP.see rfl ?_) | (refine WDW.see rfl ?_) | ((first | refine WDQ.both rfl rfl ?_ ?_ | refine WDP.both rfl rfl ?_ ?_) <;> intro hg))
            exact QQ.endc rfl ⟨⟨wv, numV p0, (numV p2), decide ((words.length : Int) = o), R⟩, ⟨fun k => ⟨rfl, ⟨(hb.1 rfl).1.1, of_decide_eq_true k⟩, (hb.1 rfl).2, fun _ => (hb.1 rfl).1.2⟩, fun k => decide_eq_true k.2.1.2⟩, fun _ => ⟨hws, rfl, rfl⟩⟩ rfl fun w h => (SL.unI h).to
      · have hok : false = true ↔ (NumOk p0 ∧ NumOk p2) ∧ ∀ w ∈ words.take 0, PieceP w := ⟨fun k => (by cases k), fun k => absurd (numB_iff.2 k.1.1) (by rw [hg]; decide)⟩
        revert x; intro t10; revert x; intro t6
        refine WPA.ent (EntC.out (L' := OwnS 9 wv words :: Bk t10 83 (lineC 0 wv (numV p0) (numV p2)) :: Bk t6 83 line0 :: L)) ?_
        refine WPA.freeze fun R hR => ?_
        have hws : SlI (R ++ I) wv ByteArray inferInstance words := by have := SlI.ofOwn hR; infer_instance
        repeat' (first | ((first | refine WLA.m rfl rfl ?_ ?_ | refine WLA.st rfl ?_ ?_ | refine WLA.x rfl rfl ?_ (fun x => ?_) | refine WLA.x0 rfl ?_ (fun x => ?_)); first | exact sdT | skip) | (refine Stp.go ?_) | (refine WPA.ifT ?_) | (refine WPA.ifF ?_) | ((first | refine WPA.dec ?_); first | refine orL ?_ | refine orR ?_) | ((first | refine WPA.ifBt ?_ ?_ | refine WPA.ifBnf ?_ ?_); assumption) | ((first | refine WPA.ifBnt ?_ ?_ | refine WPA.ifBf ?_ ?_); assumption) | ((first | refine WPA.ifs ?_ ?_ | refine WPA.ifB ?_ ?_) <;> intro hc))
        refine WPA.loopS (σ := Nat × Bool) (fun y => [(1, .int .i64 o), (6, .pointer (some ⟨t6, 0, none⟩)), (10, .pointer (some ⟨t10, 0, none⟩)), (12, .bool y.2), (15, .int .i64 y.1)])
          (fun y => y.1 ≤ words.length ∧ (y.2 = true ↔ (NumOk p0 ∧ NumOk p2) ∧ ∀ w ∈ words.take y.1, PieceP w)) (fun _ => SL w0 (R ++ I) (Bk t10 83 (lineC 0 wv (numV p0) (numV p2)) :: Bk t6 83 line0 :: L)) (fun y => words.length - y.1) (0, _) ⟨rfl, rfl, rfl, rfl, rfl, trivial⟩ ⟨Nat.zero_le _, hok⟩ (fun w h => h.to) ?_
        rintro ⟨i, b⟩ ρ ⟨hi, hb⟩
        dsimp only at hi hb ⊢
        by_cases hlt : i < words.length
        · have hlt' : (i : Int) < words.length := by omega
          have hir : (0 : Int) ≤ i ∧ (i : Int) < words.length := by omega
          have hwz := hwm _ (List.getElem_mem hlt)
          rw [← at_nat words i hlt] at hwz
          have htk : ∀ w, w ∈ words.take (i + 1) ↔ w ∈ words.take i ∨ w = at_ words (i : Int) := fun w => by rw [List.take_add_one, List.getElem?_eq_getElem hlt, ← at_nat words i hlt, List.mem_append]; simp
          have hpc := fun {L : List HP} => piece_trR (w0 := w0) (I := R ++ I) (L := L) (s := at_ words (i : Int)) (by omega)
          cases b
          · skip
            repeat' (first | ((first | refine WLA.m rfl rfl ?_ ?_ | refine WLA.st rfl ?_ ?_ | refine WLA.x rfl rfl ?_ (fun x => ?_) | refine WLA.x0 rfl ?_ (fun x => ?_)); first | exact sdT | skip) | (refine Stp.go ?_) | (refine WPA.ifT ?_) | (refine WPA.ifF ?_) | (refine WLA.no rfl rfl ?_) | ((first | refine WPA.dec ?_ | ((fail_if_success (guard_target =~ WLA _ _ _ _ _ _ (put1 _ _ (.bool true)) _)); (fail_if_success (guard_target =~ WLA _ _ _ _ _ _ (put1 _ _ (.bool false)) _)); refine WLA.dec rfl rfl ?_) | refine WLA.pk ?_); first | refine orL ?_ | refine orR ?_) | ((first | refine WPA.ifBt ?_ ?_ | refine WPA.ifBnf ?_ ?_); assumption) | ((first | refine WPA.ifBnt ?_ ?_ | refine WPA.ifBf ?_ ?_); assumption) | ((first | refine WPA.ifs ?_ ?_ | refine WPA.ifB ?_ ?_) <;> intro hc) | ((fail_if_success (guard_target =~ WLA _ _ _ _ _ _ (put1 _ _ (.bool true)) _)); (fail_if_success (guard_target =~ WLA _ _ _ _ _ _ (put1 _ _ (.bool false)) _)); (first | refine WLA.both rfl rfl ?_ ?_ | refine WLA.bothB rfl rfl ?_ ?_) <;> intro hg))
            exact QQ.loopS (i + 1, false) ⟨rfl, rfl, rfl, rfl, rfl, trivial⟩ ⟨hlt, ⟨fun k => (by cases k), fun k => hb.2 ⟨k.1, fun w hw => k.2 w ((htk w).2 (.inl hw))⟩⟩⟩ (by dsimp only; omega) (fun w h => h.to)
          · by_cases hp : PieceP (at_ words (i : Int))
            · rw [decide_eq_true hp] at hpc
              repeat' (first | ((first | refine WLA.m rfl rfl ?_ ?_ | refine WLA.st rfl ?_ ?_ | refine WLA.x rfl rfl ?_ (fun x => ?_) | refine WLA.x0 rfl ?_ (fun x => ?_)); first | exact sdT | skip) | (refine Stp.go ?_) | (guard_target =~ WLA _ _ _ _ _ (⟨_, .call ⟨.value (.func 57), _, _⟩, _, _, _, _⟩ :: _) _ _; refine WLA.cq rfl rfl (hpc) ?_) | (refine WPA.ifT ?_) | (refine WPA.ifF ?_) | (refine WLA.no rfl rfl ?_) | ((first | refine WPA.dec ?_ | ((fail_if_success (guard_target =~ WLA _ _ _ _ _ _ (put1 _ _ (.bool true)) _)); (fail_if_success (guard_target =~ WLA _ _ _ _ _ _ (put1 _ _ (.bool false)) _)); refine WLA.dec rfl rfl ?_) | refine WLA.pk ?_); first | refine orL ?_ | refine orR ?_) | ((first | refine WPA.ifBt ?_ ?_ | refine WPA.ifBnf ?_ ?_); assumption) | ((first | refine WPA.ifBnt ?_ ?_ | refine WPA.ifBf ?_ ?_); assumption) | ((first | refine WPA.ifs ?_ ?_ | refine WPA.ifB ?_ ?_) <;> intro hc) | ((fail_if_success (guard_target =~ WLA _ _ _ _ _ _ (put1 _ _ (.bool true)) _)); (fail_if_success (guard_target =~ WLA _ _ _ _ _ _ (put1 _ _ (.bool false)) _)); (first | refine WLA.both rfl rfl ?_ ?_ | refine WLA.bothB rfl rfl ?_ ?_) <;> intro hg))
              exact QQ.loopS (i + 1, true) ⟨rfl, rfl, rfl, rfl, rfl, trivial⟩ ⟨hlt, ⟨fun _ => ⟨(hb.1 rfl).1, fun w hw => ((htk w).1 hw).elim ((hb.1 rfl).2 w) (fun e => e ▸ hp)⟩, fun _ => rfl⟩⟩ (by dsimp only; omega) (fun w h => h.to)
            · rw [decide_eq_false hp] at hpc
              repeat' (first | ((first | refine WLA.m rfl rfl ?_ ?_ | refine WLA.st rfl ?_ ?_ | refine WLA.x rfl rfl ?_ (fun x => ?_) | refine WLA.x0 rfl ?_ (fun x => ?_)); first | exact sdT | skip) | (refine Stp.go ?_) | (guard_target =~ WLA _ _ _ _ _ (⟨_, .call ⟨.value (.func 57), _, _⟩, _, _, _, _⟩ :: _) _ _; refine WLA.cq rfl rfl (hpc) ?_) | (refine WPA.ifT ?_) | (refine WPA.ifF ?_) | (refine WLA.no rfl rfl ?_) | ((first | refine WPA.dec ?_ | ((fail_if_success (guard_target =~ WLA _ _ _ _ _ _ (put1 _ _ (.bool true)) _)); (fail_if_success (guard_target =~ WLA _ _ _ _ _ _ (put1 _ _ (.bool false)) _)); refine WLA.dec rfl rfl ?_) | refine WLA.pk ?_); first | refine orL ?_ | refine orR ?_) | ((first | refine WPA.ifBt ?_ ?_ | refine WPA.ifBnf ?_ ?_); assumption) | ((first | refine WPA.ifBnt ?_ ?_ | refine WPA.ifBf ?_ ?_); assumption) | ((first | refine WPA.ifs ?_ ?_ | refine WPA.ifB ?_ ?_) <;> intro hc) | ((fail_if_success (guard_target =~ WLA _ _ _ _ _ _ (put1 _ _ (.bool true)) _)); (fail_if_success (guard_target =~ WLA _ _ _ _ _ _ (put1 _ _ (.bool false)) _)); (first | refine WLA.both rfl rfl ?_ ?_ | refine WLA.bothB rfl rfl ?_ ?_) <;> intro hg))
              exact QQ.loopS (i + 1, false) ⟨rfl, rfl, rfl, rfl, rfl, trivial⟩ ⟨hlt, ⟨fun k => (by cases k), fun k => absurd (k.2 _ ((htk _).2 (.inr rfl))) hp⟩⟩ (by dsimp only; omega) (fun w h => h.to)
        · have hlt' : ¬ (i : Int) < words.length := by omega
          rw [List.take_of_length_le (by omega)] at hb
          repeat' ((fail_if_success (guard_target =~ WPA _ _ _ (.region 18 _ _) _ _ _)); first | ((first | refine WLA.m rfl rfl ?_ ?_ | refine WLA.st rfl ?_ ?_ | refine WLA.x rfl rfl ?_ (fun x => ?_) | refine WLA.x0 rfl ?_ (fun x => ?_)); first | exact sdT | skip) | (refine Stp.go ?_) | (refine WPA.ifT ?_) | (refine WPA.ifF ?_) | ((first | refine WPA.dec ?_); first | refine orL ?_ | refine orR ?_) | ((first | refine WPA.ifBt ?_ ?_ | refine WPA.ifBnf ?_ ?_); assumption) | ((first | refine WPA.ifBnt ?_ ?_ | refine WPA.ifBf ?_ ?_); assumption) | ((first | refine WPA.ifs ?_ ?_ | refine WPA.ifB ?_ ?_) <;> intro hc))
          refine WPA.freezeBk (b := t10) ?_
          cases b
          · skip
            repeat' (first | ((first | refine WLA.m rfl rfl ?_ ?_ | refine WDQ.m rfl rfl ?_ ?_ | refine WDP.m rfl rfl ?_ ?_ | refine WLA.st rfl ?_ ?_ | refine WLA.x rfl rfl ?_ (fun x => ?_) | refine WLA.x0 rfl ?_ (fun x => ?_) | refine WDW.x rfl rfl ?_ (fun x => ?_) | refine WDW.st rfl ?_ ?_); first | exact sdT | skip) | (refine Stp.go ?_) | (refine WPA.ifT ?_) | (refine WPA.ifF ?_) | (refine WLA.no rfl rfl ?_) | (refine WDQ.no rfl rfl ?_) | (refine WDP.no rfl rfl ?_) | ((first | refine WPA.dec ?_ | ((fail_if_success (guard_target =~ WLA _ _ _ _ _ _ (put1 _ _ (.bool true)) _)); (fail_if_success (guard_target =~ WLA _ _ _ _ _ _ (put1 _ _ (.bool false)) _)); refine WLA.dec rfl rfl ?_) | refine WLA.pk ?_ | refine WDQ.dec rfl rfl ?_ | refine WDP.dec rfl rfl ?_); first | refine orL ?_ | refine orR ?_) | ((first | refine WPA.ifBt ?_ ?_ | refine WPA.ifBnf ?_ ?_); assumption) | ((first | refine WPA.ifBnt ?_ ?_ | refine WPA.ifBf ?_ ?_); assumption) | ((first | refine WPA.ifs ?_ ?_ | refine WPA.ifB ?_ ?_) <;> intro hc) | ((fail_if_success (guard_target =~ WLA _ _ _ _ _ _ (put1 _ _ (.bool true)) _)); (fail_if_success (guard_target =~ WLA _ _ _ _ _ _ (put1 _ _ (.bool false)) _)); (first | refine WLA.both rfl rfl ?_ ?_ | refine WLA.bothB rfl rfl ?_ ?_) <;> intro hg) | (guard_target =~ WPA _ _ _ (.region 18 _ true) _ _ _; refine WPA.drawT 10 (.q 0 (.p 1 (.p 2 (.p 3 (.p 4 (.p 5 (.p 6 (.p 7 (.p 8 (.w 9 .fin)))))))))) mixed ?_ ?_; kernel_rfl) | (refine WDA.finish (tl := [⟨_, _, _, _, _, _⟩]) rfl ?_) | (refine WDQ.see rfl ?_) | (refine WDP.see rfl ?_) | (refine WDW.see rfl ?_) | ((first | refine WDQ.both rfl rfl ?_ ?_ | refine WDP.both rfl rfl ?_ ?_) <;> intro hg))
            exact QQ.endc rfl ⟨⟨wv, numV p0, (numV p2), false, R⟩, ⟨fun k => (by cases k), fun k => absurd (hb.2 ⟨⟨k.2.1.1, k.2.2.2 rfl⟩, k.2.2.1⟩) (by decide)⟩, fun k => (by cases k)⟩ rfl fun w h => (SL.unI h).to
          · skip
            repeat' (first | ((first | refine WLA.m rfl rfl ?_ ?_ | refine WDQ.m rfl rfl ?_ ?_ | refine WDP.m rfl rfl ?_ ?_ | refine WLA.st rfl ?_ ?_ | refine WLA.x rfl rfl ?_ (fun x => ?_) | refine WLA.x0 rfl ?_ (fun x => ?_) | refine WDW.x rfl rfl ?_ (fun x => ?_) | refine WDW.st rfl ?_ ?_); first | exact sdT | skip) | (refine Stp.go ?_) | (refine WPA.ifT ?_) | (refine WPA.ifF ?_) | (refine WLA.no rfl rfl ?_) | (refine WDQ.no rfl rfl ?_) | (refine WDP.no rfl rfl ?_) | ((first | refine WPA.dec ?_ | ((fail_if_success (guard_target =~ WLA _ _ _ _ _ _ (put1 _ _ (.bool true)) _)); (fail_if_success (guard_target =~ WLA _ _ _ _ _ _ (put1 _ _ (.bool false)) _)); refine WLA.dec rfl rfl ?_) | refine WLA.pk ?_ | refine WDQ.dec rfl rfl ?_ | refine WDP.dec rfl rfl ?_); first | refine orL ?_ | refine orR ?_) | ((first | refine WPA.ifBt ?_ ?_ | refine WPA.ifBnf ?_ ?_); assumption) | ((first | refine WPA.ifBnt ?_ ?_ | refine WPA.ifBf ?_ ?_); assumption) | ((first | refine WPA.ifs ?_ ?_ | refine WPA.ifB ?_ ?_) <;> intro hc) | ((fail_if_success (guard_target =~ WLA _ _ _ _ _ _ (put1 _ _ (.bool true)) _)); (fail_if_success (guard_target =~ WLA _ _ _ _ _ _ (put1 _ _ (.bool false)) _)); (first | refine WLA.both rfl rfl ?_ ?_ | refine WLA.bothB rfl rfl ?_ ?_) <;> intro hg) | (guard_target =~ WPA _ _ _ (.region 18 _ true) _ _ _; refine WPA.drawT 10 (.q 0 (.p 1 (.p 2 (.p 3 (.p 4 (.p 5 (.p 6 (.p 7 (.p 8 (.w 9 .fin)))))))))) mixed ?_ ?_; kernel_rfl) | (refine WDA.finish (tl := [⟨_, _, _, _, _, _⟩]) rfl ?_) | (refine WDQ.see rfl ?_) | (refine WDP.see rfl ?_) | (refine WDW.see rfl ?_) | ((first | refine WDQ.both rfl rfl ?_ ?_ | refine WDP.both rfl rfl ?_ ?_) <;> intro hg))
            exact QQ.endc rfl ⟨⟨wv, numV p0, (numV p2), decide ((words.length : Int) = o), R⟩, ⟨fun k => ⟨rfl, ⟨(hb.1 rfl).1.1, of_decide_eq_true k⟩, (hb.1 rfl).2, fun _ => (hb.1 rfl).1.2⟩, fun k => decide_eq_true k.2.1.2⟩, fun _ => ⟨hws, rfl, rfl⟩⟩ rfl fun w h => (SL.unI h).to
    · rw [if_pos rfl] at hlen
      obtain ⟨p0, p1, rfl⟩ : ∃ p0 p1, ps = [p0, p1] := by
        match ps, hlen with
        | [p0, p1], _ => exact ⟨p0, p1, rfl⟩
      have hz0 := hmem p0 (by simp)
      have hz1 := hmem p1 (by simp)
      have hc32 : ∀ {L : List HP}, Tr Tryz.prog 32 #[.string p1, .int .u8 32] (SL w0 I L) (fun r : SV => .slice r.a r.n r.cap) (fun r => SL w0 I (OwnS 9 r (splB p1 32) :: L)) := fun {L} => Cut_trR (c := 32) (by omega)
      have hwm : ∀ w ∈ splB p1 32, w.size ≤ p1.size := fun w hw => spl_mem hw
      have hwn : (splB p1 32).length ≤ 1000001 := by unfold splB; rw [splF_len]; have := cnt_le p1 32; omega
      have n0 : nthB [p0, p1] 0 = p0 := rfl
      have n1 : nthB [p0, p1] 1 = p1 := rfl
      rw [n0, n1]
      obtain ⟨words, hwd⟩ : ∃ words, splB p1 32 = words := ⟨_, rfl⟩
      rw [hwd] at hc32 hwm hwn ⊢
      have a0 : at_ [p0, p1] (0 : Int) = p0 := rfl
      have a1 : at_ [p0, p1] (1 : Int) = p1 := rfl
      have m0 := fun {L : List HP} => rNumber_tr (w0 := w0) (I := I) (L := L) (s := p0)
      have hln : (([p0, p1] : List ByteArray).length : Int) = 2 := rfl
      repeat' ((fail_if_success (guard_target =~ WPA _ _ _ (.region 14 _ _) _ _ _)); first | ((rw [a0])) | ((rw [a1])) | ((first | refine WLA.m rfl rfl ?_ ?_ | refine WLA.st rfl ?_ ?_ | refine WLA.x rfl rfl ?_ (fun x => ?_) | refine WLA.x0 rfl ?_ (fun x => ?_)); first | exact sdT | skip) | (refine Stp.go ?_) | (guard_target =~ WLA _ _ _ _ _ (⟨_, .call ⟨.value (.func 32), _, _⟩, _, _, _, _⟩ :: _) _ _; refine WLA.call rfl rfl (hc9) ?_; rintro pv) | (guard_target =~ WLA _ _ _ _ _ (⟨_, .call ⟨.value (.func 32), _, _⟩, _, _, _, _⟩ :: _) _ _; refine WLA.call rfl rfl (hc32) ?_; rintro wv) | (guard_target =~ WLA _ _ _ _ _ (⟨_, .call ⟨.value (.func 56), _, _⟩, _, _, _, _⟩ :: _) _ _; refine WLA.cq rfl rfl (m0) ?_) | (refine WPA.ifT ?_) | (refine WPA.ifF ?_) | ((first | refine WPA.dec ?_); first | refine orL ?_ | refine orR ?_) | ((first | refine WPA.ifBt ?_ ?_ | refine WPA.ifBnf ?_ ?_); assumption) | ((first | refine WPA.ifBnt ?_ ?_ | refine WPA.ifBf ?_ ?_); assumption) | ((first | refine WPA.ifs ?_ ?_ | refine WPA.ifB ?_ ?_) <;> intro hc))
      · have hok : numB p0 = true ↔ NumOk p0 ∧ ∀ w ∈ words.take 0, PieceP w := ⟨fun k => ⟨numB_iff.1 k, fun w hw => (by rw [List.take_zero] at hw; cases hw)⟩, fun k => numB_iff.2 k.1⟩
        revert x; intro t10; revert x; intro t6
        refine WPA.ent (EntC.out (L' := OwnS 9 wv words :: Bk t10 83 (lineC 0 wv (numV p0) (0)) :: Bk t6 83 line0 :: L)) ?_
        refine WPA.freeze fun R hR => ?_
        have hws : SlI (R ++ I) wv ByteArray inferInstance words := by have := SlI.ofOwn hR; infer_instance
        repeat' (first | ((first | refine WLA.m rfl rfl ?_ ?_ | refine WLA.st rfl ?_ ?_ | refine WLA.x rfl rfl ?_ (fun x => ?_) | refine WLA.x0 rfl ?_ (fun x => ?_)); first | exact sdT | skip) | (refine Stp.go ?_) | (refine WPA.ifT ?_) | (refine WPA.ifF ?_) | ((first | refine WPA.dec ?_); first | refine orL ?_ | refine orR ?_) | ((first | refine WPA.ifBt ?_ ?_ | refine WPA.ifBnf ?_ ?_); assumption) | ((first | refine WPA.ifBnt ?_ ?_ | refine WPA.ifBf ?_ ?_); assumption) | ((first | refine WPA.ifs ?_ ?_ | refine WPA.ifB ?_ ?_) <;> intro hc))
        refine WPA.loopS (σ := Nat × Bool) (fun y => [(1, .int .i64 o), (6, .pointer (some ⟨t6, 0, none⟩)), (10, .pointer (some ⟨t10, 0, none⟩)), (12, .bool y.2), (15, .int .i64 y.1)])
          (fun y => y.1 ≤ words.length ∧ (y.2 = true ↔ NumOk p0 ∧ ∀ w ∈ words.take y.1, PieceP w)) (fun _ => SL w0 (R ++ I) (Bk t10 83 (lineC 0 wv (numV p0) (0)) :: Bk t6 83 line0 :: L)) (fun y => words.length - y.1) (0, _) ⟨rfl, rfl, rfl, rfl, rfl, trivial⟩ ⟨Nat.zero_le _, hok⟩ (fun w h => h.to) ?_
        rintro ⟨i, b⟩ ρ ⟨hi, hb⟩
        dsimp only at hi hb ⊢
        by_cases hlt : i < words.length
        · have hlt' : (i : Int) < words.length := by omega
          have hir : (0 : Int) ≤ i ∧ (i : Int) < words.length := by omega
          have hwz := hwm _ (List.getElem_mem hlt)
          rw [← at_nat words i hlt] at hwz
          have htk : ∀ w, w ∈ words.take (i + 1) ↔ w ∈ words.take i ∨ w = at_ words (i : Int) := fun w => by rw [List.take_add_one, List.getElem?_eq_getElem hlt, ← at_nat words i hlt, List.mem_append]; simp
          have hpc := fun {L : List HP} => piece_trR (w0 := w0) (I := R ++ I) (L := L) (s := at_ words (i : Int)) (by omega)
          cases b
          · skip
            repeat' (first | ((first | refine WLA.m rfl rfl ?_ ?_ | refine WLA.st rfl ?_ ?_ | refine WLA.x rfl rfl ?_ (fun x => ?_) | refine WLA.x0 rfl ?_ (fun x => ?_)); first | exact sdT | skip) | (refine Stp.go ?_) | (refine WPA.ifT ?_) | (refine WPA.ifF ?_) | (refine WLA.no rfl rfl ?_) | ((first | refine WPA.dec ?_ | ((fail_if_success (guard_target =~ WLA _ _ _ _ _ _ (put1 _ _ (.bool true)) _)); (fail_if_success (guard_target =~ WLA _ _ _ _ _ _ (put1 _ _ (.bool false)) _)); refine WLA.dec rfl rfl ?_) | refine WLA.pk ?_); first | refine orL ?_ | refine orR ?_) | ((first | refine WPA.ifBt ?_ ?_ | refine WPA.ifBnf ?_ ?_); assumption) | ((first | refine WPA.ifBnt ?_ ?_ | refine WPA.ifBf ?_ ?_); assumption) | ((first | refine WPA.ifs ?_ ?_ | refine WPA.ifB ?_ ?_) <;> intro hc) | ((fail_if_success (guard_target =~ WLA _ _ _ _ _ _ (put1 _ _ (.bool true)) _)); (fail_if_success (guard_target =~ WLA _ _ _ _ _ _ (put1 _ _ (.bool false)) _)); (first | refine WLA.both rfl rfl ?_ ?_ | refine WLA.bothB rfl rfl ?_ ?_) <;> intro hg))
            exact QQ.loopS (i + 1, false) ⟨rfl, rfl, rfl, rfl, rfl, trivial⟩ ⟨hlt, ⟨fun k => (by cases k), fun k => hb.2 ⟨k.1, fun w hw => k.2 w ((htk w).2 (.inl hw))⟩⟩⟩ (by dsimp only; omega) (fun w h => h.to)
          · by_cases hp : PieceP (at_ words (i : Int))
            · rw [decide_eq_true hp] at hpc
              repeat' (first | ((first | refine WLA.m rfl rfl ?_ ?_ | refine WLA.st rfl ?_ ?_ | refine WLA.x rfl rfl ?_ (fun x => ?_) | refine WLA.x0 rfl ?_ (fun x => ?_)); first | exact sdT | skip) | (refine Stp.go ?_) | (guard_target =~ WLA _ _ _ _ _ (⟨_, .call ⟨.value (.func 57), _, _⟩, _, _, _, _⟩ :: _) _ _; refine WLA.cq rfl rfl (hpc) ?_) | (refine WPA.ifT ?_) | (refine WPA.ifF ?_) | (refine WLA.no rfl rfl ?_) | ((first | refine WPA.dec ?_ | ((fail_if_success (guard_target =~ WLA _ _ _ _ _ _ (put1 _ _ (.bool true)) _)); (fail_if_success (guard_target =~ WLA _ _ _ _ _ _ (put1 _ _ (.bool false)) _)); refine WLA.dec rfl rfl ?_) | refine WLA.pk ?_); first | refine orL ?_ | refine orR ?_) | ((first | refine WPA.ifBt ?_ ?_ | refine WPA.ifBnf ?_ ?_); assumption) | ((first | refine WPA.ifBnt ?_ ?_ | refine WPA.ifBf ?_ ?_); assumption) | ((first | refine WPA.ifs ?_ ?_ | refine WPA.ifB ?_ ?_) <;> intro hc) | ((fail_if_success (guard_target =~ WLA _ _ _ _ _ _ (put1 _ _ (.bool true)) _)); (fail_if_success (guard_target =~ WLA _ _ _ _ _ _ (put1 _ _ (.bool false)) _)); (first | refine WLA.both rfl rfl ?_ ?_ | refine WLA.bothB rfl rfl ?_ ?_) <;> intro hg))
              exact QQ.loopS (i + 1, true) ⟨rfl, rfl, rfl, rfl, rfl, trivial⟩ ⟨hlt, ⟨fun _ => ⟨(hb.1 rfl).1, fun w hw => ((htk w).1 hw).elim ((hb.1 rfl).2 w) (fun e => e ▸ hp)⟩, fun _ => rfl⟩⟩ (by dsimp only; omega) (fun w h => h.to)
            · rw [decide_eq_false hp] at hpc
              repeat' (first | ((first | refine WLA.m rfl rfl ?_ ?_ | refine WLA.st rfl ?_ ?_ | refine WLA.x rfl rfl ?_ (fun x => ?_) | refine WLA.x0 rfl ?_ (fun x => ?_)); first | exact sdT | skip) | (refine Stp.go ?_) | (guard_target =~ WLA _ _ _ _ _ (⟨_, .call ⟨.value (.func 57), _, _⟩, _, _, _, _⟩ :: _) _ _; refine WLA.cq rfl rfl (hpc) ?_) | (refine WPA.ifT ?_) | (refine WPA.ifF ?_) | (refine WLA.no rfl rfl ?_) | ((first | refine WPA.dec ?_ | ((fail_if_success (guard_target =~ WLA _ _ _ _ _ _ (put1 _ _ (.bool true)) _)); (fail_if_success (guard_target =~ WLA _ _ _ _ _ _ (put1 _ _ (.bool false)) _)); refine WLA.dec rfl rfl ?_) | refine WLA.pk ?_); first | refine orL ?_ | refine orR ?_) | ((first | refine WPA.ifBt ?_ ?_ | refine WPA.ifBnf ?_ ?_); assumption) | ((first | refine WPA.ifBnt ?_ ?_ | refine WPA.ifBf ?_ ?_); assumption) | ((first | refine WPA.ifs ?_ ?_ | refine WPA.ifB ?_ ?_) <;> intro hc) | ((fail_if_success (guard_target =~ WLA _ _ _ _ _ _ (put1 _ _ (.bool true)) _)); (fail_if_success (guard_target =~ WLA _ _ _ _ _ _ (put1 _ _ (.bool false)) _)); (first | refine WLA.both rfl rfl ?_ ?_ | refine WLA.bothB rfl rfl ?_ ?_) <;> intro hg))
              exact QQ.loopS (i + 1, false) ⟨rfl, rfl, rfl, rfl, rfl, trivial⟩ ⟨hlt, ⟨fun k => (by cases k), fun k => absurd (k.2 _ ((htk _).2 (.inr rfl))) hp⟩⟩ (by dsimp only; omega) (fun w h => h.to)
        · have hlt' : ¬ (i : Int) < words.length := by omega
          rw [List.take_of_length_le (by omega)] at hb
          repeat' ((fail_if_success (guard_target =~ WPA _ _ _ (.region 18 _ _) _ _ _)); first | ((first | refine WLA.m rfl rfl ?_ ?_ | refine WLA.st rfl ?_ ?_ | refine WLA.x rfl rfl ?_ (fun x => ?_) | refine WLA.x0 rfl ?_ (fun x => ?_)); first | exact sdT | skip) | (refine Stp.go ?_) | (refine WPA.ifT ?_) | (refine WPA.ifF ?_) | ((first | refine WPA.dec ?_); first | refine orL ?_ | refine orR ?_) | ((first | refine WPA.ifBt ?_ ?_ | refine WPA.ifBnf ?_ ?_); assumption) | ((first | refine WPA.ifBnt ?_ ?_ | refine WPA.ifBf ?_ ?_); assumption) | ((first | refine WPA.ifs ?_ ?_ | refine WPA.ifB ?_ ?_) <;> intro hc))
          refine WPA.freezeBk (b := t10) ?_
          cases b
          · skip
            repeat' (first | ((first | refine WLA.m rfl rfl ?_ ?_ | refine WDQ.m rfl rfl ?_ ?_ | refine WDP.m rfl rfl ?_ ?_ | refine WLA.st rfl ?_ ?_ | refine WLA.x rfl rfl ?_ (fun x => ?_) | refine WLA.x0 rfl ?_ (fun x => ?_) | refine WDW.x rfl rfl ?_ (fun x => ?_) | refine WDW.st rfl ?_ ?_); first | exact sdT | skip) | (refine Stp.go ?_) | (refine WPA.ifT ?_) | (refine WPA.ifF ?_) | (refine WLA.no rfl rfl ?_) | (refine WDQ.no rfl rfl ?_) | (refine WDP.no rfl rfl ?_) | ((first | refine WPA.dec ?_ | ((fail_if_success (guard_target =~ WLA _ _ _ _ _ _ (put1 _ _ (.bool true)) _)); (fail_if_success (guard_target =~ WLA _ _ _ _ _ _ (put1 _ _ (.bool false)) _)); refine WLA.dec rfl rfl ?_) | refine WLA.pk ?_ | refine WDQ.dec rfl rfl ?_ | refine WDP.dec rfl rfl ?_); first | refine orL ?_ | refine orR ?_) | ((first | refine WPA.ifBt ?_ ?_ | refine WPA.ifBnf ?_ ?_); assumption) | ((first | refine WPA.ifBnt ?_ ?_ | refine WPA.ifBf ?_ ?_); assumption) | ((first | refine WPA.ifs ?_ ?_ | refine WPA.ifB ?_ ?_) <;> intro hc) | ((fail_if_success (guard_target =~ WLA _ _ _ _ _ _ (put1 _ _ (.bool true)) _)); (fail_if_success (guard_target =~ WLA _ _ _ _ _ _ (put1 _ _ (.bool false)) _)); (first | refine WLA.both rfl rfl ?_ ?_ | refine WLA.bothB rfl rfl ?_ ?_) <;> intro hg) | (guard_target =~ WPA _ _ _ (.region 18 _ true) _ _ _; refine WPA.drawT 10 (.q 0 (.p 1 (.p 2 (.p 3 (.p 4 (.p 5 (.p 6 (.p 7 (.p 8 (.w 9 .fin)))))))))) mixed ?_ ?_; kernel_rfl) | (refine WDA.finish (tl := [⟨_, _, _, _, _, _⟩]) rfl ?_) | (refine WDQ.see rfl ?_) | (refine WDP.see rfl ?_) | (refine WDW.see rfl ?_) | ((first | refine WDQ.both rfl rfl ?_ ?_ | refine WDP.both rfl rfl ?_ ?_) <;> intro hg))
            exact QQ.endc rfl ⟨⟨wv, numV p0, 0, false, R⟩, ⟨fun k => (by cases k), fun k => absurd (hb.2 ⟨k.2.1.1, k.2.2.1⟩) (by decide)⟩, fun k => (by cases k)⟩ rfl fun w h => (SL.unI h).to
          · skip
            repeat' (first | ((first | refine WLA.m rfl rfl ?_ ?_ | refine WDQ.m rfl rfl ?_ ?_ | refine WDP.m rfl rfl ?_ ?_ | refine WLA.st rfl ?_ ?_ | refine WLA.x rfl rfl ?_ (fun x => ?_) | refine WLA.x0 rfl ?_ (fun x => ?_) | refine WDW.x rfl rfl ?_ (fun x => ?_) | refine WDW.st rfl ?_ ?_); first | exact sdT | skip) | (refine Stp.go ?_) | (refine WPA.ifT ?_) | (refine WPA.ifF ?_) | (refine WLA.no rfl rfl ?_) | (refine WDQ.no rfl rfl ?_) | (refine WDP.no rfl rfl ?_) | ((first | refine WPA.dec ?_ | ((fail_if_success (guard_target =~ WLA _ _ _ _ _ _ (put1 _ _ (.bool true)) _)); (fail_if_success (guard_target =~ WLA _ _ _ _ _ _ (put1 _ _ (.bool false)) _)); refine WLA.dec rfl rfl ?_) | refine WLA.pk ?_ | refine WDQ.dec rfl rfl ?_ | refine WDP.dec rfl rfl ?_); first | refine orL ?_ | refine orR ?_) | ((first | refine WPA.ifBt ?_ ?_ | refine WPA.ifBnf ?_ ?_); assumption) | ((first | refine WPA.ifBnt ?_ ?_ | refine WPA.ifBf ?_ ?_); assumption) | ((first | refine WPA.ifs ?_ ?_ | refine WPA.ifB ?_ ?_) <;> intro hc) | ((fail_if_success (guard_target =~ WLA _ _ _ _ _ _ (put1 _ _ (.bool true)) _)); (fail_if_success (guard_target =~ WLA _ _ _ _ _ _ (put1 _ _ (.bool false)) _)); (first | refine WLA.both rfl rfl ?_ ?_ | refine WLA.bothB rfl rfl ?_ ?_) <;> intro hg) | (guard_target =~ WPA _ _ _ (.region 18 _ true) _ _ _; refine WPA.drawT 10 (.q 0 (.p 1 (.p 2 (.p 3 (.p 4 (.p 5 (.p 6 (.p 7 (.p 8 (.w 9 .fin)))))))))) mixed ?_ ?_; kernel_rfl) | (refine WDA.finish (tl := [⟨_, _, _, _, _, _⟩]) rfl ?_) | (refine WDQ.see rfl ?_) | (refine WDP.see rfl ?_) | (refine WDW.see rfl ?_) | ((first | refine WDQ.both rfl rfl ?_ ?_ | refine WDP.both rfl rfl ?_ ?_) <;> intro hg))
            exact QQ.endc rfl ⟨⟨wv, numV p0, 0, decide ((words.length : Int) = o), R⟩, ⟨fun k => ⟨rfl, ⟨(hb.1 rfl).1, of_decide_eq_true k⟩, (hb.1 rfl).2, fun k => (by cases k)⟩, fun k => decide_eq_true k.2.1.2⟩, fun _ => ⟨hws, rfl, rfl⟩⟩ rfl fun w h => (SL.unI h).to
  · cases last
    · rw [if_neg (by decide)] at hlen
      have hlen' : (ps.length : Int) ≠ 3 := hlen
      repeat' (first | ((first | refine WLA.m rfl rfl ?_ ?_ | refine WLA.st rfl ?_ ?_ | refine WLA.x rfl rfl ?_ (fun x => ?_) | refine WLA.x0 rfl ?_ (fun x => ?_)); first | exact sdT | skip) | (refine Stp.go ?_) | (guard_target =~ WLA _ _ _ _ _ (⟨_, .call ⟨.value (.func 32), _, _⟩, _, _, _, _⟩ :: _) _ _; refine WLA.call rfl rfl (hc9) ?_; rintro ⟨⟩) | (refine WPA.ifT ?_) | (refine WPA.ifF ?_) | ((first | refine WPA.dec ?_); first | refine orL ?_ | refine orR ?_) | ((first | refine WPA.ifBt ?_ ?_ | refine WPA.ifBnf ?_ ?_); assumption) | ((first | refine WPA.ifBnt ?_ ?_ | refine WPA.ifBf ?_ ?_); assumption) | ((first | refine WPA.ifs ?_ ?_ | refine WPA.ifB ?_ ?_) <;> intro hc))
      exact QQ.endc rfl ⟨⟨SV.nil, 0, 0, false, []⟩, ⟨fun k => (by cases k), fun k => absurd k.1 hlen⟩, fun k => (by cases k)⟩ rfl fun w h => h.to
    · rw [if_pos rfl] at hlen
      have hlen' : (ps.length : Int) ≠ 2 := hlen
      repeat' (first | ((first | refine WLA.m rfl rfl ?_ ?_ | refine WLA.st rfl ?_ ?_ | refine WLA.x rfl rfl ?_ (fun x => ?_) | refine WLA.x0 rfl ?_ (fun x => ?_)); first | exact sdT | skip) | (refine Stp.go ?_) | (guard_target =~ WLA _ _ _ _ _ (⟨_, .call ⟨.value (.func 32), _, _⟩, _, _, _, _⟩ :: _) _ _; refine WLA.call rfl rfl (hc9) ?_; rintro ⟨⟩) | (refine WPA.ifT ?_) | (refine WPA.ifF ?_) | ((first | refine WPA.dec ?_); first | refine orL ?_ | refine orR ?_) | ((first | refine WPA.ifBt ?_ ?_ | refine WPA.ifBnf ?_ ?_); assumption) | ((first | refine WPA.ifBnt ?_ ?_ | refine WPA.ifBf ?_ ?_); assumption) | ((first | refine WPA.ifs ?_ ?_ | refine WPA.ifB ?_ ?_) <;> intro hc))
      exact QQ.endc rfl ⟨⟨SV.nil, 0, 0, false, []⟩, ⟨fun k => (by cases k), fun k => absurd k.1 hlen⟩, fun k => (by cases k)⟩ rfl fun w h => h.to
end
end Go.Proofs.YthkhneimfjaohaaGreatDoor
namespace Go.Proofs.YthkhneimfjaohaaGreatDoor
open Go Go.Fw Go.RowKit
set_option linter.unusedVariables false
set_option linter.unusedSimpArgs false
set_option maxRecDepth 100000
set_option maxHeartbeats 16000000
set_option synthInstance.maxHeartbeats 200000
set_option synthInstance.maxSize 100000
attribute [local irreducible] WPA WLA WDA WDQ WDE QQ seqQ blockQ loopQ fnQ OpP OpT Tr TrP SL SLd OwnS LitS Bk BkE Ob
theorem idsN_keep : ∀ (l : List ByteArray) (i : Nat) (f : ByteArray → Option Int) (w : ByteArray) (v : Int), f w = some v → idsN l i f w = some v
  | [], _, _, _, _, h => h
  | x :: l, i, f, w, v, h => by
    rw [idsN]
    refine idsN_keep l (i + 1) _ w v ?_
    split
    · exact h
    · rename_i hx
      unfold setS
      rw [if_neg (fun e => hx (by rw [← e, h]; rfl))]
      exact h
end Go.Proofs.YthkhneimfjaohaaGreatDoor
namespace Go.Proofs.YthkhneimfjaohaaGreatDoor
open Go Go.Fw Go.RowKit
set_option linter.unusedVariables false
set_option linter.unusedSimpArgs false
set_option maxRecDepth 100000
set_option maxHeartbeats 16000000
set_option synthInstance.maxHeartbeats 200000
set_option synthInstance.maxSize 100000
attribute [local irreducible] WPA WLA WDA WDQ WDE QQ seqQ blockQ loopQ fnQ OpP OpT Tr TrP SL SLd OwnS LitS Bk BkE Ob
attribute [local irreducible] fnX TrX TblH VocH EntOk chkA
theorem idsN_find : ∀ (l : List ByteArray) (i : Nat) (f : ByteArray → Option Int) (w : ByteArray), f w = none → idsN l i f w = if findT l w < 0 then none else some ((i : Int) + findT l w)
  | [], i, f, w, h => by
    rw [idsN, if_pos (show findT [] w < 0 from by show (-1 : Int) < 0; decide)]; exact h
  | a :: l, i, f, w, h => by
    have hr := (findT_range l w).1
    rw [idsN]
    by_cases e : a = w
    · subst e
      have e1 : findT (a :: l) a = 0 := by simp [findT]
      rw [e1, if_neg (show ¬ (0 : Int) < 0 by decide), if_neg (show ¬ (f a).isSome = true by rw [h]; decide)]
      rw [idsN_keep l (i + 1) _ a (i : Int) (by unfold setS; rw [if_pos rfl])]
      congr 1
    · have e1 : findT (a :: l) w = if findT l w < 0 then -1 else findT l w + 1 := by
        show (if a = w then 0 else _) = _
        rw [if_neg e]
      have h2 : (if (f a).isSome then f else setS f a i) w = none := by
        split
        · exact h
        · unfold setS; rw [if_neg (fun k => e k.symm)]; exact h
      rw [idsN_find l (i + 1) _ w h2, e1]
      by_cases k : findT l w < 0
      · rw [if_pos k, if_pos k, if_pos (by decide)]
      · rw [if_neg k, if_neg k, if_neg (by omega)]
        congr 1
        omega
abbrev LE := Int × SV × SV × Int × Int
def LnI (J : Foot) (e : LE) (g : GrL) : Prop := (e.1 = g.line ∧ e.2.2.2.1 = g.prob ∧ e.2.2.2.2 = g.back) ∧ SlI J e.2.1 ByteArray inferInstance g.words
def LnsI (J : Foot) (es : List LE) (l : List GrL) : Prop := es.length = l.length ∧ ∀ j : Nat, j < l.length → LnI J (at_ es (j : Int)) (l.getD j ⟨0, [], 0, 0⟩)
def RowL (J : Foot) (v : SV) (l : List GrL) : Prop := ∃ es : List LE, SlI J v LE inferInstance es ∧ LnsI J es l
theorem LnI.sub {J J' : Foot} {e : LE} {g : GrL} (h : LnI J e g) (k : SubI J' J) : LnI J' e g := ⟨h.1, h.2.sub (hs := k)⟩
theorem LnsI.sub {J J' : Foot} {es : List LE} {l : List GrL} (h : LnsI J es l) (k : SubI J' J) : LnsI J' es l := ⟨h.1, fun j hj => (h.2 j hj).sub k⟩
theorem RowL.sub {J J' : Foot} {v : SV} {l : List GrL} (h : RowL J v l) (k : SubI J' J) : RowL J' v l := by
  obtain ⟨es, h1, h2⟩ := h
  exact ⟨es, h1.sub (hs := k), h2.sub k⟩
noncomputable def toldF (fr : Int) (gss : List (List GrL)) : Except (Int × Int) (Int × List ByteArray × List (List EV)) :=
  match rowsF (idF (gss.getD 0 [])) gss with
  | .error y => .error y
  | .ok rows => if chkA fr (wdsF (gss.getD 0 [])) (evs rows) ≠ 0 then .error (0, chkA fr (wdsF (gss.getD 0 [])) (evs rows)) else .ok (fr, wdsF (gss.getD 0 []), evs rows)
section
variable {L L' : List HP} {w0 : World} {I : Foot}
theorem told_trR {av : SV} {vs : List SV} {gss : List (List GrL)} {fr : Int} [hav : SlI I av SV inferInstance vs] (hvl : vs.length = gss.length) (hpos : 0 < gss.length) (hrow : ∀ j : Nat, j < gss.length → RowL I (at_ vs (j : Int)) (gss.getD j [])) (hgl : gss.length ≤ 8) (hwl0 : ∀ r ∈ gss, ∀ g ∈ r, g.words.length ≤ 1000001) (hlen : ∀ r ∈ gss, r.length ≤ 1000000) (hw1 : ∀ g ∈ gss.getD 0 [], 0 < g.words.length)
    (hfew : ∀ rows, rowsF (idF (gss.getD 0 [])) gss = .ok rows → (∀ w ∈ wdsF (gss.getD 0 []), w.size ≤ 140737488351232) ∧ (wdsF (gss.getD 0 [])).length ≤ 1000000 ∧ (evs rows).length ≤ 1000000 ∧ ∀ es ∈ evs rows, es.length ≤ 1000000 ∧ ∀ e ∈ es, e.2.length ≤ 1000000) :
    Tr Tryz.prog 38 #[.int .i64 fr, .slice av.a av.n av.cap] (SL w0 I L)
      (fun x : SV × SV × Foot => .tuple #[.agg #[.int .i64 (prF (toldF fr gss)), .slice x.1.a x.1.n x.1.cap, .slice x.2.1.a x.2.1.n x.2.1.cap], .int .i64 (prY (toldF fr gss)).1, .int .i64 (prY (toldF fr gss)).2])
      (fun x w => (SubI x.2.2 I ∧ MdL x.2.2 x.1 x.2.1 (prW (toldF fr gss)) (prA (toldF fr gss))) ∧ SL w0 x.2.2 L w) := by
  refine Tr.intro Tryz.func38 rfl Tryz.ntmps38 rfl ?_
  have h00 : (0 : Int) ≤ 0 ∧ (0 : Int) < vs.length := by omega
  have hT0 : toldF fr gss = match rowsF (idF (gss.getD 0 [])) gss with
    | .error y => .error y
    | .ok rows => if chkA fr (wdsF (gss.getD 0 [])) (evs rows) ≠ 0 then .error (0, chkA fr (wdsF (gss.getD 0 [])) (evs rows)) else .ok (fr, wdsF (gss.getD 0 []), evs rows) := rfl
  generalize toldF fr gss = TT at hT0 ⊢
  obtain ⟨es, he, hG⟩ := hrow 0 hpos
  obtain ⟨g0, hg0⟩ : ∃ g0, gss.getD 0 [] = g0 := ⟨_, rfl⟩
  rw [hg0] at hG hw1 hT0 hfew
  obtain ⟨r0, hr0⟩ : ∃ r0, at_ vs (((0 : Nat) : Int)) = r0 := ⟨_, rfl⟩
  have hr0' : at_ vs 0 = r0 := hr0
  rw [hr0] at he
  repeat' (first | ((first | refine WLA.m rfl rfl ?_ ?_ | refine WLA.st rfl ?_ ?_ | refine WLA.x rfl rfl ?_ (fun x => ?_) | refine WLA.x0 rfl ?_ (fun x => ?_)); first | exact sdT | skip) | (refine Stp.go ?_) | (refine WPA.ifT ?_) | (refine WPA.ifF ?_) | ((first | refine WPA.dec ?_); first | refine orL ?_ | refine orR ?_) | ((first | refine WPA.ifBt ?_ ?_ | refine WPA.ifBnf ?_ ?_); assumption) | ((first | refine WPA.ifBnt ?_ ?_ | refine WPA.ifBf ?_ ?_); assumption) | ((first | refine WPA.ifs ?_ ?_ | refine WPA.ifB ?_ ?_) <;> intro hc))
  revert x; intro X7
  revert x; intro X4
  have hel := hG.1
  have hgm : g0 ∈ gss := by rw [← hg0, List.getD_eq_getElem?_getD, List.getElem?_eq_getElem hpos]; exact List.getElem_mem _
  have hg0l := hlen _ hgm
  refine WPA.loopS (σ := Nat × SV) (fun y => [(1, .slice av.a av.n av.cap), (4, .pointer (some ⟨X4, 0, none⟩)), (5, .int .i64 0), (6, .int .i64 0), (7, .pointer (some ⟨X7, 0, none⟩)), (8, .int .i64 y.1)])
    (fun y => y.1 ≤ g0.length) (fun y => SL w0 I (OwnS 9 y.2 ((wdsF g0).take y.1) :: Bk X7 25 [.int .i64 fr, .slice y.2.a y.2.n y.2.cap, .slice none 0 0] :: Bk X4 25 [.int .i64 0, .slice none 0 0, .slice none 0 0] :: L)) (fun y => g0.length - y.1) (0, SV.nil) ⟨rfl, rfl, rfl, rfl, rfl, rfl, trivial⟩ (Nat.zero_le _) (fun w h => by
      have h2 := (Ent.ownNil (α := ByteArray) (t := 9) Ent.refl).sl h
      show SL w0 I (OwnS 9 SV.nil ([] : List ByteArray) :: Bk X7 25 [.int .i64 fr, .slice none 0 0, .slice none 0 0] :: Bk X4 25 [.int .i64 0, .slice none 0 0, .slice none 0 0] :: L) w
      exact h2.to) ?_
  rintro ⟨i, w⟩ ρ hi
  dsimp only at hi ⊢
  by_cases hlt : i < g0.length
  · have hlt' : (i : Int) < es.length := by omega
    have hir : (0 : Int) ≤ i ∧ (i : Int) < es.length := by omega
    have hgi := hG.2 i hlt
    have hgm2 : g0.getD i ⟨0, [], 0, 0⟩ ∈ g0 := by rw [List.getD_eq_getElem?_getD, List.getElem?_eq_getElem hlt]; exact List.getElem_mem _
    have hw1i := hw1 _ hgm2
    have hwd : (wdsF g0).take (i + 1) = (wdsF g0).take i ++ [nthB (g0.getD i ⟨0, [], 0, 0⟩).words 0] := by
      have hl2 : i < (wdsF g0).length := by unfold wdsF; rw [List.length_map]; exact hlt
      rw [List.take_add_one, List.getElem?_eq_getElem hl2]
      congr 1
      simp [wdsF, List.getD_eq_getElem?_getD, hlt]
    obtain ⟨e, hee⟩ : ∃ e, at_ es (i : Int) = e := ⟨_, rfl⟩
    rw [hee] at hgi
    generalize g0.getD i ⟨0, [], 0, 0⟩ = g at hgi hw1i hwd
    obtain ⟨en, ew, eg, ep, eb⟩ := e
    obtain ⟨⟨e1, e2, e3⟩, hws⟩ := hgi
    dsimp only at e1 e2 e3 hws
    have hz : (0 : Int) ≤ 0 ∧ (0 : Int) < g.words.length := by omega
    have ew0 : at_ g.words 0 = nthB g.words 0 := nth_at g.words 0
    have hroom0 : Room ((wdsF g0).take i).length 16 := ⟨by rw [List.length_take]; omega, by rw [List.length_take]; omega⟩
    have hroom : Room (((wdsF g0).take i).length + 1) 16 := ⟨by rw [List.length_take]; omega, by rw [List.length_take]; omega⟩
    obtain ⟨wd, hwd2⟩ : ∃ q, nthB g.words 0 = q := ⟨_, rfl⟩
    rw [hwd2] at ew0 hwd
    repeat' (first | ((rw [hr0'])) | ((rw [hee])) | ((rw [ew0])) | ((first | refine WLA.m rfl rfl ?_ ?_ | refine WDQ.m rfl rfl ?_ ?_ | refine WDP.m rfl rfl ?_ ?_ | refine WLA.st rfl ?_ ?_ | refine WLA.x rfl rfl ?_ (fun x => ?_) | refine WLA.x0 rfl ?_ (fun x => ?_) | refine WDW.x rfl rfl ?_ (fun x => ?_) | refine WDW.st rfl ?_ ?_); first | exact sdT | skip) | (refine Stp.go ?_) | (refine WPA.ifT ?_) | (refine WPA.ifF ?_) | ((first | refine WPA.dec ?_); first | refine orL ?_ | refine orR ?_) | ((first | refine WPA.ifBt ?_ ?_ | refine WPA.ifBnf ?_ ?_); assumption) | ((first | refine WPA.ifBnt ?_ ?_ | refine WPA.ifBf ?_ ?_); assumption) | ((first | refine WPA.ifs ?_ ?_ | refine WPA.ifB ?_ ?_) <;> intro hc) | (guard_target =~ WPA _ _ _ (.region 5 _ true) _ _ _; refine WPA.drawT 14 (.p 1 (.q 2 (.p 4 (.p 5 (.p 6 (.p 7 (.p 8 (.p 9 (.p 10 (.p 11 (.p 12 (.b false 0 (.b true 3 (.e 13 .fin) false 13 (.w 3 .fin)) false 13 (.e 0 (.w 3 .fin)))))))))))))) mixed ?_ ?_; kernel_rfl) | (refine WDA.finish (tl := [⟨_, _, _, _, _, _⟩, ⟨_, _, _, _, _, _⟩, ⟨_, _, _, _, _, _⟩]) rfl ?_) | (refine WDQ.see rfl ?_) | (refine WDP.see rfl ?_) | (refine WDW.see rfl ?_) | (first | (refine WDA.two rfl rfl ?_ ?_) | (refine WDA.twoL rfl rfl ?_ ?_) | (refine WDA.twoR rfl rfl ?_ ?_) | (refine WDA.twoW rfl rfl ?_ ?_)) | (refine WDE.see rfl ?_) | (refine WDE.alloc rfl rfl (fun w h => h) (fun x => ?_)) | (refine WDE.stE rfl ?_) | (refine WDE.x rfl rfl ?_ ?_ (fun x => ?_); rotate_left 1; (intro x w h; first | exact h | exact Ent.drop1.sl h | exact SL.unI h | exact SL.to h); rotate_left 1; first | exact sdT | skip))
    all_goals exact QQ.loopS (i + 1, x) ⟨rfl, rfl, rfl, rfl, rfl, rfl, trivial⟩ hlt (by dsimp only; omega) (fun w h => by
      dsimp only
      rw [hwd]
      exact h.to)
  · have hlt' : ¬ (i : Int) < es.length := by omega
    have hwl : (wdsF g0).length = g0.length := by unfold wdsF; rw [List.length_map]
    rw [List.take_of_length_le (by omega)]
    obtain ⟨F, hF⟩ : ∃ F, idF g0 = F := ⟨_, rfl⟩
    have hFf : ∀ w, F w = if findT (wdsF g0) w < 0 then none else some (findT (wdsF g0) w) := fun w => by
      rw [← hF]; unfold idF
      rw [idsN_find (wdsF g0) 0 _ w rfl]
      split
      · rfl
      · congr 1; omega
    rw [hF] at hT0 hfew
    obtain ⟨A0, hA0⟩ : ∃ A0, rowsF F gss = A0 := ⟨_, rfl⟩
    rw [hA0] at hT0 hfew
    refine WPA.freeze fun R0 hR0 => ?_
    have sw : SlI (R0 ++ I) w ByteArray inferInstance (wdsF g0) := by have := SlI.ofOwn hR0; infer_instance
    have hJ0 : SubI (R0 ++ I) I := inferInstance
    clear hR0
    generalize R0 ++ I = J0 at sw hJ0 ⊢
    generalize wdsF g0 = wl at sw hwl hFf hT0 hfew ⊢
    have hav0 : SlI J0 av SV inferInstance vs := hav.sub
    have he0 : SlI J0 r0 LE inferInstance es := he.sub
    repeat' (first | ((rw [hr0'])) | ((first | refine WLA.m rfl rfl ?_ ?_ | refine WLA.st rfl ?_ ?_ | refine WLA.x rfl rfl ?_ (fun x => ?_) | refine WLA.x0 rfl ?_ (fun x => ?_)); first | exact sdT | skip) | (refine Stp.go ?_) | (refine WPA.ifT ?_) | (refine WPA.ifF ?_) | ((first | refine WPA.dec ?_); first | refine orL ?_ | refine orR ?_) | ((first | refine WPA.ifBt ?_ ?_ | refine WPA.ifBnf ?_ ?_); assumption) | ((first | refine WPA.ifBnt ?_ ?_ | refine WPA.ifBf ?_ ?_); assumption) | ((first | refine WPA.ifs ?_ ?_ | refine WPA.ifB ?_ ?_) <;> intro hc))
    refine WPA.loopS (σ := TW2) (fun y => [(1, .slice av.a av.n av.cap), (4, .pointer (some ⟨X4, 0, none⟩)), (5, .int .i64 0), (6, .int .i64 0), (7, .pointer (some ⟨X7, 0, none⟩)), (9, .int .i64 y.k)])
      (fun y => (y.k ≤ gss.length ∧ y.dn.length = y.k ∧ SubI y.J J0) ∧ (y.rows.length = y.dn.length ∧ ∀ j : Nat, j < y.dn.length → RowV y.J (at_ y.rows (j : Int)) (y.dn.getD j [])) ∧ (rowsF F (gss.drop y.k)).map (fun r => y.dn ++ r) = A0)
      (fun y => SL w0 y.J (OwnS 39 y.g y.rows :: Bk X7 25 [.int .i64 fr, .slice w.a w.n w.cap, .slice y.g.a y.g.n y.g.cap] :: Bk X4 25 [.int .i64 0, .slice none 0 0, .slice none 0 0] :: L)) (fun y => gss.length - y.k) ⟨0, SV.nil, [], [], J0⟩ ⟨rfl, rfl, rfl, rfl, rfl, rfl, trivial⟩
      ⟨⟨Nat.zero_le _, rfl, inferInstance⟩, ⟨rfl, fun j hj => absurd hj (Nat.not_lt_zero j)⟩, by dsimp only; rw [List.drop_zero, map_nilL]; exact hA0⟩ (fun w' h => by
        have h2 := (Ent.ownNil (α := SV) (t := 39) Ent.refl).sl h
        show SL w0 J0 (OwnS 39 SV.nil ([] : List SV) :: Bk X7 25 [.int .i64 fr, .slice w.a w.n w.cap, .slice none 0 0] :: Bk X4 25 [.int .i64 0, .slice none 0 0, .slice none 0 0] :: L) w'
        exact h2.to) ?_
    rintro ⟨k, gv, rows, dn, J⟩ ρ ⟨⟨hk, hdn, hJ⟩, hrows, hA⟩
    dsimp only at hk hdn hJ hrows hA ⊢
    have havJ : SlI J av SV inferInstance vs := hav0.sub
    have swJ : SlI J w ByteArray inferInstance wl := sw.sub
    have hJI : SubI J I := ⟨fun z hz => hJ.out (hJ0.out hz)⟩
    have hrl := hrows.1
    by_cases hkl : k < gss.length
    · have hkl' : (k : Int) < vs.length := by omega
      have hirk : (0 : Int) ≤ k ∧ (k : Int) < vs.length := by omega
      obtain ⟨es2, he2, hG2⟩ := (hrow k hkl).sub hJI
      obtain ⟨gk, hgk⟩ : ∃ gk, gss.getD k [] = gk := ⟨_, rfl⟩
      have hgk2 : gss[k] = gk := by rw [← hgk, List.getD_eq_getElem?_getD, List.getElem?_eq_getElem hkl]; rfl
      have hgkm : gk ∈ gss := by rw [← hgk2]; exact List.getElem_mem _
      have hgkl := hlen _ hgkm
      have hwlk := hwl0 _ hgkm
      rw [hgk] at hG2
      obtain ⟨rk, hrk⟩ : ∃ rk, at_ vs (k : Int) = rk := ⟨_, rfl⟩
      rw [hrk] at he2
      have hel2 := hG2.1
      rw [List.drop_eq_getElem_cons hkl, hgk2, rowsF] at hA
      obtain ⟨X, hX0⟩ : ∃ X, rowF F gk = X := ⟨_, rfl⟩
      rw [hX0] at hA
      repeat' (first | ((first | refine WLA.m rfl rfl ?_ ?_ | refine WLA.st rfl ?_ ?_ | refine WLA.x rfl rfl ?_ (fun x => ?_) | refine WLA.x0 rfl ?_ (fun x => ?_)); first | exact sdT | skip) | (refine Stp.go ?_) | (refine WPA.ifT ?_) | (refine WPA.ifF ?_) | ((first | refine WPA.dec ?_); first | refine orL ?_ | refine orR ?_) | ((first | refine WPA.ifBt ?_ ?_ | refine WPA.ifBnf ?_ ?_); assumption) | ((first | refine WPA.ifBnt ?_ ?_ | refine WPA.ifBf ?_ ?_); assumption) | ((first | refine WPA.ifs ?_ ?_ | refine WPA.ifB ?_ ?_) <;> intro hc))
      refine WPA.loopS (σ := TW3) (fun y => [(1, .slice av.a av.n av.cap), (4, .pointer (some ⟨X4, 0, none⟩)), (5, .int .i64 0), (6, .int .i64 0), (7, .pointer (some ⟨X7, 0, none⟩)), (9, .int .i64 k), (10, .slice y.l.a y.l.n y.l.cap), (11, .int .i64 y.i)])
        (fun y => (y.i ≤ gk.length ∧ y.dl.length = y.i ∧ SubI y.J J) ∧ EnsI y.J y.es y.dl ∧ (rowF F (gk.drop y.i)).map (fun r => y.dl ++ r) = X)
        (fun y => SL w0 y.J (OwnS 42 y.l y.es :: OwnS 39 gv rows :: Bk X7 25 [.int .i64 fr, .slice w.a w.n w.cap, .slice gv.a gv.n gv.cap] :: Bk X4 25 [.int .i64 0, .slice none 0 0, .slice none 0 0] :: L)) (fun y => gk.length - y.i) ⟨0, SV.nil, [], [], J⟩ ⟨rfl, rfl, rfl, rfl, rfl, rfl, rfl, rfl, trivial⟩
        ⟨⟨Nat.zero_le _, rfl, inferInstance⟩, ⟨rfl, fun j hj => absurd hj (Nat.not_lt_zero j)⟩, by dsimp only; rw [List.drop_zero, map_nilL]; exact hX0⟩ (fun w' h => by
          have h2 := (Ent.ownNil (α := EnM) (t := 42) Ent.refl).sl h
          show SL w0 J (OwnS 42 SV.nil ([] : List EnM) :: OwnS 39 gv rows :: Bk X7 25 [.int .i64 fr, .slice w.a w.n w.cap, .slice gv.a gv.n gv.cap] :: Bk X4 25 [.int .i64 0, .slice none 0 0, .slice none 0 0] :: L) w'
          exact h2.to) ?_
      rintro ⟨i, lv, es3, dl, K⟩ ρ ⟨⟨hi3, hdl, hK⟩, hE, hX⟩
      dsimp only at hi3 hdl hK hE hX ⊢
      have hes3 := hE.1
      have havK : SlI K av SV inferInstance vs := havJ.sub
      have swK : SlI K w ByteArray inferInstance wl := swJ.sub
      have he2K : SlI K rk LE inferInstance es2 := he2.sub (hs := hK)
      have hKI : SubI K I := ⟨fun z hz => hK.out (hJI.out hz)⟩
      by_cases hil : i < gk.length
      · have hil' : (i : Int) < es2.length := by omega
        have hiri : (0 : Int) ≤ i ∧ (i : Int) < es2.length := by omega
        have hgi := (hG2.2 i hil).sub hK
        have hgm2 : gk.getD i ⟨0, [], 0, 0⟩ = gk[i] := by rw [List.getD_eq_getElem?_getD, List.getElem?_eq_getElem hil]; rfl
        rw [List.drop_eq_getElem_cons hil, rowF, ← hgm2] at hX
        have hwsl : (gk.getD i ⟨0, [], 0, 0⟩).words.length ≤ 1000001 := by rw [hgm2]; exact hwlk _ (List.getElem_mem _)
        obtain ⟨e, hee⟩ : ∃ e, at_ es2 (i : Int) = e := ⟨_, rfl⟩
        rw [hee] at hgi
        generalize gk.getD i ⟨0, [], 0, 0⟩ = g at hgi hX hwsl
        obtain ⟨en, ew, eg, ep, eb⟩ := e
        obtain ⟨⟨e1, e2, e3⟩, hws⟩ := hgi
        dsimp only at e1 e2 e3 hws
        subst e1 e2 e3
        obtain ⟨Y, hY0⟩ : ∃ Y, idsM F g.line g.words = Y := ⟨_, rfl⟩
        rw [hY0] at hX
        repeat' (first | ((rw [hrk])) | ((rw [hee])) | ((first | refine WLA.m rfl rfl ?_ ?_ | refine WLA.st rfl ?_ ?_ | refine WLA.x rfl rfl ?_ (fun x => ?_) | refine WLA.x0 rfl ?_ (fun x => ?_)); first | exact sdT | skip) | (refine Stp.go ?_) | (refine WPA.ifT ?_) | (refine WPA.ifF ?_) | ((first | refine WPA.dec ?_); first | refine orL ?_ | refine orR ?_) | ((first | refine WPA.ifBt ?_ ?_ | refine WPA.ifBnf ?_ ?_); assumption) | ((first | refine WPA.ifBnt ?_ ?_ | refine WPA.ifBf ?_ ?_); assumption) | ((first | refine WPA.ifs ?_ ?_ | refine WPA.ifB ?_ ?_) <;> intro hc))
        revert x; intro X12
        refine WPA.loopS (σ := TW4) (fun y => [(1, .slice av.a av.n av.cap), (4, .pointer (some ⟨X4, 0, none⟩)), (5, .int .i64 0), (6, .int .i64 0), (7, .pointer (some ⟨X7, 0, none⟩)), (9, .int .i64 k), (10, .slice lv.a lv.n lv.cap), (11, .int .i64 i), (12, .pointer (some ⟨X12, 0, none⟩)), (13, .slice y.q.a y.q.n y.q.cap), (14, .int .i64 y.j)])
          (fun y => y.j ≤ g.words.length ∧ y.ids.length = y.j ∧ (idsM F g.line (g.words.drop y.j)).map (fun r => y.ids ++ r) = Y)
          (fun y => SL w0 K (OwnS 3 y.q y.ids :: Bk X12 42 [.slice eg.a eg.n eg.cap, .int .i64 g.prob, .int .i64 g.back] :: OwnS 42 lv es3 :: OwnS 39 gv rows :: Bk X7 25 [.int .i64 fr, .slice w.a w.n w.cap, .slice gv.a gv.n gv.cap] :: Bk X4 25 [.int .i64 0, .slice none 0 0, .slice none 0 0] :: L)) (fun y => g.words.length - y.j) ⟨0, SV.nil, []⟩ ⟨rfl, rfl, rfl, rfl, rfl, rfl, rfl, rfl, rfl, rfl, rfl, trivial⟩
          ⟨Nat.zero_le _, rfl, by dsimp only; rw [List.drop_zero, map_nilL]; exact hY0⟩ (fun w' h => by
            have h2 := (Ent.ownNil (α := Int) (t := 3) Ent.refl).sl h
            show SL w0 K (OwnS 3 SV.nil ([] : List Int) :: Bk X12 42 [.slice eg.a eg.n eg.cap, .int .i64 g.prob, .int .i64 g.back] :: OwnS 42 lv es3 :: OwnS 39 gv rows :: Bk X7 25 [.int .i64 fr, .slice w.a w.n w.cap, .slice gv.a gv.n gv.cap] :: Bk X4 25 [.int .i64 0, .slice none 0 0, .slice none 0 0] :: L) w'
            exact h2.to) ?_
        rintro ⟨j, q, ids⟩ ρ ⟨hj, hidl, hY⟩
        dsimp only at hj hidl hY ⊢
        by_cases hjl : j < g.words.length
        · have hjl' : (j : Int) < g.words.length := by omega
          have hirj : (0 : Int) ≤ j ∧ (j : Int) < g.words.length := by omega
          obtain ⟨wd, hwd⟩ : ∃ wd, at_ g.words (j : Int) = wd := ⟨_, rfl⟩
          rw [List.drop_eq_getElem_cons hjl, ← at_nat g.words j hjl, hwd, idsM, hFf wd] at hY
          have hpl := fun {L : List HP} [RdS K L w ByteArray inferInstance wl] => place_trR (w0 := w0) (I := K) (L := L) (v := w) (l := wl) (s := wd) (by omega)
          generalize findT wl wd = z at hY hpl
          by_cases hz : z < 0
          · rw [if_pos hz] at hY
            have hA2 : A0 = .error (g.line, 10) := by
              have y1 : Y = .error (g.line, 10) := hY.symm
              rw [y1] at hX
              have x1 : X = .error (g.line, 10) := hX.symm
              rw [x1] at hA
              exact hA.symm
            rw [hA2] at hT0
            have hT1 : TT = .error (g.line, 10) := hT0
            subst hT1
            repeat' (first | ((rw [hrk])) | ((rw [hee])) | ((rw [hwd])) | ((first | refine WLA.m rfl rfl ?_ ?_ | refine WDQ.m rfl rfl ?_ ?_ | refine WDP.m rfl rfl ?_ ?_ | refine WLA.st rfl ?_ ?_ | refine WLA.x rfl rfl ?_ (fun x => ?_) | refine WLA.x0 rfl ?_ (fun x => ?_) | refine WDW.x rfl rfl ?_ (fun x => ?_) | refine WDW.st rfl ?_ ?_); first | exact sdT | skip) | (refine Stp.go ?_) | (guard_target =~ WLA _ _ _ _ _ (⟨_, .call ⟨.value (.func 58), _, _⟩, _, _, _, _⟩ :: _) _ _; refine WLA.cq rfl rfl (hpl) ?_) | (refine WPA.ifT ?_) | (refine WPA.ifF ?_) | ((first | refine WPA.dec ?_); first | refine orL ?_ | refine orR ?_) | ((first | refine WPA.ifBt ?_ ?_ | refine WPA.ifBnf ?_ ?_); assumption) | ((first | refine WPA.ifBnt ?_ ?_ | refine WPA.ifBf ?_ ?_); assumption) | ((first | refine WPA.ifs ?_ ?_ | refine WPA.ifB ?_ ?_) <;> intro hc) | (guard_target =~ WPA _ _ _ (.region 18 _ true) _ _ _; refine WPA.drawT 13 (.q 0 (.q 1 (.q 2 (.q 3 (.q 4 (.q 5 (.q 6 (.q 7 (.q 8 (.q 9 (.q 10 (.q 11 (.q 12 .fin))))))))))))) mixed ?_ ?_; kernel_rfl) | (guard_target =~ WPA _ _ _ (.region 20 _ true) _ _ _; refine WPA.drawT 10 (.p 0 (.p 1 (.p 2 (.p 3 (.p 4 (.p 5 (.p 6 (.p 7 (.p 8 (.w 9 .fin)))))))))) mixed ?_ ?_; kernel_rfl) | (refine WDA.finish (tl := [⟨_, _, _, _, _, _⟩, ⟨_, _, _, _, _, _⟩]) rfl ?_) | (refine WDQ.see rfl ?_) | (refine WDP.see rfl ?_) | (refine WDW.see rfl ?_) | (guard_target =~ WDQ _ _ _ _ _ _ _ ⟨_, .call ⟨.value (.func 58), _, _⟩, _, _, _, _⟩ _ _ _; refine WDQ.cq rfl rfl (hpl) ?_))
            exact QQ.endc rfl (SV.nil, SV.nil, K) rfl fun w' h => ⟨⟨hKI, MdL.nil⟩, h.to⟩
          · rw [if_neg hz] at hY
            have hroom : Room (ids.length + 1) 8 := ⟨by omega, by omega⟩
            repeat' (first | ((rw [hrk])) | ((rw [hee])) | ((rw [hwd])) | ((first | refine WLA.m rfl rfl ?_ ?_ | refine WDQ.m rfl rfl ?_ ?_ | refine WLA.st rfl ?_ ?_ | refine WLA.x rfl rfl ?_ (fun x => ?_) | refine WLA.x0 rfl ?_ (fun x => ?_)); first | exact sdT | skip) | (refine Stp.go ?_) | (guard_target =~ WLA _ _ _ _ _ (⟨_, .call ⟨.value (.func 58), _, _⟩, _, _, _, _⟩ :: _) _ _; refine WLA.cq rfl rfl (hpl) ?_) | (refine WPA.ifT ?_) | (refine WPA.ifF ?_) | ((first | refine WPA.dec ?_); first | refine orL ?_ | refine orR ?_) | ((first | refine WPA.ifBt ?_ ?_ | refine WPA.ifBnf ?_ ?_); assumption) | ((first | refine WPA.ifBnt ?_ ?_ | refine WPA.ifBf ?_ ?_); assumption) | ((first | refine WPA.ifs ?_ ?_ | refine WPA.ifB ?_ ?_) <;> intro hc) | (guard_target =~ WPA _ _ _ (.region 18 _ true) _ _ _; refine WPA.drawT 13 (.q 0 (.q 1 (.q 2 (.q 3 (.q 4 (.q 5 (.q 6 (.q 7 (.q 8 (.q 9 (.q 10 (.q 11 (.q 12 .fin))))))))))))) mixed ?_ ?_; kernel_rfl) | (refine WDA.finish (tl := [⟨_, _, _, _, _, _⟩, ⟨_, _, _, _, _, _⟩]) rfl ?_) | (refine WDQ.see rfl ?_) | (guard_target =~ WDQ _ _ _ _ _ _ _ ⟨_, .call ⟨.value (.func 58), _, _⟩, _, _, _, _⟩ _ _ _; refine WDQ.cq rfl rfl (hpl) ?_))
            refine QQ.loopS ⟨j + 1, x, ids ++ [z]⟩ ⟨rfl, rfl, rfl, rfl, rfl, rfl, rfl, rfl, rfl, rfl, rfl, trivial⟩ ⟨hjl, by dsimp only; rw [List.length_append, List.length_singleton, hidl], ?_⟩ (by dsimp only; omega) (fun w h => h.to)
            dsimp only at hY ⊢
            rw [← hY]
            cases idsM F g.line (g.words.drop (j + 1)) with
            | ok r => show Except.ok ((ids ++ [z]) ++ r) = Except.ok (ids ++ (z :: r)); rw [List.append_assoc]; rfl
            | error e => rfl
        · have hjl' : ¬ (j : Int) < g.words.length := by omega
          rw [List.drop_of_length_le (by omega)] at hY
          have hY1 : Y = .ok ids := by rw [← hY]; show Except.ok (ids ++ []) = _; rw [List.append_nil]
          rw [hY1] at hX
          dsimp only at hX
          have hroom : Room (es3.length + 1) 40 := ⟨by omega, by omega⟩
          repeat' (first | ((rw [hrk])) | ((rw [hee])) | ((first | refine WLA.m rfl rfl ?_ ?_ | refine WLA.st rfl ?_ ?_ | refine WLA.x rfl rfl ?_ (fun x => ?_) | refine WLA.x0 rfl ?_ (fun x => ?_)); first | exact sdT | skip) | (refine Stp.go ?_) | (refine WPA.ifT ?_) | (refine WPA.ifF ?_) | ((first | refine WPA.dec ?_); first | refine orL ?_ | refine orR ?_) | ((first | refine WPA.ifBt ?_ ?_ | refine WPA.ifBnf ?_ ?_); assumption) | ((first | refine WPA.ifBnt ?_ ?_ | refine WPA.ifBf ?_ ?_); assumption) | ((first | refine WPA.ifs ?_ ?_ | refine WPA.ifB ?_ ?_) <;> intro hc))
          refine QQ.ent (EntC.out (L' := OwnS 3 q ids :: OwnS 42 x (es3 ++ [(q, g.prob, g.back)]) :: OwnS 39 gv rows :: Bk X7 25 [.int .i64 fr, .slice w.a w.n w.cap, .slice gv.a gv.n gv.cap] :: Bk X4 25 [.int .i64 0, .slice none 0 0, .slice none 0 0] :: L)) ?_
          refine QQ.freeze fun R hR => ?_
          have sq : SlI (R ++ K) q Int inferInstance ids := by have := SlI.ofOwn hR; infer_instance
          refine QQ.loopS ⟨i + 1, x, es3 ++ [(q, g.prob, g.back)], dl ++ [(ids, g.prob, g.back)], R ++ K⟩ ⟨rfl, rfl, rfl, rfl, rfl, rfl, rfl, rfl, trivial⟩ ⟨⟨hil, by dsimp only; rw [List.length_append, List.length_singleton, hdl], ⟨fun z hz => List.mem_append_right _ (hK.out hz)⟩⟩, snocX (R := EnI (R ++ K)) (hE.sub inferInstance) ⟨rfl, sq⟩, ?_⟩ (by dsimp only; omega) (fun w h => h.to)
          dsimp only
          rw [← hX]
          cases rowF F (gk.drop (i + 1)) with
          | ok r => show Except.ok ((dl ++ [_]) ++ r) = Except.ok (dl ++ (_ :: r)); rw [List.append_assoc]; rfl
          | error e => rfl
      · have hil' : ¬ (i : Int) < es2.length := by omega
        rw [List.drop_of_length_le (by omega)] at hX
        have hX1 : X = .ok dl := by rw [← hX]; show Except.ok (dl ++ []) = _; rw [List.append_nil]
        rw [hX1] at hA
        dsimp only at hA
        have hroom0 : Room rows.length 24 := ⟨by omega, by omega⟩
        have hroom : Room (rows.length + 1) 24 := ⟨by omega, by omega⟩
        repeat' (first | ((rw [hrk])) | ((first | refine WLA.m rfl rfl ?_ ?_ | refine WLA.st rfl ?_ ?_ | refine WLA.x rfl rfl ?_ (fun x => ?_) | refine WLA.x0 rfl ?_ (fun x => ?_)); first | exact sdT | skip) | (refine Stp.go ?_) | (refine WPA.ifT ?_) | (refine WPA.ifF ?_) | ((first | refine WPA.dec ?_); first | refine orL ?_ | refine orR ?_) | ((first | refine WPA.ifBt ?_ ?_ | refine WPA.ifBnf ?_ ?_); assumption) | ((first | refine WPA.ifBnt ?_ ?_ | refine WPA.ifBf ?_ ?_); assumption) | ((first | refine WPA.ifs ?_ ?_ | refine WPA.ifB ?_ ?_) <;> intro hc))
        refine QQ.ent (EntC.out (L' := OwnS 42 lv es3 :: OwnS 39 x (rows ++ [lv]) :: Bk X7 25 [.int .i64 fr, .slice w.a w.n w.cap, .slice x.a x.n x.cap] :: Bk X4 25 [.int .i64 0, .slice none 0 0, .slice none 0 0] :: L)) ?_
        refine QQ.freeze fun R hR => ?_
        have sl : SlI (R ++ K) lv EnM inferInstance es3 := by have := SlI.ofOwn hR; infer_instance
        have hRK : SubI (R ++ K) J := ⟨fun z hz => List.mem_append_right _ (hK.out hz)⟩
        refine QQ.loopS ⟨k + 1, x, rows ++ [lv], dn ++ [dl], R ++ K⟩ ⟨rfl, rfl, rfl, rfl, rfl, rfl, trivial⟩ ⟨⟨hkl, by dsimp only; rw [List.length_append, List.length_singleton, hdn], ⟨fun z hz => hRK.out (hJ.out hz)⟩⟩, snocX (R := RowV (R ++ K)) ⟨hrows.1, fun j hj => (hrows.2 j hj).sub hRK⟩ ⟨es3, sl, hE.sub inferInstance⟩, ?_⟩ (by dsimp only; omega) (fun w h => h.to)
        dsimp only
        rw [← hA]
        cases rowsF F (gss.drop (k + 1)) with
        | ok r => show Except.ok ((dn ++ [dl]) ++ r) = Except.ok (dn ++ (dl :: r)); rw [List.append_assoc]; rfl
        | error e => rfl
    · have hkl' : ¬ (k : Int) < vs.length := by omega
      rw [List.drop_of_length_le (by omega)] at hA
      have hA1 : A0 = .ok dn := by rw [← hA]; show Except.ok (dn ++ []) = _; rw [List.append_nil]
      refine WPA.freeze fun R hR => ?_
      have sg : SlI (R ++ J) gv SV inferInstance rows := by have := SlI.ofOwn hR; infer_instance
      have hRJ : SubI (R ++ J) J := inferInstance
      have hRI : SubI (R ++ J) I := ⟨fun z hz => hRJ.out (hJI.out hz)⟩
      have havR : SlI (R ++ J) av SV inferInstance vs := havJ.sub
      have hM : MdL (R ++ J) w gv wl (evs dn) := by
        refine ⟨swJ.sub, rows, sg, by unfold evs; rw [List.length_map]; exact hrl, fun k hk => ?_⟩
        unfold evs at hk ⊢
        rw [List.length_map] at hk
        have := (hrows.2 k hk).lst.sub hRJ
        rw [List.getD_eq_getElem?_getD, List.getElem?_eq_getElem hk] at this
        rw [List.getD_eq_getElem?_getD, List.getElem?_map, List.getElem?_eq_getElem hk]
        exact this
      obtain ⟨f1, f2, f3, f4⟩ := hfew _ hA1
      rw [hA1] at hT0
      dsimp only at hT0
      have hck := fun {L : List HP} => rCheckA_tr (w0 := w0) (I := R ++ J) (L := L) (fr := fr) hM f1 f2 f3 f4
      generalize chkA fr wl (evs dn) = e at hck hT0
      clear hR
      by_cases he0 : e = 0
      · have he0' : ¬ e ≠ 0 := fun k => k he0
        rw [if_neg he0'] at hT0
        subst hT0
        repeat' (first | ((first | refine WLA.m rfl rfl ?_ ?_ | refine WLA.st rfl ?_ ?_ | refine WLA.x rfl rfl ?_ (fun x => ?_) | refine WLA.x0 rfl ?_ (fun x => ?_)); first | exact sdT | skip) | (refine Stp.go ?_) | (guard_target =~ WLA _ _ _ _ _ (⟨_, .call ⟨.value (.func 9), _, _⟩, _, _, _, _⟩ :: _) _ _; refine WLA.call rfl rfl (hck) ?_; rintro ⟨⟩) | (refine WPA.ifT ?_) | (refine WPA.ifF ?_) | ((first | refine WPA.dec ?_); first | refine orL ?_ | refine orR ?_) | ((first | refine WPA.ifBt ?_ ?_ | refine WPA.ifBnf ?_ ?_); assumption) | ((first | refine WPA.ifBnt ?_ ?_ | refine WPA.ifBf ?_ ?_); assumption) | ((first | refine WPA.ifs ?_ ?_ | refine WPA.ifB ?_ ?_) <;> intro hc))
        exact QQ.endc rfl (w, gv, R ++ J) rfl fun w' h => ⟨⟨hRI, hM⟩, h.to⟩
      · rw [if_pos he0] at hT0
        subst hT0
        repeat' (first | ((first | refine WLA.m rfl rfl ?_ ?_ | refine WLA.st rfl ?_ ?_ | refine WLA.x rfl rfl ?_ (fun x => ?_) | refine WLA.x0 rfl ?_ (fun x => ?_)); first | exact sdT | skip) | (refine Stp.go ?_) | (guard_target =~ WLA _ _ _ _ _ (⟨_, .call ⟨.value (.func 9), _, _⟩, _, _, _, _⟩ :: _) _ _; refine WLA.call rfl rfl (hck) ?_; rintro ⟨⟩) | (refine WPA.ifT ?_) | (refine WPA.ifF ?_) | ((first | refine WPA.dec ?_); first | refine orL ?_ | refine orR ?_) | ((first | refine WPA.ifBt ?_ ?_ | refine WPA.ifBnf ?_ ?_); assumption) | ((first | refine WPA.ifBnt ?_ ?_ | refine WPA.ifBf ?_ ?_); assumption) | ((first | refine WPA.ifs ?_ ?_ | refine WPA.ifB ?_ ?_) <;> intro hc))
        exact QQ.endc rfl (SV.nil, SV.nil, R ++ J) rfl fun w' h => ⟨⟨hRI, MdL.nil⟩, h.to⟩
end
end Go.Proofs.YthkhneimfjaohaaGreatDoor
