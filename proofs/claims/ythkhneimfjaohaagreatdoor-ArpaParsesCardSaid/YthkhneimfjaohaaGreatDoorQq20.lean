/- Texts that ArpaParses_law leans on, part 20. Conditions: none. -/
import Derived.Test.YthkhneimfjaohaaGreatDoorQq19
namespace Go.Proofs.YthkhneimfjaohaaGreatDoor
open Go Go.Fw Go.RowKit
set_option linter.unusedVariables false
set_option linter.unusedSimpArgs false
set_option maxRecDepth 100000
set_option maxHeartbeats 16000000
set_option synthInstance.maxHeartbeats 200000
set_option synthInstance.maxSize 100000
attribute [local irreducible] WPA WLA WDA WDQ WDE QQ seqQ blockQ loopQ fnQ OpP OpT Tr TrP SL SLd OwnS LitS Bk BkE Ob
attribute [local irreducible] TblH VocH
def FewA (ws : List ByteArray) (A : List (List EV)) : Prop := (ws.length ≤ 1000000 ∧ A.length ≤ 1000000) ∧ ∀ es ∈ A, es.length ≤ 1000000 ∧ ∀ e ∈ es, e.2.length ≤ 1000000
section
variable {L : List HP} {w0 : World} {I : Foot}
theorem MdQ.at {w g : SV} {ws : List ByteArray} {gr : List SV} {A : List (List EV)} (h : MdQ I w g ws gr A) (f : FewA ws A) {i : Nat} (hi : i < gr.length) :
    (SlI I (at_ gr (i : Int)) En inferInstance (rd En I (at_ gr (i : Int))) ∧ EnG I (rd Int I) (rd En I (at_ gr (i : Int)))) ∧ A[i]? = some (enV (rd Int I) (rd En I (at_ gr (i : Int)))) ∧ (rd En I (at_ gr (i : Int))).length ≤ 1000000 ∧ ∀ p ∈ rd En I (at_ gr (i : Int)), (rd Int I p.1).length ≤ 1000000 := by
  have hm : at_ gr (i : Int) ∈ gr := by rw [at_nat gr i hi]; exact List.getElem_mem _
  have hc : A[i]? = some (enV (rd Int I) (rd En I (at_ gr (i : Int)))) := by rw [← h.cont, List.getElem?_map, List.getElem?_eq_getElem hi, at_nat gr i hi]; rfl
  obtain ⟨f1, f2⟩ := f.2 _ (List.mem_of_getElem? hc)
  refine ⟨h.rows _ hm, hc, by simpa [enV] using f1, fun p hp => ?_⟩
  exact f2 (p.2, rd Int I p.1) (List.mem_map.2 ⟨p, hp, rfl⟩)
theorem MdQ.len {w g : SV} {ws : List ByteArray} {gr : List SV} {A : List (List EV)} (h : MdQ I w g ws gr A) : gr.length = A.length := by rw [← h.cont, List.length_map]
theorem rSame_trQ {w g w2 g2 : SV} {ws ws2 : List ByteArray} {gr gr2 : List SV} {A B : List (List EV)} {fr fr2 : Int} (ha : MdQ I w g ws gr A) (hb : MdQ I w2 g2 ws2 gr2 B) (fa : FewA ws A) (fb : FewA ws2 B) :
    Tr Tryz.prog 12 #[.agg #[.int .i64 fr, .slice w.a w.n w.cap, .slice g.a g.n g.cap], .agg #[.int .i64 fr2, .slice w2.a w2.n w2.cap, .slice g2.a g2.n g2.cap]] (SL w0 I L) (fun _ : Unit => .bool (decide (fr = fr2 ∧ ws = ws2 ∧ A = B))) (fun _ => SL w0 I L) := by
  refine Tr.intro Tryz.func12 rfl Tryz.ntmps12 rfl ?_
  have h1 := ha.words
  have h2 := hb.words
  have h3 := ha.grams
  have h4 := hb.grams
  have hwl : ws.length ≤ 1000000000 := by have := fa.1.1; omega
  have hga := ha.len
  have hgb := hb.len
  have hgl : gr.length ≤ 1000000 := by have := fa.1.2; omega
  have no : ¬ (fr = fr2 ∧ ws = ws2 ∧ A = B) → decide (fr = fr2 ∧ ws = ws2 ∧ A = B) = false := decide_eq_false
  by_cases c1 : fr = fr2
  · have c1' : ¬ fr ≠ fr2 := fun h => h c1
    by_cases c2 : gr.length = gr2.length
    · have c2' : ¬ (gr.length : Int) ≠ gr2.length := by omega
      by_cases c3 : ws = ws2
      · have c3' : ¬ ¬ ws = ws2 := fun h => h c3
        repeat' (first | ((first | refine WLA.m rfl rfl ?_ ?_ | refine WLA.st rfl ?_ ?_ | refine WLA.x rfl rfl ?_ (fun x => ?_) | refine WLA.x0 rfl ?_ (fun x => ?_)); first | exact sdT | skip) | (refine Stp.go ?_) | (guard_target =~ WLA _ _ _ _ _ (⟨_, .call ⟨.value (.func 30), _, _⟩, _, _, _, _⟩ :: _) _ _; refine WLA.cq rfl rfl (Same_tr hwl) ?_) | (refine WPA.ifT ?_) | (refine WPA.ifF ?_) | (refine WLA.no rfl rfl ?_) | ((first | refine WPA.dec ?_ | ((fail_if_success (guard_target =~ WLA _ _ _ _ _ _ (put1 _ _ (.bool true)) _)); (fail_if_success (guard_target =~ WLA _ _ _ _ _ _ (put1 _ _ (.bool false)) _)); refine WLA.dec rfl rfl ?_) | refine WLA.pk ?_); first | refine orL ?_ | refine orR ?_) | ((first | refine WPA.ifBt ?_ ?_ | refine WPA.ifBnf ?_ ?_); assumption) | ((first | refine WPA.ifBnt ?_ ?_ | refine WPA.ifBf ?_ ?_); assumption) | ((first | refine WPA.ifs ?_ ?_ | refine WPA.ifB ?_ ?_) <;> intro hc) | ((fail_if_success (guard_target =~ WLA _ _ _ _ _ _ (put1 _ _ (.bool true)) _)); (fail_if_success (guard_target =~ WLA _ _ _ _ _ _ (put1 _ _ (.bool false)) _)); (first | refine WLA.both rfl rfl ?_ ?_ | refine WLA.bothB rfl rfl ?_ ?_) <;> intro hg))
        rename_i t2
        revert x; intro t3
        refine WPA.loopS (σ := Nat) (fun i => [(2, .pointer (some ⟨t2, 0, none⟩)), (3, .pointer (some ⟨t3, 0, none⟩)), (5, .int .i64 i)]) (fun i => i ≤ gr.length ∧ A.take i = B.take i)
          (fun _ => SL w0 I (Bk t3 25 [.int .i64 fr2, .slice w2.a w2.n w2.cap, .slice g2.a g2.n g2.cap] :: Bk t2 25 [.int .i64 fr, .slice w.a w.n w.cap, .slice g.a g.n g.cap] :: L)) (fun i => gr.length - i) 0 ⟨rfl, rfl, rfl, trivial⟩ ⟨Nat.zero_le _, rfl⟩ (fun w h => h.to) ?_
        rintro i ρ ⟨hi, he⟩
        by_cases hlt : i < gr.length
        · have hlt' : (i : Int) < gr.length := by omega
          have hlt2 : (i : Int) < gr2.length := by omega
          obtain ⟨⟨p1, p2⟩, p3, p4, p5⟩ := ha.at fa hlt
          obtain ⟨⟨q1, q2⟩, q3, q4, q5⟩ := hb.at fb (show i < gr2.length by omega)
          generalize rd En I (at_ gr (i : Int)) = xs at p1 p2 p3 p4 p5
          generalize rd En I (at_ gr2 (i : Int)) = ys at q1 q2 q3 q4 q5
          have hp5 : ∀ p ∈ xs, (rd Int I p.1).length ≤ 1000000000 := fun p hp => by have := p5 p hp; omega
          by_cases c4 : enV (rd Int I) xs = enV (rd Int I) ys
          · have c4' : ¬ ¬ enV (rd Int I) xs = enV (rd Int I) ys := fun h => h c4
            repeat' (first | ((first | refine WLA.m rfl rfl ?_ ?_ | refine WDQ.m rfl rfl ?_ ?_ | refine WLA.st rfl ?_ ?_ | refine WLA.x rfl rfl ?_ (fun x => ?_) | refine WLA.x0 rfl ?_ (fun x => ?_)); first | exact sdT | skip) | (refine Stp.go ?_) | (guard_target =~ WLA _ _ _ _ _ (⟨_, .call ⟨.value (.func 31), _, _⟩, _, _, _, _⟩ :: _) _ _; refine WLA.cq rfl rfl (Entries_tr (fun p hp ↦ RdS.imm (h := p2 p hp)) (fun p hp ↦ RdS.imm (h := q2 p hp)) (by omega) hp5) ?_) | (refine WPA.ifT ?_) | (refine WPA.ifF ?_) | ((first | refine WPA.dec ?_); first | refine orL ?_ | refine orR ?_) | ((first | refine WPA.ifBt ?_ ?_ | refine WPA.ifBnf ?_ ?_); assumption) | ((first | refine WPA.ifBnt ?_ ?_ | refine WPA.ifBf ?_ ?_); assumption) | ((first | refine WPA.ifs ?_ ?_ | refine WPA.ifB ?_ ?_) <;> intro hc) | (guard_target =~ WPA _ _ _ (.region 6 _ true) _ _ _; refine WPA.drawT 10 (.q 0 (.q 1 (.q 2 (.q 3 (.q 4 (.q 5 (.q 6 (.q 7 (.q 8 (.q 9 .fin)))))))))) mixed ?_ ?_; kernel_rfl) | (refine WDA.finish (tl := [⟨_, _, _, _, _, _⟩, ⟨_, _, _, _, _, _⟩]) rfl ?_) | (refine WDQ.see rfl ?_) | (guard_target =~ WDQ _ _ _ _ _ _ _ ⟨_, .call ⟨.value (.func 31), _, _⟩, _, _, _, _⟩ _ _ _; refine WDQ.cq rfl rfl (Entries_tr (fun p hp ↦ RdS.imm (h := p2 p hp)) (fun p hp ↦ RdS.imm (h := q2 p hp)) (by omega) hp5) ?_))
            exact QQ.loopS (i + 1) ⟨rfl, rfl, rfl, trivial⟩ ⟨hlt, by rw [List.take_add_one, List.take_add_one, he, p3, q3, c4]⟩ (by omega) (fun w h => h.to)
          · skip
            repeat' (first | ((first | refine WLA.m rfl rfl ?_ ?_ | refine WDQ.m rfl rfl ?_ ?_ | refine WLA.st rfl ?_ ?_ | refine WLA.x rfl rfl ?_ (fun x => ?_) | refine WLA.x0 rfl ?_ (fun x => ?_)); first | exact sdT | skip) | (refine Stp.go ?_) | (guard_target =~ WLA _ _ _ _ _ (⟨_, .call ⟨.value (.func 31), _, _⟩, _, _, _, _⟩ :: _) _ _; refine WLA.cq rfl rfl (Entries_tr (fun p hp ↦ RdS.imm (h := p2 p hp)) (fun p hp ↦ RdS.imm (h := q2 p hp)) (by omega) hp5) ?_) | (refine WPA.ifT ?_) | (refine WPA.ifF ?_) | ((first | refine WPA.dec ?_); first | refine orL ?_ | refine orR ?_) | ((first | refine WPA.ifBt ?_ ?_ | refine WPA.ifBnf ?_ ?_); assumption) | ((first | refine WPA.ifBnt ?_ ?_ | refine WPA.ifBf ?_ ?_); assumption) | ((first | refine WPA.ifs ?_ ?_ | refine WPA.ifB ?_ ?_) <;> intro hc) | (guard_target =~ WPA _ _ _ (.region 6 _ true) _ _ _; refine WPA.drawT 10 (.q 0 (.q 1 (.q 2 (.q 3 (.q 4 (.q 5 (.q 6 (.q 7 (.q 8 (.q 9 .fin)))))))))) mixed ?_ ?_; kernel_rfl) | (refine WDA.finish (tl := [⟨_, _, _, _, _, _⟩, ⟨_, _, _, _, _, _⟩]) rfl ?_) | (refine WDQ.see rfl ?_) | (guard_target =~ WDQ _ _ _ _ _ _ _ ⟨_, .call ⟨.value (.func 31), _, _⟩, _, _, _, _⟩ _ _ _; refine WDQ.cq rfl rfl (Entries_tr (fun p hp ↦ RdS.imm (h := p2 p hp)) (fun p hp ↦ RdS.imm (h := q2 p hp)) (by omega) hp5) ?_))
            exact QQ.end_ rfl () (by rw [no fun h => c4 (by have e := h.2.2; rw [e, q3] at p3; injection p3 with p3; exact p3.symm)]) fun w h => h.to
        · have hlt' : ¬ (i : Int) < gr.length := by omega
          rw [List.take_of_length_le (by omega), List.take_of_length_le (by omega)] at he
          repeat' (first | ((first | refine WLA.m rfl rfl ?_ ?_ | refine WLA.st rfl ?_ ?_ | refine WLA.x rfl rfl ?_ (fun x => ?_) | refine WLA.x0 rfl ?_ (fun x => ?_)); first | exact sdT | skip) | (refine Stp.go ?_) | (refine WPA.ifT ?_) | (refine WPA.ifF ?_) | ((first | refine WPA.dec ?_); first | refine orL ?_ | refine orR ?_) | ((first | refine WPA.ifBt ?_ ?_ | refine WPA.ifBnf ?_ ?_); assumption) | ((first | refine WPA.ifBnt ?_ ?_ | refine WPA.ifBf ?_ ?_); assumption) | ((first | refine WPA.ifs ?_ ?_ | refine WPA.ifB ?_ ?_) <;> intro hc))
          exact QQ.end_ rfl () (by rw [decide_eq_true ⟨c1, c3, he⟩]) fun w h => h.to
      · skip
        repeat' (first | ((first | refine WLA.m rfl rfl ?_ ?_ | refine WLA.st rfl ?_ ?_ | refine WLA.x rfl rfl ?_ (fun x => ?_) | refine WLA.x0 rfl ?_ (fun x => ?_)); first | exact sdT | skip) | (refine Stp.go ?_) | (guard_target =~ WLA _ _ _ _ _ (⟨_, .call ⟨.value (.func 30), _, _⟩, _, _, _, _⟩ :: _) _ _; refine WLA.cq rfl rfl (Same_tr hwl) ?_) | (refine WPA.ifT ?_) | (refine WPA.ifF ?_) | (refine WLA.no rfl rfl ?_) | ((first | refine WPA.dec ?_ | ((fail_if_success (guard_target =~ WLA _ _ _ _ _ _ (put1 _ _ (.bool true)) _)); (fail_if_success (guard_target =~ WLA _ _ _ _ _ _ (put1 _ _ (.bool false)) _)); refine WLA.dec rfl rfl ?_) | refine WLA.pk ?_); first | refine orL ?_ | refine orR ?_) | ((first | refine WPA.ifBt ?_ ?_ | refine WPA.ifBnf ?_ ?_); assumption) | ((first | refine WPA.ifBnt ?_ ?_ | refine WPA.ifBf ?_ ?_); assumption) | ((first | refine WPA.ifs ?_ ?_ | refine WPA.ifB ?_ ?_) <;> intro hc) | ((fail_if_success (guard_target =~ WLA _ _ _ _ _ _ (put1 _ _ (.bool true)) _)); (fail_if_success (guard_target =~ WLA _ _ _ _ _ _ (put1 _ _ (.bool false)) _)); (first | refine WLA.both rfl rfl ?_ ?_ | refine WLA.bothB rfl rfl ?_ ?_) <;> intro hg))
        exact QQ.end_ rfl () (by rw [no fun h => c3 h.2.1]) fun w h => h.to
    · have c2' : (gr.length : Int) ≠ gr2.length := by omega
      repeat' (first | ((first | refine WLA.m rfl rfl ?_ ?_ | refine WLA.st rfl ?_ ?_ | refine WLA.x rfl rfl ?_ (fun x => ?_) | refine WLA.x0 rfl ?_ (fun x => ?_)); first | exact sdT | skip) | (refine Stp.go ?_) | (refine WPA.ifT ?_) | (refine WPA.ifF ?_) | (refine WLA.no rfl rfl ?_) | ((first | refine WPA.dec ?_ | ((fail_if_success (guard_target =~ WLA _ _ _ _ _ _ (put1 _ _ (.bool true)) _)); (fail_if_success (guard_target =~ WLA _ _ _ _ _ _ (put1 _ _ (.bool false)) _)); refine WLA.dec rfl rfl ?_) | refine WLA.pk ?_); first | refine orL ?_ | refine orR ?_) | ((first | refine WPA.ifBt ?_ ?_ | refine WPA.ifBnf ?_ ?_); assumption) | ((first | refine WPA.ifBnt ?_ ?_ | refine WPA.ifBf ?_ ?_); assumption) | ((first | refine WPA.ifs ?_ ?_ | refine WPA.ifB ?_ ?_) <;> intro hc) | ((fail_if_success (guard_target =~ WLA _ _ _ _ _ _ (put1 _ _ (.bool true)) _)); (fail_if_success (guard_target =~ WLA _ _ _ _ _ _ (put1 _ _ (.bool false)) _)); (first | refine WLA.both rfl rfl ?_ ?_ | refine WLA.bothB rfl rfl ?_ ?_) <;> intro hg))
      exact QQ.end_ rfl () (by rw [no fun h => c2 (by rw [hga, hgb, h.2.2])]) fun w h => h.to
  · skip
    repeat' (first | ((first | refine WLA.m rfl rfl ?_ ?_ | refine WLA.st rfl ?_ ?_ | refine WLA.x rfl rfl ?_ (fun x => ?_) | refine WLA.x0 rfl ?_ (fun x => ?_)); first | exact sdT | skip) | (refine Stp.go ?_) | (refine WPA.ifT ?_) | (refine WPA.ifF ?_) | (refine WLA.no rfl rfl ?_) | ((first | refine WPA.dec ?_ | ((fail_if_success (guard_target =~ WLA _ _ _ _ _ _ (put1 _ _ (.bool true)) _)); (fail_if_success (guard_target =~ WLA _ _ _ _ _ _ (put1 _ _ (.bool false)) _)); refine WLA.dec rfl rfl ?_) | refine WLA.pk ?_); first | refine orL ?_ | refine orR ?_) | ((first | refine WPA.ifBt ?_ ?_ | refine WPA.ifBnf ?_ ?_); assumption) | ((first | refine WPA.ifBnt ?_ ?_ | refine WPA.ifBf ?_ ?_); assumption) | ((first | refine WPA.ifs ?_ ?_ | refine WPA.ifB ?_ ?_) <;> intro hc) | ((fail_if_success (guard_target =~ WLA _ _ _ _ _ _ (put1 _ _ (.bool true)) _)); (fail_if_success (guard_target =~ WLA _ _ _ _ _ _ (put1 _ _ (.bool false)) _)); (first | refine WLA.both rfl rfl ?_ ?_ | refine WLA.bothB rfl rfl ?_ ?_) <;> intro hg))
    exact QQ.end_ rfl () (by rw [no fun h => c1 h.1]) fun w h => h.to
theorem rSame_trI {w g w2 g2 : SV} {ws ws2 : List ByteArray} {A B : List (List EV)} {fr fr2 : Int} (ha : MdL I w g ws A) (hb : MdL I w2 g2 ws2 B) (fa : FewA ws A) (fb : FewA ws2 B) :
    Tr Tryz.prog 12 #[.agg #[.int .i64 fr, .slice w.a w.n w.cap, .slice g.a g.n g.cap], .agg #[.int .i64 fr2, .slice w2.a w2.n w2.cap, .slice g2.a g2.n g2.cap]] (SL w0 I L) (fun _ : Unit => .bool (decide (fr = fr2 ∧ ws = ws2 ∧ A = B))) (fun _ => SL w0 I L) := by
  unfold Tr
  intro u hu
  obtain ⟨gr, hq⟩ := ha.nst hu
  obtain ⟨gr2, hq2⟩ := hb.nst hu
  have h := rSame_trQ (L := L) (w0 := w0) (fr := fr) (fr2 := fr2) hq hq2 fa fb
  unfold Tr at h
  exact h u hu
end
end Go.Proofs.YthkhneimfjaohaaGreatDoor
namespace Go.Proofs.YthkhneimfjaohaaGreatDoor
open Go Go.Fw Go.RowKit
set_option linter.unusedVariables false
set_option linter.unusedSimpArgs false
set_option maxRecDepth 100000
set_option maxHeartbeats 16000000
set_option synthInstance.maxHeartbeats 200000
set_option synthInstance.maxSize 100000
attribute [local irreducible] WPA WLA WDA WDQ WDE QQ seqQ blockQ loopQ fnQ OpP OpT Tr TrP SL SLd OwnS LitS Bk BkE Ob
attribute [local irreducible] fnX TrX TblH VocH EntOk TabP PrnR parseF printB chkA
section
variable {L : List HP} {w0 : World} {I : Foot}
theorem parse_fewA {s : ByteArray} (hs : s.size ≤ 1000000) : FewA (prW (parseF s)) (prA (parseF s)) := by
  cases hps : parseF s with
  | error y => exact ⟨⟨Nat.zero_le _, Nat.zero_le _⟩, fun es hes => (by cases hes)⟩
  | ok r =>
    obtain ⟨fr, ws, A⟩ := r
    exact ⟨⟨(parse_few hs hps).2.1, (parse_few hs hps).2.2.1⟩, (parse_few hs hps).2.2.2⟩
theorem ArpaParses_tr {s : ByteArray} (hT : TabP w0) (h0 : w0.drawn = 0) : Tr Tryz.prog 4 #[.string s] (SL w0 I L) (fun _ : Unit => .bool true) (fun _ => SL w0 I L) := by
  refine Tr.intro Tryz.func4 rfl Tryz.ntmps4 rfl ?_
  by_cases hz : (s.size : Int) > 3000
  · have hl := fun {L : List HP} => live_tr39 (I := I) (L := L) hT h0
    repeat' (first | ((first | refine WLA.m rfl rfl ?_ ?_ | refine WLA.st rfl ?_ ?_ | refine WLA.x rfl rfl ?_ (fun x => ?_) | refine WLA.x0 rfl ?_ (fun x => ?_)); first | exact sdT | skip) | (refine Stp.go ?_) | (guard_target =~ WLA _ _ _ _ _ (⟨_, .call ⟨.value (.func 7), _, _⟩, _, _, _, _⟩ :: _) _ _; refine WLA.call rfl rfl (hl) ?_; rintro ⟨⟩) | (refine WPA.ifT ?_) | (refine WPA.ifF ?_) | ((first | refine WPA.dec ?_); first | refine orL ?_ | refine orR ?_) | ((first | refine WPA.ifBt ?_ ?_ | refine WPA.ifBnf ?_ ?_); assumption) | ((first | refine WPA.ifBnt ?_ ?_ | refine WPA.ifBf ?_ ?_); assumption) | ((first | refine WPA.ifs ?_ ?_ | refine WPA.ifB ?_ ?_) <;> intro hc))
    exact QQ.end_ rfl () rfl fun w h => h.to
  have hfew := parse_fewA (s := s) (by omega)
  have hp1 := fun {L : List HP} => Parse_trS (w0 := w0) (I := I) (L := L) (s := s) (by omega)
  have hp2 := fun {J : Foot} {L : List HP} => Parse_trR (w0 := w0) (I := J) (L := L) (s := s) (by omega)
  generalize parseF s = T at hfew hp1 hp2
  generalize prF T = fr at hp1 hp2
  generalize prW T = ws at hfew hp1 hp2
  generalize prA T = A at hfew hp1 hp2
  generalize prY T = y at hp1 hp2
  obtain ⟨y1, y2⟩ := y
  dsimp only at hp1 hp2
  repeat' ((fail_if_success (guard_target =~ WPA _ _ _ (.region 5 _ _) _ _ _)); first | ((first | refine WLA.m rfl rfl ?_ ?_ | refine WLA.st rfl ?_ ?_ | refine WLA.x rfl rfl ?_ (fun x => ?_) | refine WLA.x0 rfl ?_ (fun x => ?_)); first | exact sdT | skip) | (refine Stp.go ?_) | (guard_target =~ WLA _ _ _ _ _ (⟨_, .call ⟨.value (.func 10), _, _⟩, _, _, _, _⟩ :: _) _ _; refine WLA.call rfl rfl (hp1) ?_; rintro ⟨⟨wv, gv, R⟩, hM⟩) | (guard_target =~ WLA _ _ _ _ _ (⟨_, .call ⟨.value (.func 13), _, _⟩, _, _, _, _⟩ :: _) _ _; refine WLA.call rfl rfl (hp2 (J := R ++ I)) ?_; rintro ⟨⟨wv2, gv2, R2⟩, hM2⟩) | (refine WPA.ifT ?_) | (refine WPA.ifF ?_) | ((first | refine WPA.dec ?_); first | refine orL ?_ | refine orR ?_) | ((first | refine WPA.ifBt ?_ ?_ | refine WPA.ifBnf ?_ ?_); assumption) | ((first | refine WPA.ifBnt ?_ ?_ | refine WPA.ifBf ?_ ?_); assumption) | ((first | refine WPA.ifs ?_ ?_ | refine WPA.ifB ?_ ?_) <;> intro hc))
  dsimp only at hM hM2 ⊢
  have hl := fun {L : List HP} => live_tr39 (I := R2 ++ (R ++ I)) (L := L) hT h0
  have hsm : ∀ {L : List HP}, Tr Tryz.prog 12 #[.agg #[.int .i64 fr, .slice wv.a wv.n wv.cap, .slice gv.a gv.n gv.cap], .agg #[.int .i64 fr, .slice wv2.a wv2.n wv2.cap, .slice gv2.a gv2.n gv2.cap]] (SL w0 (R2 ++ (R ++ I)) L) (fun _ : Unit => .bool true) (fun _ => SL w0 (R2 ++ (R ++ I)) L) := fun {L} => by
    have := rSame_trI (L := L) (w0 := w0) (fr := fr) (fr2 := fr) (hM.sub (J' := R2 ++ (R ++ I)) inferInstance) hM2 hfew hfew
    rw [decide_eq_true ⟨rfl, rfl, rfl⟩] at this
    exact this
  have e1 : decide (y1 = y1) = true := decide_eq_true rfl
  have e2 : decide (y2 = y2) = true := decide_eq_true rfl
  repeat' (first | ((rw [e1])) | ((rw [e2])) | ((first | refine WLA.m rfl rfl ?_ ?_ | refine WLA.st rfl ?_ ?_ | refine WLA.x rfl rfl ?_ (fun x => ?_) | refine WLA.x0 rfl ?_ (fun x => ?_)); first | exact sdT | skip) | (refine Stp.go ?_) | (guard_target =~ WLA _ _ _ _ _ (⟨_, .call ⟨.value (.func 12), _, _⟩, _, _, _, _⟩ :: _) _ _; refine WLA.call rfl rfl (hsm) ?_; rintro ⟨⟩) | (guard_target =~ WLA _ _ _ _ _ (⟨_, .call ⟨.value (.func 7), _, _⟩, _, _, _, _⟩ :: _) _ _; refine WLA.call rfl rfl (hl) ?_; rintro ⟨⟩) | (refine WPA.ifT ?_) | (refine WPA.ifF ?_) | (refine WLA.no rfl rfl ?_) | ((first | refine WPA.dec ?_ | ((fail_if_success (guard_target =~ WLA _ _ _ _ _ _ (put1 _ _ (.bool true)) _)); (fail_if_success (guard_target =~ WLA _ _ _ _ _ _ (put1 _ _ (.bool false)) _)); refine WLA.dec rfl rfl ?_) | refine WLA.pk ?_); first | refine orL ?_ | refine orR ?_) | ((first | refine WPA.ifBt ?_ ?_ | refine WPA.ifBnf ?_ ?_); assumption) | ((first | refine WPA.ifBnt ?_ ?_ | refine WPA.ifBf ?_ ?_); assumption) | ((first | refine WPA.ifs ?_ ?_ | refine WPA.ifB ?_ ?_) <;> intro hc) | ((fail_if_success (guard_target =~ WLA _ _ _ _ _ _ (put1 _ _ (.bool true)) _)); (fail_if_success (guard_target =~ WLA _ _ _ _ _ _ (put1 _ _ (.bool false)) _)); (first | refine WLA.both rfl rfl ?_ ?_ | refine WLA.bothB rfl rfl ?_ ?_) <;> intro hg))
  exact QQ.end_ rfl () rfl fun w h => (SL.unI (SL.unI h)).to
theorem ArpaParses_law (W : World) (hT : TabP W) (s : ByteArray) (hs : gStr W s) : Calls Tryz.prog 4 #[.string s] W fun e w' => e = .returned (.bool true) ∧ Below W.heap.size W w' :=
  Calls.below0 (ArpaParses_tr (tab0 hT) rfl)
end
end Go.Proofs.YthkhneimfjaohaaGreatDoor
