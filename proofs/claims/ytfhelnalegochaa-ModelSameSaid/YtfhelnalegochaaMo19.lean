/- Models that are the same: what they tell; the reference. Conditions: none. -/
import Derived.Test.YtfhelnalegochaaMo13
import Derived.Test.YtfhelnalegochaaMo17
import Derived.Test.YtfhelnalegochaaSlLoan
namespace Go.Proofs.Ytfhelnalegochaa
open Go Go.Fw Go.RowKit
set_option linter.unusedVariables false
set_option linter.unusedSimpArgs false
set_option maxRecDepth 100000
set_option maxHeartbeats 16000000
set_option synthInstance.maxHeartbeats 200000
set_option synthInstance.maxSize 100000
attribute [local irreducible] WPA WLA WDA WDQ WDE QQ seqQ blockQ loopQ fnQ OpP OpT Tr TrP SL SLd OwnS LitS Bk BkE Ob
attribute [local irreducible] TblH VocH
abbrev EV := (Int × Int) × List Int
/-- A list of entries that is there for good, and what it tells. -/
def LstE (J : Foot) (v : SV) (es : List EV) : Prop := ∃ cs : List En, SlI J v En inferInstance cs ∧ cs.map Prod.snd = es.map Prod.fst ∧ ∀ i : Nat, i < cs.length → SlI J (at_ cs (i : Int)).1 Int inferInstance (es.getD i ((0, 0), [])).2
/-- A model that is there for good, and what it tells. -/
def MdL (J : Foot) (w g : SV) (ws : List ByteArray) (A : List (List EV)) : Prop := SlI J w ByteArray inferInstance ws ∧ ∃ gr : List SV, SlI J g SV inferInstance gr ∧ gr.length = A.length ∧ ∀ k : Nat, k < A.length → LstE J (at_ gr (k : Int)) (A.getD k [])
theorem LstE.sub {J J' : Foot} {v : SV} {es : List EV} (h : LstE J v es) (hs : SubI J' J) : LstE J' v es := by
  obtain ⟨cs, h1, h2, h3⟩ := h
  exact ⟨cs, h1.sub, h2, fun i hi => (h3 i hi).sub⟩
theorem MdL.sub {J J' : Foot} {w g : SV} {ws : List ByteArray} {A : List (List EV)} (h : MdL J w g ws A) (hs : SubI J' J) : MdL J' w g ws A := by
  obtain ⟨h0, gr, h1, h2, h3⟩ := h
  exact ⟨h0.sub, gr, h1.sub, h2, fun i hi => (h3 i hi).sub hs⟩
/-- The same, with names for what is read. -/
structure MdQ (J : Foot) (w g : SV) (ws : List ByteArray) (gr : List SV) (A : List (List EV)) : Prop where
  words : SlI J w ByteArray inferInstance ws
  grams : SlI J g SV inferInstance gr
  rows : ∀ h ∈ gr, SlI J h En inferInstance (rd En J h) ∧ EnG J (rd Int J) (rd En J h)
  cont : gr.map (fun h => enV (rd Int J) (rd En J h)) = A
theorem LstE.nst {J : Foot} {v : SV} {es : List EV} (h : LstE J v es) {w0 : World} {L : List HP} {w : World} (hw : SL w0 J L w) : (SlI J v En inferInstance (rd En J v) ∧ EnG J (rd Int J) (rd En J v)) ∧ enV (rd Int J) (rd En J v) = es := by
  obtain ⟨cs, k1, k2, k3⟩ := h
  have e := k1.rd.det k1 hw
  have e1 : cs.length = es.length := by have := congrArg List.length k2; simpa using this
  rw [e]
  refine ⟨⟨k1, fun p hp => ?_⟩, List.ext_getElem (by simp [enV, e1]) fun j j1 j2 => ?_⟩
  · obtain ⟨j, hj, rfl⟩ := List.getElem_of_mem hp
    have := k3 j hj
    rw [at_nat cs j hj] at this
    exact this.rd
  · unfold enV at j1 ⊢
    rw [List.length_map] at j1
    have q := k3 j j1
    rw [at_nat cs j j1, List.getD_eq_getElem?_getD, List.getElem?_eq_getElem j2, Option.getD_some] at q
    have q2 := congrArg (fun l => l[j]?) k2
    simp only [List.getElem?_map, List.getElem?_eq_getElem j1, List.getElem?_eq_getElem j2, Option.map_some] at q2
    rw [List.getElem_map]
    exact Prod.ext (by injection q2) (q.rd.det q hw)
theorem MdL.nst {J : Foot} {w g : SV} {ws : List ByteArray} {A : List (List EV)} (h : MdL J w g ws A) {w0 : World} {L : List HP} {u : World} (hw : SL w0 J L u) : ∃ gr, MdQ J w g ws gr A := by
  obtain ⟨h0, gr, h1, h2, h3⟩ := h
  refine ⟨gr, h0, h1, fun v hv => ?_, List.ext_getElem (by simp [h2]) fun i i1 i2 => ?_⟩
  · obtain ⟨i, hi, rfl⟩ := List.getElem_of_mem hv
    have := (h3 i (by omega)).nst hw
    rw [at_nat gr i hi] at this
    exact this.1
  · rw [List.length_map] at i1
    have := (h3 i (by omega)).nst hw
    rw [at_nat gr i i1, List.getD_eq_getElem?_getD, List.getElem?_eq_getElem i2, Option.getD_some] at this
    rw [List.getElem_map]
    exact this.2
theorem MdR.toL {J : Foot} {kg : SV → List Int} {re : SV → List En} {w g : SV} {ws : List ByteArray} {gr : List SV} (h : MdR J kg re w g ws gr) : MdL J w g ws (gr.map fun h => enV kg (re h)) := by
  refine ⟨h.words, gr, h.grams, by simp, fun k hk => ?_⟩
  rw [List.length_map] at hk
  have hm : at_ gr (k : Int) ∈ gr := by rw [at_nat gr k hk]; exact List.getElem_mem _
  rw [List.getD_eq_getElem?_getD, List.getElem?_map, List.getElem?_eq_getElem hk, ← at_nat gr k hk]
  refine ⟨re (at_ gr (k : Int)), h.rows _ hm, by unfold enV; simp [List.map_map, Function.comp_def], fun i hi => ?_⟩
  have hp := h.elems _ hm _ (List.getElem_mem hi)
  show SlI J _ Int _ ((enV kg (re (at_ gr (k : Int)))).getD i ((0, 0), [])).2
  unfold enV
  rw [List.getD_eq_getElem?_getD, List.getElem?_map, List.getElem?_eq_getElem hi, at_nat _ i hi]
  exact hp
def FewA (ws : List ByteArray) (A : List (List EV)) : Prop := (ws.length ≤ 1000000 ∧ A.length ≤ 1000000) ∧ ∀ es ∈ A, es.length ≤ 1000000 ∧ ∀ e ∈ es, e.2.length ≤ 1000000
section
variable {L : List HP} {w0 : World} {I : Foot}
theorem MdQ.at {w g : SV} {ws : List ByteArray} {gr : List SV} {A : List (List EV)} (h : MdQ I w g ws gr A) (f : FewA ws A) {i : Nat} (hi : i < gr.length) :
    (SlI I (at_ gr (i : Int)) En inferInstance (rd En I (at_ gr (i : Int))) ∧ EnG I (rd Int I) (rd En I (at_ gr (i : Int)))) ∧ A[i]? = some (enV (rd Int I) (rd En I (at_ gr (i : Int)))) ∧ (rd En I (at_ gr (i : Int))).length ≤ 1000000 ∧ ∀ p ∈ rd En I (at_ gr (i : Int)), (rd Int I p.1).length ≤ 1000000 := by
  have hm : at_ gr (i : Int) ∈ gr := by rw [at_nat gr i hi]; exact List.getElem_mem _
  have hc : A[i]? = some (enV (rd Int I) (rd En I (at_ gr (i : Int)))) := by rw [← h.cont, List.getElem?_map, List.getElem?_eq_getElem hi, at_nat gr i hi]; rfl
  obtain ⟨f1, f2⟩ := f.2 _ (List.mem_of_getElem? hc)
  refine ⟨h.rows _ hm, hc, by simpa [enV] using f1, fun p hp => ?_⟩
  exact f2 (p.2, rd Int I p.1) (List.mem_map.2 ⟨p, hp, rfl⟩)
theorem MdQ.len {w g : SV} {ws : List ByteArray} {gr : List SV} {A : List (List EV)} (h : MdQ I w g ws gr A) : gr.length = A.length := by rw [← h.cont, List.length_map]
theorem rSame_trQ {w g w2 g2 : SV} {ws ws2 : List ByteArray} {gr gr2 : List SV} {A B : List (List EV)} {fr fr2 : Int} (ha : MdQ I w g ws gr A) (hb : MdQ I w2 g2 ws2 gr2 B) (fa : FewA ws A) (fb : FewA ws2 B) :
    Tr Try.prog 64 #[.agg #[.int .i64 fr, .slice w.a w.n w.cap, .slice g.a g.n g.cap], .agg #[.int .i64 fr2, .slice w2.a w2.n w2.cap, .slice g2.a g2.n g2.cap]] (SL w0 I L) (fun _ : Unit => .bool (decide (fr = fr2 ∧ ws = ws2 ∧ A = B))) (fun _ => SL w0 I L) := by
  refine Tr.intro Try.func64 rfl Try.ntmps64 rfl ?_
  have h1 := ha.words
  have h2 := hb.words
  have h3 := ha.grams
  have h4 := hb.grams
  have hwl : ws.length ≤ 1000000000 := by have := fa.1.1; omega
  have hga := ha.len
  have hgb := hb.len
  have hgl : gr.length ≤ 1000000 := by have := fa.1.2; omega
  have no : ¬ (fr = fr2 ∧ ws = ws2 ∧ A = B) → decide (fr = fr2 ∧ ws = ws2 ∧ A = B) = false := decide_eq_false
  by_cases c1 : fr = fr2
  · have c1' : ¬ fr ≠ fr2 := fun h => h c1
    by_cases c2 : gr.length = gr2.length
    · have c2' : ¬ (gr.length : Int) ≠ gr2.length := by omega
      by_cases c3 : ws = ws2
      · have c3' : ¬ ¬ ws = ws2 := fun h => h c3
        repeat' (first | ((first | refine WLA.m rfl rfl ?_ ?_ | refine WLA.st rfl ?_ ?_ | refine WLA.x rfl rfl ?_ (fun x => ?_) | refine WLA.x0 rfl ?_ (fun x => ?_)); first | exact trivial | exact rfl | assumption | omega | (refine ⟨?_, ?_⟩ <;> omega) | (simp only [Room, List.length_set, List.length_append, List.length_cons, List.length_nil, List.length_replicate]; omega) | decide | skip) | (refine Stp.go ?_) | (guard_target =~ WLA _ _ _ _ _ (⟨_, .call ⟨.value (.func 35), _, _⟩, _, _, _, _⟩ :: _) _ _; refine WLA.cq rfl rfl (Same_tr hwl) ?_) | (refine WPA.ifT ?_) | (refine WPA.ifF ?_) | (refine WLA.no rfl rfl ?_) | ((first | refine WPA.dec ?_ | ((fail_if_success (guard_target =~ WLA _ _ _ _ _ _ (put1 _ _ (.bool true)) _)); (fail_if_success (guard_target =~ WLA _ _ _ _ _ _ (put1 _ _ (.bool false)) _)); refine WLA.dec rfl rfl ?_) | refine WLA.pk ?_); first | refine .inl ⟨by first | assumption | omega | with_reducible rfl | (refine fun h => h ?_; first | assumption | with_reducible rfl) | (simp only [List.length_append, List.length_cons, List.length_nil, List.length_set] <;> omega) | decide, ?_⟩ | refine .inr ⟨by first | assumption | omega | with_reducible rfl | (refine fun h => h ?_; first | assumption | with_reducible rfl) | (simp only [List.length_append, List.length_cons, List.length_nil, List.length_set] <;> omega) | decide, ?_⟩) | ((first | refine WPA.ifBt ?_ ?_ | refine WPA.ifBnf ?_ ?_); assumption) | ((first | refine WPA.ifBnt ?_ ?_ | refine WPA.ifBf ?_ ?_); assumption) | ((first | refine WPA.ifs ?_ ?_ | refine WPA.ifB ?_ ?_) <;> intro hc) | ((fail_if_success (guard_target =~ WLA _ _ _ _ _ _ (put1 _ _ (.bool true)) _)); (fail_if_success (guard_target =~ WLA _ _ _ _ _ _ (put1 _ _ (.bool false)) _)); (first | refine WLA.both rfl rfl ?_ ?_ | refine WLA.bothB rfl rfl ?_ ?_) <;> intro hg))
        rename_i t2
        revert x; intro t3
        refine WPA.loopS (σ := Nat) (fun i => [(2, .pointer (some ⟨t2, 0, none⟩)), (3, .pointer (some ⟨t3, 0, none⟩)), (5, .int .i64 i)]) (fun i => i ≤ gr.length ∧ A.take i = B.take i)
          (fun _ => SL w0 I (Bk t3 58 [.int .i64 fr2, .slice w2.a w2.n w2.cap, .slice g2.a g2.n g2.cap] :: Bk t2 58 [.int .i64 fr, .slice w.a w.n w.cap, .slice g.a g.n g.cap] :: L)) (fun i => gr.length - i) 0 ⟨rfl, rfl, rfl, trivial⟩ ⟨Nat.zero_le _, rfl⟩ (fun w h => h.to) ?_
        rintro i ρ ⟨hi, he⟩
        by_cases hlt : i < gr.length
        · have hlt' : (i : Int) < gr.length := by omega
          have hlt2 : (i : Int) < gr2.length := by omega
          obtain ⟨⟨p1, p2⟩, p3, p4, p5⟩ := ha.at fa hlt
          obtain ⟨⟨q1, q2⟩, q3, q4, q5⟩ := hb.at fb (show i < gr2.length by omega)
          generalize rd En I (at_ gr (i : Int)) = xs at p1 p2 p3 p4 p5
          generalize rd En I (at_ gr2 (i : Int)) = ys at q1 q2 q3 q4 q5
          have hp5 : ∀ p ∈ xs, (rd Int I p.1).length ≤ 1000000000 := fun p hp => by have := p5 p hp; omega
          by_cases c4 : enV (rd Int I) xs = enV (rd Int I) ys
          · have c4' : ¬ ¬ enV (rd Int I) xs = enV (rd Int I) ys := fun h => h c4
            repeat' (first | ((first | refine WLA.m rfl rfl ?_ ?_ | refine WDQ.m rfl rfl ?_ ?_ | refine WLA.st rfl ?_ ?_ | refine WLA.x rfl rfl ?_ (fun x => ?_) | refine WLA.x0 rfl ?_ (fun x => ?_)); first | exact trivial | exact rfl | assumption | omega | (refine ⟨?_, ?_⟩ <;> omega) | (simp only [Room, List.length_set, List.length_append, List.length_cons, List.length_nil, List.length_replicate]; omega) | decide | skip) | (refine Stp.go ?_) | (guard_target =~ WLA _ _ _ _ _ (⟨_, .call ⟨.value (.func 45), _, _⟩, _, _, _, _⟩ :: _) _ _; refine WLA.cq rfl rfl (Entries_tr (fun p hp ↦ RdS.imm (h := p2 p hp)) (fun p hp ↦ RdS.imm (h := q2 p hp)) (by omega) hp5) ?_) | (refine WPA.ifT ?_) | (refine WPA.ifF ?_) | ((first | refine WPA.dec ?_); first | refine .inl ⟨by first | assumption | omega | with_reducible rfl | (refine fun h => h ?_; first | assumption | with_reducible rfl) | (simp only [List.length_append, List.length_cons, List.length_nil, List.length_set] <;> omega) | decide, ?_⟩ | refine .inr ⟨by first | assumption | omega | with_reducible rfl | (refine fun h => h ?_; first | assumption | with_reducible rfl) | (simp only [List.length_append, List.length_cons, List.length_nil, List.length_set] <;> omega) | decide, ?_⟩) | ((first | refine WPA.ifBt ?_ ?_ | refine WPA.ifBnf ?_ ?_); assumption) | ((first | refine WPA.ifBnt ?_ ?_ | refine WPA.ifBf ?_ ?_); assumption) | ((first | refine WPA.ifs ?_ ?_ | refine WPA.ifB ?_ ?_) <;> intro hc) | (guard_target =~ WPA _ _ _ (.region 6 _ true) _ _ _; refine WPA.drawT 10 (.q 0 (.q 1 (.q 2 (.q 3 (.q 4 (.q 5 (.q 6 (.q 7 (.q 8 (.q 9 .fin)))))))))) mixed ?_ ?_; kernel_rfl) | (refine WDA.finish (tl := [⟨_, _, _, _, _, _⟩, ⟨_, _, _, _, _, _⟩]) rfl ?_) | (refine WDQ.see rfl ?_) | (guard_target =~ WDQ _ _ _ _ _ _ _ ⟨_, .call ⟨.value (.func 45), _, _⟩, _, _, _, _⟩ _ _ _; refine WDQ.cq rfl rfl (Entries_tr (fun p hp ↦ RdS.imm (h := p2 p hp)) (fun p hp ↦ RdS.imm (h := q2 p hp)) (by omega) hp5) ?_))
            exact QQ.loopS (i + 1) ⟨rfl, rfl, rfl, trivial⟩ ⟨hlt, by rw [List.take_add_one, List.take_add_one, he, p3, q3, c4]⟩ (by omega) (fun w h => h.to)
          · skip
            repeat' (first | ((first | refine WLA.m rfl rfl ?_ ?_ | refine WDQ.m rfl rfl ?_ ?_ | refine WLA.st rfl ?_ ?_ | refine WLA.x rfl rfl ?_ (fun x => ?_) | refine WLA.x0 rfl ?_ (fun x => ?_)); first | exact trivial | exact rfl | assumption | omega | (refine ⟨?_, ?_⟩ <;> omega) | (simp only [Room, List.length_set, List.length_append, List.length_cons, List.length_nil, List.length_replicate]; omega) | decide | skip) | (refine Stp.go ?_) | (guard_target =~ WLA _ _ _ _ _ (⟨_, .call ⟨.value (.func 45), _, _⟩, _, _, _, _⟩ :: _) _ _; refine WLA.cq rfl rfl (Entries_tr (fun p hp ↦ RdS.imm (h := p2 p hp)) (fun p hp ↦ RdS.imm (h := q2 p hp)) (by omega) hp5) ?_) | (refine WPA.ifT ?_) | (refine WPA.ifF ?_) | ((first | refine WPA.dec ?_); first | refine .inl ⟨by first | assumption | omega | with_reducible rfl | (refine fun h => h ?_; first | assumption | with_reducible rfl) | (simp only [List.length_append, List.length_cons, List.length_nil, List.length_set] <;> omega) | decide, ?_⟩ | refine .inr ⟨by first | assumption | omega | with_reducible rfl | (refine fun h => h ?_; first | assumption | with_reducible rfl) | (simp only [List.length_append, List.length_cons, List.length_nil, List.length_set] <;> omega) | decide, ?_⟩) | ((first | refine WPA.ifBt ?_ ?_ | refine WPA.ifBnf ?_ ?_); assumption) | ((first | refine WPA.ifBnt ?_ ?_ | refine WPA.ifBf ?_ ?_); assumption) | ((first | refine WPA.ifs ?_ ?_ | refine WPA.ifB ?_ ?_) <;> intro hc) | (guard_target =~ WPA _ _ _ (.region 6 _ true) _ _ _; refine WPA.drawT 10 (.q 0 (.q 1 (.q 2 (.q 3 (.q 4 (.q 5 (.q 6 (.q 7 (.q 8 (.q 9 .fin)))))))))) mixed ?_ ?_; kernel_rfl) | (refine WDA.finish (tl := [⟨_, _, _, _, _, _⟩, ⟨_, _, _, _, _, _⟩]) rfl ?_) | (refine WDQ.see rfl ?_) | (guard_target =~ WDQ _ _ _ _ _ _ _ ⟨_, .call ⟨.value (.func 45), _, _⟩, _, _, _, _⟩ _ _ _; refine WDQ.cq rfl rfl (Entries_tr (fun p hp ↦ RdS.imm (h := p2 p hp)) (fun p hp ↦ RdS.imm (h := q2 p hp)) (by omega) hp5) ?_))
            exact QQ.end_ rfl () (by rw [no fun h => c4 (by have e := h.2.2; rw [e, q3] at p3; injection p3 with p3; exact p3.symm)]) fun w h => h.to
        · have hlt' : ¬ (i : Int) < gr.length := by omega
          rw [List.take_of_length_le (by omega), List.take_of_length_le (by omega)] at he
          repeat' (first | ((first | refine WLA.m rfl rfl ?_ ?_ | refine WLA.st rfl ?_ ?_ | refine WLA.x rfl rfl ?_ (fun x => ?_) | refine WLA.x0 rfl ?_ (fun x => ?_)); first | exact trivial | exact rfl | assumption | omega | (refine ⟨?_, ?_⟩ <;> omega) | (simp only [Room, List.length_set, List.length_append, List.length_cons, List.length_nil, List.length_replicate]; omega) | decide | skip) | (refine Stp.go ?_) | (refine WPA.ifT ?_) | (refine WPA.ifF ?_) | ((first | refine WPA.dec ?_); first | refine .inl ⟨by first | assumption | omega | with_reducible rfl | (refine fun h => h ?_; first | assumption | with_reducible rfl) | (simp only [List.length_append, List.length_cons, List.length_nil, List.length_set] <;> omega) | decide, ?_⟩ | refine .inr ⟨by first | assumption | omega | with_reducible rfl | (refine fun h => h ?_; first | assumption | with_reducible rfl) | (simp only [List.length_append, List.length_cons, List.length_nil, List.length_set] <;> omega) | decide, ?_⟩) | ((first | refine WPA.ifBt ?_ ?_ | refine WPA.ifBnf ?_ ?_); assumption) | ((first | refine WPA.ifBnt ?_ ?_ | refine WPA.ifBf ?_ ?_); assumption) | ((first | refine WPA.ifs ?_ ?_ | refine WPA.ifB ?_ ?_) <;> intro hc))
          exact QQ.end_ rfl () (by rw [decide_eq_true ⟨c1, c3, he⟩]) fun w h => h.to
      · skip
        repeat' (first | ((first | refine WLA.m rfl rfl ?_ ?_ | refine WLA.st rfl ?_ ?_ | refine WLA.x rfl rfl ?_ (fun x => ?_) | refine WLA.x0 rfl ?_ (fun x => ?_)); first | exact trivial | exact rfl | assumption | omega | (refine ⟨?_, ?_⟩ <;> omega) | (simp only [Room, List.length_set, List.length_append, List.length_cons, List.length_nil, List.length_replicate]; omega) | decide | skip) | (refine Stp.go ?_) | (guard_target =~ WLA _ _ _ _ _ (⟨_, .call ⟨.value (.func 35), _, _⟩, _, _, _, _⟩ :: _) _ _; refine WLA.cq rfl rfl (Same_tr hwl) ?_) | (refine WPA.ifT ?_) | (refine WPA.ifF ?_) | (refine WLA.no rfl rfl ?_) | ((first | refine WPA.dec ?_ | ((fail_if_success (guard_target =~ WLA _ _ _ _ _ _ (put1 _ _ (.bool true)) _)); (fail_if_success (guard_target =~ WLA _ _ _ _ _ _ (put1 _ _ (.bool false)) _)); refine WLA.dec rfl rfl ?_) | refine WLA.pk ?_); first | refine .inl ⟨by first | assumption | omega | with_reducible rfl | (refine fun h => h ?_; first | assumption | with_reducible rfl) | (simp only [List.length_append, List.length_cons, List.length_nil, List.length_set] <;> omega) | decide, ?_⟩ | refine .inr ⟨by first | assumption | omega | with_reducible rfl | (refine fun h => h ?_; first | assumption | with_reducible rfl) | (simp only [List.length_append, List.length_cons, List.length_nil, List.length_set] <;> omega) | decide, ?_⟩) | ((first | refine WPA.ifBt ?_ ?_ | refine WPA.ifBnf ?_ ?_); assumption) | ((first | refine WPA.ifBnt ?_ ?_ | refine WPA.ifBf ?_ ?_); assumption) | ((first | refine WPA.ifs ?_ ?_ | refine WPA.ifB ?_ ?_) <;> intro hc) | ((fail_if_success (guard_target =~ WLA _ _ _ _ _ _ (put1 _ _ (.bool true)) _)); (fail_if_success (guard_target =~ WLA _ _ _ _ _ _ (put1 _ _ (.bool false)) _)); (first | refine WLA.both rfl rfl ?_ ?_ | refine WLA.bothB rfl rfl ?_ ?_) <;> intro hg))
        exact QQ.end_ rfl () (by rw [no fun h => c3 h.2.1]) fun w h => h.to
    · have c2' : (gr.length : Int) ≠ gr2.length := by omega
      repeat' (first | ((first | refine WLA.m rfl rfl ?_ ?_ | refine WLA.st rfl ?_ ?_ | refine WLA.x rfl rfl ?_ (fun x => ?_) | refine WLA.x0 rfl ?_ (fun x => ?_)); first | exact trivial | exact rfl | assumption | omega | (refine ⟨?_, ?_⟩ <;> omega) | (simp only [Room, List.length_set, List.length_append, List.length_cons, List.length_nil, List.length_replicate]; omega) | decide | skip) | (refine Stp.go ?_) | (refine WPA.ifT ?_) | (refine WPA.ifF ?_) | (refine WLA.no rfl rfl ?_) | ((first | refine WPA.dec ?_ | ((fail_if_success (guard_target =~ WLA _ _ _ _ _ _ (put1 _ _ (.bool true)) _)); (fail_if_success (guard_target =~ WLA _ _ _ _ _ _ (put1 _ _ (.bool false)) _)); refine WLA.dec rfl rfl ?_) | refine WLA.pk ?_); first | refine .inl ⟨by first | assumption | omega | with_reducible rfl | (refine fun h => h ?_; first | assumption | with_reducible rfl) | (simp only [List.length_append, List.length_cons, List.length_nil, List.length_set] <;> omega) | decide, ?_⟩ | refine .inr ⟨by first | assumption | omega | with_reducible rfl | (refine fun h => h ?_; first | assumption | with_reducible rfl) | (simp only [List.length_append, List.length_cons, List.length_nil, List.length_set] <;> omega) | decide, ?_⟩) | ((first | refine WPA.ifBt ?_ ?_ | refine WPA.ifBnf ?_ ?_); assumption) | ((first | refine WPA.ifBnt ?_ ?_ | refine WPA.ifBf ?_ ?_); assumption) | ((first | refine WPA.ifs ?_ ?_ | refine WPA.ifB ?_ ?_) <;> intro hc) | ((fail_if_success (guard_target =~ WLA _ _ _ _ _ _ (put1 _ _ (.bool true)) _)); (fail_if_success (guard_target =~ WLA _ _ _ _ _ _ (put1 _ _ (.bool false)) _)); (first | refine WLA.both rfl rfl ?_ ?_ | refine WLA.bothB rfl rfl ?_ ?_) <;> intro hg))
      exact QQ.end_ rfl () (by rw [no fun h => c2 (by rw [hga, hgb, h.2.2])]) fun w h => h.to
  · skip
    repeat' (first | ((first | refine WLA.m rfl rfl ?_ ?_ | refine WLA.st rfl ?_ ?_ | refine WLA.x rfl rfl ?_ (fun x => ?_) | refine WLA.x0 rfl ?_ (fun x => ?_)); first | exact trivial | exact rfl | assumption | omega | (refine ⟨?_, ?_⟩ <;> omega) | (simp only [Room, List.length_set, List.length_append, List.length_cons, List.length_nil, List.length_replicate]; omega) | decide | skip) | (refine Stp.go ?_) | (refine WPA.ifT ?_) | (refine WPA.ifF ?_) | (refine WLA.no rfl rfl ?_) | ((first | refine WPA.dec ?_ | ((fail_if_success (guard_target =~ WLA _ _ _ _ _ _ (put1 _ _ (.bool true)) _)); (fail_if_success (guard_target =~ WLA _ _ _ _ _ _ (put1 _ _ (.bool false)) _)); refine WLA.dec rfl rfl ?_) | refine WLA.pk ?_); first | refine .inl ⟨by first | assumption | omega | with_reducible rfl | (refine fun h => h ?_; first | assumption | with_reducible rfl) | (simp only [List.length_append, List.length_cons, List.length_nil, List.length_set] <;> omega) | decide, ?_⟩ | refine .inr ⟨by first | assumption | omega | with_reducible rfl | (refine fun h => h ?_; first | assumption | with_reducible rfl) | (simp only [List.length_append, List.length_cons, List.length_nil, List.length_set] <;> omega) | decide, ?_⟩) | ((first | refine WPA.ifBt ?_ ?_ | refine WPA.ifBnf ?_ ?_); assumption) | ((first | refine WPA.ifBnt ?_ ?_ | refine WPA.ifBf ?_ ?_); assumption) | ((first | refine WPA.ifs ?_ ?_ | refine WPA.ifB ?_ ?_) <;> intro hc) | ((fail_if_success (guard_target =~ WLA _ _ _ _ _ _ (put1 _ _ (.bool true)) _)); (fail_if_success (guard_target =~ WLA _ _ _ _ _ _ (put1 _ _ (.bool false)) _)); (first | refine WLA.both rfl rfl ?_ ?_ | refine WLA.bothB rfl rfl ?_ ?_) <;> intro hg))
    exact QQ.end_ rfl () (by rw [no fun h => c1 h.1]) fun w h => h.to
end
end Go.Proofs.Ytfhelnalegochaa
