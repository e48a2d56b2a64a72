/- Texts that PruneModels_law leans on, part 17. Conditions: none. -/
import Derived.Test.YtcomkdndddkbeaaPt16
namespace Go.Proofs.Ytcomkdndddkbeaa
open Go Go.Fw Go.RowKit
set_option linter.unusedVariables false
set_option linter.unusedSimpArgs false
set_option maxRecDepth 100000
set_option maxHeartbeats 16000000
set_option synthInstance.maxHeartbeats 200000
set_option synthInstance.maxSize 100000
attribute [local irreducible] WPA WLA WDA WDQ WDE QQ seqQ blockQ loopQ fnQ OpP OpT Tr TrP SL SLd OwnS LitS Bk BkE Ob
attribute [local irreducible] RowH RowsE RowE ClM
section
structure KS where
  k : Nat
  og : SV
  vs : List SV
end
section
structure IS where
  i : Nat
  cur : SV
  cs : List En
end
section
variable {L : List HP} {w0 : World} {I : Foot}
theorem mClone_trQ {w g : SV} {ws : List ByteArray} {gr : List SV} {A : List (List EV)} {fr : Int} (ha : MdQ I w g ws gr A) (fa : FewA ws A) :
    Tr Try.prog 28 #[.agg #[.int .i64 fr, .slice w.a w.n w.cap, .slice g.a g.n g.cap]] (SL w0 I L) (fun x : SV × SV => .agg #[.int .i64 fr, .slice x.1.a x.1.n x.1.cap, .slice x.2.a x.2.n x.2.cap]) (fun x => SL w0 I (ClM x.1 (x.2, ws, A) :: L)) := by
  refine Tr.intro Try.func28 rfl Try.ntmps28 rfl ?_
  have h1 := ha.words
  have h3 := ha.grams
  have hwl : ws.length ≤ 1000000 := fa.1.1
  have hga := ha.len
  have hgl : gr.length ≤ 1000000 := by have := fa.1.2; omega
  repeat' (first | ((first | refine WLA.m rfl rfl ?_ ?_ | refine WLA.st rfl ?_ ?_ | refine WLA.x rfl rfl ?_ (fun x => ?_) | refine WLA.x0 rfl ?_ (fun x => ?_)); first | exact trivial | exact rfl | assumption | omega | (refine ⟨?_, ?_⟩ <;> omega) | (simp only [Room, List.length_set, List.length_append, List.length_cons, List.length_nil, List.length_replicate]; omega) | decide | skip) | (refine Stp.go ?_) | (refine WPA.ifT ?_) | (refine WPA.ifF ?_) | ((first | refine WPA.dec ?_); first | refine .inl ⟨by first | assumption | omega | with_reducible rfl | (refine fun h => h ?_; first | assumption | with_reducible rfl) | (simp only [List.length_append, List.length_cons, List.length_nil, List.length_set] <;> omega) | decide, ?_⟩ | refine .inr ⟨by first | assumption | omega | with_reducible rfl | (refine fun h => h ?_; first | assumption | with_reducible rfl) | (simp only [List.length_append, List.length_cons, List.length_nil, List.length_set] <;> omega) | decide, ?_⟩) | ((first | refine WPA.ifBt ?_ ?_ | refine WPA.ifBnf ?_ ?_); assumption) | ((first | refine WPA.ifBnt ?_ ?_ | refine WPA.ifBf ?_ ?_); assumption) | ((first | refine WPA.ifs ?_ ?_ | refine WPA.ifB ?_ ?_) <;> intro hc))
  rename_i t1
  revert x; intro t2
  refine WPA.freezeBk (b := t1) ?_
  repeat' (first | ((first | refine WLA.m rfl rfl ?_ ?_ | refine WDQ.m rfl rfl ?_ ?_ | refine WLA.st rfl ?_ ?_ | refine WLA.x rfl rfl ?_ (fun x => ?_) | refine WLA.x0 rfl ?_ (fun x => ?_)); first | exact trivial | exact rfl | assumption | omega | (refine ⟨?_, ?_⟩ <;> omega) | (simp only [Room, List.length_set, List.length_append, List.length_cons, List.length_nil, List.length_replicate]; omega) | decide | skip) | (refine Stp.go ?_) | (guard_target =~ WLA _ _ _ _ _ (⟨_, .call ⟨.value (.func 48), _, _⟩, _, _, _, _⟩ :: _) _ _; first | (refine WLA.call rfl rfl (CloneS_tr hwl) ?_; rintro w') | (refine WLA.call0 rfl (CloneS_tr hwl) ?_; rintro w')) | (refine WPA.ifT ?_) | (refine WPA.ifF ?_) | ((first | refine WPA.dec ?_); first | refine .inl ⟨by first | assumption | omega | with_reducible rfl | (refine fun h => h ?_; first | assumption | with_reducible rfl) | (simp only [List.length_append, List.length_cons, List.length_nil, List.length_set] <;> omega) | decide, ?_⟩ | refine .inr ⟨by first | assumption | omega | with_reducible rfl | (refine fun h => h ?_; first | assumption | with_reducible rfl) | (simp only [List.length_append, List.length_cons, List.length_nil, List.length_set] <;> omega) | decide, ?_⟩) | ((first | refine WPA.ifBt ?_ ?_ | refine WPA.ifBnf ?_ ?_); assumption) | ((first | refine WPA.ifBnt ?_ ?_ | refine WPA.ifBf ?_ ?_); assumption) | ((first | refine WPA.ifs ?_ ?_ | refine WPA.ifB ?_ ?_) <;> intro hc) | (guard_target =~ WPA _ _ _ (.region 1 _ true) _ _ _; refine WPA.drawT 7 (.q 0 (.q 1 (.q 2 (.q 3 (.b false 4 (.q 5 (.e 6 .fin)) false 6 (.e 4 (.q 5 .fin))))))) mixed ?_ ?_; kernel_rfl) | (refine WDA.finish (tl := [⟨_, _, _, _, _, _⟩]) rfl ?_) | (refine WDQ.see rfl ?_) | (first | (refine WDA.two rfl rfl ?_ ?_) | (refine WDA.twoL rfl rfl ?_ ?_) | (refine WDA.twoR rfl rfl ?_ ?_) | (refine WDA.twoW rfl rfl ?_ ?_)) | (refine WDE.see rfl ?_) | (refine WDE.alloc rfl rfl (fun w h => h) (fun x => ?_)) | (refine WDE.stE rfl ?_) | (refine WDE.x rfl rfl ?_ ?_ (fun x => ?_); rotate_left 1; (intro x w h; first | exact h | exact Ent.drop1.sl h | exact SL.unI h | exact SL.to h); rotate_left 1; first | exact trivial | exact rfl | assumption | omega | (refine ⟨?_, ?_⟩ <;> omega) | (simp only [Room, List.length_set, List.length_append, List.length_cons, List.length_nil, List.length_replicate]; omega) | decide | skip) | (guard_target =~ WDE _ _ _ _ _ _ _ ⟨_, .call ⟨.value (.func 48), _, _⟩, _, _, _, _⟩ _ _ _; refine WDE.call rfl rfl (CloneS_tr hwl) ?_ ?_; (intro x w h; first | exact h | exact Ent.drop1.sl h | exact SL.unI h | exact SL.to h); rintro w') | (guard_target =~ WDW _ _ _ _ _ _ _ ⟨_, .call ⟨.value (.func 48), _, _⟩, _, _, _, _⟩ _ _ _; refine WDW.call rfl rfl (CloneS_tr hwl) ?_; rintro w'))
  all_goals
    revert x; intro t3
    have g3 : SlI (BkI t1 25 [.int .i64 fr, .slice w.a w.n w.cap, .slice g.a g.n g.cap] ++ I) g SV inferInstance gr := inferInstance
    have hI : SubI (BkI t1 25 [.int .i64 fr, .slice w.a w.n w.cap, .slice g.a g.n g.cap] ++ I) I := inferInstance
    generalize BkI t1 25 [.int .i64 fr, .slice w.a w.n w.cap, .slice g.a g.n g.cap] ++ I = J at g3 hI
    refine WPA.loopS (σ := KS) (fun y => [(2, .pointer (some ⟨t2, 0, none⟩)), (3, .pointer (some ⟨t3, 0, none⟩)), (16, .slice g.a g.n g.cap), (17, .int .i64 gr.length), (18, .int .i64 y.k)]) (fun y => y.k ≤ gr.length ∧ y.vs.length = y.k)
      (fun y => SL w0 J (Bk t3 25 [.int .i64 fr, .slice w'.a w'.n w'.cap, .slice y.og.a y.og.n y.og.cap] :: OwnS 36 y.og y.vs :: RowsE y.vs (A.take y.k) :: OwnS 9 w' ws :: Bk t2 25 [.int .i64 0, .slice none 0 0, .slice none 0 0] :: L)) (fun y => gr.length - y.k) ⟨0, SV.nil, []⟩ ⟨rfl, rfl, rfl, rfl, rfl, trivial⟩ ⟨Nat.zero_le _, rfl⟩ (fun w h => ?_) ?_
    · have h2 := RowsE.nil.sl h
      show SL w0 J (Bk t3 25 [.int .i64 fr, .slice w'.a w'.n w'.cap, .slice none 0 0] :: OwnS 36 SV.nil ([] : List SV) :: RowsE [] [] :: OwnS 9 w' ws :: Bk t2 25 [.int .i64 0, .slice none 0 0, .slice none 0 0] :: L) w
      exact h2.to
    rintro ⟨k, og, vs⟩ ρ ⟨hk, hvl⟩
    dsimp only at hk hvl ⊢
    by_cases hlt : k < gr.length
    · have hlt' : (k : Int) < gr.length := by omega
      obtain ⟨⟨p1, p2⟩, p3, p4, p5⟩ := ha.at fa hlt
      have p1 := p1.sub (I' := J)
      have p2 : EnG J (rd Int I) (rd En I (at_ gr (k : Int))) := fun p hp => (p2 p hp).sub
      have hAk : A.take (k + 1) = A.take k ++ [enV (rd Int I) (rd En I (at_ gr (k : Int)))] := by rw [List.take_add_one, p3]; rfl
      have hvA : vs.length = (A.take k).length := by rw [List.length_take]; omega
      generalize rd En I (at_ gr (k : Int)) = xs at p1 p2 p3 p4 p5 hAk
      repeat' (first | ((first | refine WLA.m rfl rfl ?_ ?_ | refine WLA.st rfl ?_ ?_ | refine WLA.x rfl rfl ?_ (fun x => ?_) | refine WLA.x0 rfl ?_ (fun x => ?_)); first | exact trivial | exact rfl | assumption | omega | (refine ⟨?_, ?_⟩ <;> omega) | (simp only [Room, List.length_set, List.length_append, List.length_cons, List.length_nil, List.length_replicate]; omega) | decide | skip) | (refine Stp.go ?_) | (refine WPA.ifT ?_) | (refine WPA.ifF ?_) | ((first | refine WPA.dec ?_); first | refine .inl ⟨by first | assumption | omega | with_reducible rfl | (refine fun h => h ?_; first | assumption | with_reducible rfl) | (simp only [List.length_append, List.length_cons, List.length_nil, List.length_set] <;> omega) | decide, ?_⟩ | refine .inr ⟨by first | assumption | omega | with_reducible rfl | (refine fun h => h ?_; first | assumption | with_reducible rfl) | (simp only [List.length_append, List.length_cons, List.length_nil, List.length_set] <;> omega) | decide, ?_⟩) | ((first | refine WPA.ifBt ?_ ?_ | refine WPA.ifBnf ?_ ?_); assumption) | ((first | refine WPA.ifBnt ?_ ?_ | refine WPA.ifBf ?_ ?_); assumption) | ((first | refine WPA.ifs ?_ ?_ | refine WPA.ifB ?_ ?_) <;> intro hc))
      refine WPA.loopS (σ := IS) (fun y => [(2, .pointer (some ⟨t2, 0, none⟩)), (3, .pointer (some ⟨t3, 0, none⟩)), (16, .slice g.a g.n g.cap), (17, .int .i64 gr.length), (18, .int .i64 k), (6, .slice y.cur.a y.cur.n y.cur.cap), (22, .slice (at_ gr (k : Int)).a (at_ gr (k : Int)).n (at_ gr (k : Int)).cap), (23, .int .i64 xs.length), (24, .int .i64 y.i)])
        (fun y => (y.i ≤ xs.length ∧ y.cs.length = y.i) ∧ y.cs.map Prod.snd = (xs.take y.i).map Prod.snd)
        (fun y => SL w0 J (OwnS 54 y.cur y.cs :: RowH 3 (y.cs.map Prod.fst) ((xs.take y.i).map fun p => rd Int I p.1) :: Bk t3 25 [.int .i64 fr, .slice w'.a w'.n w'.cap, .slice og.a og.n og.cap] :: OwnS 36 og vs :: RowsE vs (A.take k) :: OwnS 9 w' ws :: Bk t2 25 [.int .i64 0, .slice none 0 0, .slice none 0 0] :: L)) (fun y => xs.length - y.i) ⟨0, SV.nil, []⟩ ⟨rfl, rfl, rfl, rfl, rfl, rfl, rfl, rfl, rfl, trivial⟩ ⟨⟨Nat.zero_le _, rfl⟩, rfl⟩ (fun w h => ?_) ?_
      · have h2 := (RowH.nil (α := Int) (e := 3)).sl h
        show SL w0 J (OwnS 54 SV.nil ([] : List En) :: RowH 3 [] ([] : List (List Int)) :: Bk t3 25 [.int .i64 fr, .slice w'.a w'.n w'.cap, .slice og.a og.n og.cap] :: OwnS 36 og vs :: RowsE vs (A.take k) :: OwnS 9 w' ws :: Bk t2 25 [.int .i64 0, .slice none 0 0, .slice none 0 0] :: L) w
        exact h2.to
      rintro ⟨i, cur, cs⟩ ρ ⟨⟨hi, hcl⟩, h5⟩
      dsimp only at hi hcl h5 ⊢
      by_cases hlt2 : i < xs.length
      · have hlt2' : (i : Int) < xs.length := by omega
        have ei := at_nat xs i hlt2
        have hm1 : at_ xs (i : Int) ∈ xs := by rw [ei]; exact List.getElem_mem _
        have k1 := p2 _ hm1
        have k5 := p5 _ hm1
        have ht1 : (xs.take (i + 1)).map (fun p => rd Int I p.1) = (xs.take i).map (fun p => rd Int I p.1) ++ [rd Int I (at_ xs (i : Int)).1] := by
          rw [List.take_add_one, List.getElem?_eq_getElem hlt2, ei, List.map_append]; rfl
        have hsn : (cs.map Prod.fst).length = ((xs.take i).map fun p => rd Int I p.1).length := by rw [List.length_map, List.length_map, List.length_take]; omega
        have hcs : ∀ g' : SV, (cs ++ [(g', (at_ xs (i : Int)).2)]).map Prod.snd = (xs.take (i + 1)).map Prod.snd := fun g' => by
          rw [List.map_append, h5, List.take_add_one, List.getElem?_eq_getElem hlt2, ei, List.map_append]; rfl
        generalize hP : at_ xs (i : Int) = p at k1 k5 hcs
        obtain ⟨pG, pP, pB⟩ := p
        dsimp only at k1 k5 hcs
        repeat' (first | ((rw [hP]; dsimp only)) | ((first | refine WLA.m rfl rfl ?_ ?_ | refine WDQ.m rfl rfl ?_ ?_ | refine WLA.st rfl ?_ ?_ | refine WLA.x rfl rfl ?_ (fun x => ?_) | refine WLA.x0 rfl ?_ (fun x => ?_)); first | exact trivial | exact rfl | assumption | omega | (refine ⟨?_, ?_⟩ <;> omega) | (simp only [Room, List.length_set, List.length_append, List.length_cons, List.length_nil, List.length_replicate]; omega) | decide | skip) | (refine Stp.go ?_) | (guard_target =~ WLA _ _ _ _ _ (⟨_, .call ⟨.value (.func 49), _, _⟩, _, _, _, _⟩ :: _) _ _; first | (refine WLA.call rfl rfl (Clone_tr k5) ?_; rintro g') | (refine WLA.call0 rfl (Clone_tr k5) ?_; rintro g')) | (refine WPA.ifT ?_) | (refine WPA.ifF ?_) | ((first | refine WPA.dec ?_); first | refine .inl ⟨by first | assumption | omega | with_reducible rfl | (refine fun h => h ?_; first | assumption | with_reducible rfl) | (simp only [List.length_append, List.length_cons, List.length_nil, List.length_set] <;> omega) | decide, ?_⟩ | refine .inr ⟨by first | assumption | omega | with_reducible rfl | (refine fun h => h ?_; first | assumption | with_reducible rfl) | (simp only [List.length_append, List.length_cons, List.length_nil, List.length_set] <;> omega) | decide, ?_⟩) | ((first | refine WPA.ifBt ?_ ?_ | refine WPA.ifBnf ?_ ?_); assumption) | ((first | refine WPA.ifBnt ?_ ?_ | refine WPA.ifBf ?_ ?_); assumption) | ((first | refine WPA.ifs ?_ ?_ | refine WPA.ifB ?_ ?_) <;> intro hc) | (guard_target =~ WPA _ _ _ (.region 9 _ true) _ _ _; refine WPA.drawT 10 (.q 0 (.q 1 (.q 2 (.q 4 (.q 5 (.q 6 (.q 7 (.e 3 (.q 8 (.e 9 .fin)))))))))) mixed ?_ ?_; kernel_rfl) | (refine WDA.finish (tl := [⟨_, _, _, _, _, _⟩, ⟨_, _, _, _, _, _⟩]) rfl ?_) | (refine WDQ.see rfl ?_) | (refine WDE.see rfl ?_) | (refine WDE.alloc rfl rfl (fun w h => h) (fun x => ?_)) | (refine WDE.stE rfl ?_) | (refine WDE.x rfl rfl ?_ ?_ (fun x => ?_); rotate_left 1; (intro x w h; first | exact h | exact Ent.drop1.sl h | exact SL.unI h | exact SL.to h); rotate_left 1; first | exact trivial | exact rfl | assumption | omega | (refine ⟨?_, ?_⟩ <;> omega) | (simp only [Room, List.length_set, List.length_append, List.length_cons, List.length_nil, List.length_replicate]; omega) | decide | skip) | (guard_target =~ WDE _ _ _ _ _ _ _ ⟨_, .call ⟨.value (.func 49), _, _⟩, _, _, _, _⟩ _ _ _; refine WDE.call rfl rfl (Clone_tr k5) ?_ ?_; (intro x w h; first | exact h | exact Ent.drop1.sl h | exact SL.unI h | exact SL.to h); rintro g') | (guard_target =~ WDW _ _ _ _ _ _ _ ⟨_, .call ⟨.value (.func 49), _, _⟩, _, _, _, _⟩ _ _ _; refine WDW.call rfl rfl (Clone_tr k5) ?_; rintro g'))
        all_goals
          refine QQ.loopS ⟨i + 1, x, cs ++ [(g', (pP, pB))]⟩ ⟨rfl, rfl, rfl, rfl, rfl, rfl, rfl, rfl, rfl, trivial⟩ ⟨⟨hlt2, by simp [hcl]⟩, hcs g'⟩ (by dsimp only; omega) (fun w h => ?_)
          have h2 := (RowH.snoc hsn).sl ((EntC.out (L' := OwnS 3 g' (rd Int I pG) :: RowH 3 (cs.map Prod.fst) ((xs.take i).map fun p => rd Int I p.1) :: OwnS 54 x (cs ++ [(g', (pP, pB))]) :: Bk t3 25 [.int .i64 fr, .slice w'.a w'.n w'.cap, .slice og.a og.n og.cap] :: OwnS 36 og vs :: RowsE vs (A.take k) :: OwnS 9 w' ws :: Bk t2 25 [.int .i64 0, .slice none 0 0, .slice none 0 0] :: L)).sl h)
          dsimp only
          rw [ht1, hP]
          simp only [List.map_append, List.map_cons, List.map_nil]
          exact h2.to
      · have hlt2' : ¬ (i : Int) < xs.length := by omega
        have hie : i = xs.length := by omega
        subst hie
        rw [List.take_length] at h5 ⊢
        refine WPA.ent (RowE.fold (es := enV (rd Int I) xs) (by rw [h5]; unfold enV; rw [List.map_map]; rfl) (by unfold enV; rw [List.map_map]; rfl)) ?_
        refine WPA.ent (EntC.out (L' := RowE cur (enV (rd Int I) xs) :: RowsE vs (A.take k) :: Bk t3 25 [.int .i64 fr, .slice w'.a w'.n w'.cap, .slice og.a og.n og.cap] :: OwnS 36 og vs :: OwnS 9 w' ws :: Bk t2 25 [.int .i64 0, .slice none 0 0, .slice none 0 0] :: L)) ?_
        refine WPA.ent (RowsE.snoc hvA) ?_
        rw [← hAk]
        repeat' (first | ((first | refine WLA.m rfl rfl ?_ ?_ | refine WLA.st rfl ?_ ?_ | refine WLA.x rfl rfl ?_ (fun x => ?_) | refine WLA.x0 rfl ?_ (fun x => ?_)); first | exact trivial | exact rfl | assumption | omega | (refine ⟨?_, ?_⟩ <;> omega) | (simp only [Room, List.length_set, List.length_append, List.length_cons, List.length_nil, List.length_replicate]; omega) | decide | skip) | (refine Stp.go ?_) | (refine WPA.ifT ?_) | (refine WPA.ifF ?_) | ((first | refine WPA.dec ?_); first | refine .inl ⟨by first | assumption | omega | with_reducible rfl | (refine fun h => h ?_; first | assumption | with_reducible rfl) | (simp only [List.length_append, List.length_cons, List.length_nil, List.length_set] <;> omega) | decide, ?_⟩ | refine .inr ⟨by first | assumption | omega | with_reducible rfl | (refine fun h => h ?_; first | assumption | with_reducible rfl) | (simp only [List.length_append, List.length_cons, List.length_nil, List.length_set] <;> omega) | decide, ?_⟩) | ((first | refine WPA.ifBt ?_ ?_ | refine WPA.ifBnf ?_ ?_); assumption) | ((first | refine WPA.ifBnt ?_ ?_ | refine WPA.ifBf ?_ ?_); assumption) | ((first | refine WPA.ifs ?_ ?_ | refine WPA.ifB ?_ ?_) <;> intro hc))
        exact QQ.loopS ⟨k + 1, x, vs ++ [cur]⟩ ⟨rfl, rfl, rfl, rfl, rfl, trivial⟩ ⟨hlt, by simp [hvl]⟩ (by dsimp only; omega) (fun w h => h.to)
    · have hlt' : ¬ (k : Int) < gr.length := by omega
      have hke : k = A.length := by omega
      subst hke
      rw [List.take_length]
      repeat' (first | ((first | refine WLA.m rfl rfl ?_ ?_ | refine WLA.st rfl ?_ ?_ | refine WLA.x rfl rfl ?_ (fun x => ?_) | refine WLA.x0 rfl ?_ (fun x => ?_)); first | exact trivial | exact rfl | assumption | omega | (refine ⟨?_, ?_⟩ <;> omega) | (simp only [Room, List.length_set, List.length_append, List.length_cons, List.length_nil, List.length_replicate]; omega) | decide | skip) | (refine Stp.go ?_) | (refine WPA.ifT ?_) | (refine WPA.ifF ?_) | ((first | refine WPA.dec ?_); first | refine .inl ⟨by first | assumption | omega | with_reducible rfl | (refine fun h => h ?_; first | assumption | with_reducible rfl) | (simp only [List.length_append, List.length_cons, List.length_nil, List.length_set] <;> omega) | decide, ?_⟩ | refine .inr ⟨by first | assumption | omega | with_reducible rfl | (refine fun h => h ?_; first | assumption | with_reducible rfl) | (simp only [List.length_append, List.length_cons, List.length_nil, List.length_set] <;> omega) | decide, ?_⟩) | ((first | refine WPA.ifBt ?_ ?_ | refine WPA.ifBnf ?_ ?_); assumption) | ((first | refine WPA.ifBnt ?_ ?_ | refine WPA.ifBf ?_ ?_); assumption) | ((first | refine WPA.ifs ?_ ?_ | refine WPA.ifB ?_ ?_) <;> intro hc))
      refine QQ.endc rfl (w', og) rfl fun w h => ?_
      have h2 := (EntC.out (L' := OwnS 9 w' ws :: OwnS 36 og vs :: RowsE vs A :: L)).sl h
      exact ((ClM.fold hvl).sl h2).sub hI.out
end
section
theorem mClone_trI {w g : SV} {ws : List ByteArray} {A : List (List EV)} {fr : Int} {L : List HP} {w0 : World} {I : Foot} (ha : MdL I w g ws A) (fa : FewA ws A) :
    Tr Try.prog 28 #[.agg #[.int .i64 fr, .slice w.a w.n w.cap, .slice g.a g.n g.cap]] (SL w0 I L) (fun x : SV × SV => .agg #[.int .i64 fr, .slice x.1.a x.1.n x.1.cap, .slice x.2.a x.2.n x.2.cap]) (fun x => SL w0 I (ClM x.1 (x.2, ws, A) :: L)) := by
  refine Tr.mk fun u hu => ?_
  obtain ⟨gr, hq⟩ := ha.nst hu
  exact (mClone_trQ hq fa).ap hu
end
end Go.Proofs.Ytcomkdndddkbeaa
namespace Go.Proofs.Ytcomkdndddkbeaa
open Go Go.Fw Go.RowKit
set_option linter.unusedVariables false
set_option linter.unusedSimpArgs false
set_option maxRecDepth 100000
set_option maxHeartbeats 16000000
set_option synthInstance.maxHeartbeats 200000
set_option synthInstance.maxSize 100000
attribute [local irreducible] WPA WLA WDA WDQ WDE QQ seqQ blockQ loopQ fnQ OpP OpT Tr TrP SL SLd OwnS LitS Bk BkE Ob
section
variable {α : Type} [Enc α] {L : List HP}
theorem RowH.split {e : TypeId} : ∀ {s1 s2 : List SV} {t1 t2 : List (List α)} {L : List HP}, s1.length = t1.length → Ent (RowH e (s1 ++ s2) (t1 ++ t2) :: L) (RowH e s1 t1 :: RowH e s2 t2 :: L)
  | [], s2, [], t2, L, _ => Ent.intro1 rfl
  | s :: s1, s2, t :: t1, t2, L, h => by
    simp only [List.cons_append, RowH]
    refine Ent.unstar.trans ?_
    refine (Ent.cons (RowH.split (by simpa using h))).trans ?_
    exact Ent.star Ent.refl
  | [], s2, t :: t1, t2, L, h => by simp at h
  | s :: s1, s2, [], t2, L, h => by simp at h
theorem RowH.join {e : TypeId} : ∀ {s1 s2 : List SV} {t1 t2 : List (List α)} {L : List HP}, s1.length = t1.length → Ent (RowH e s1 t1 :: RowH e s2 t2 :: L) (RowH e (s1 ++ s2) (t1 ++ t2) :: L)
  | [], s2, [], t2, L, _ => Ent.drop1
  | s :: s1, s2, t :: t1, t2, L, h => by
    simp only [List.cons_append, RowH]
    refine Ent.unstar.trans ?_
    exact (Ent.cons (RowH.join (by simpa using h))).trans (Ent.star Ent.refl)
  | [], s2, t :: t1, t2, L, h => by simp at h
  | s :: s1, s2, [], t2, L, h => by simp at h
def RowX (e : TypeId) (m : Nat) (ss : List SV) (ts : List (List α)) : HP := star (RowH e (ss.take m) (ts.take m)) (RowH e (ss.drop (m + 2)) (ts.drop (m + 2)))
theorem RowH.focus2 {e : TypeId} {ss : List SV} {ts : List (List α)} (m : Nat) (hi : m + 1 < ss.length) (hl : ss.length = ts.length) :
    Ent (RowH e ss ts :: L) (OwnS e (ss[m]) (ts[m]'(by omega)) :: OwnS e (ss[m + 1]) (ts[m + 1]'(by omega)) :: RowX e m ss ts :: L) := by
  have e1 : ss = ss.take m ++ ss[m] :: ss[m + 1] :: ss.drop (m + 2) := by rw [List.getElem_cons_drop, List.getElem_cons_drop, List.take_append_drop]
  have e2 : ts = ts.take m ++ ts[m] :: ts[m + 1] :: ts.drop (m + 2) := by rw [List.getElem_cons_drop, List.getElem_cons_drop, List.take_append_drop]
  have h0 : Ent (RowH e ss ts :: L) (RowH e (ss.take m ++ ss[m] :: ss[m + 1] :: ss.drop (m + 2)) (ts.take m ++ ts[m] :: ts[m + 1] :: ts.drop (m + 2)) :: L) := by rw [← e1, ← e2]; exact Ent.refl
  refine h0.trans ((RowH.split (by rw [List.length_take, List.length_take]; omega)).trans ?_)
  refine (Ent.cons (Ent.unstar.trans (Ent.cons Ent.unstar))).trans ?_
  refine Ent.swap.trans (Ent.cons ?_)
  refine Ent.swap.trans (Ent.cons ?_)
  exact Ent.star Ent.refl
theorem RowH.back2 {e : TypeId} {ss : List SV} {ts : List (List α)} {t u : List α} (m : Nat) (hi : m + 1 < ss.length) (hl : ss.length = ts.length) :
    Ent (OwnS e (ss[m]) t :: OwnS e (ss[m + 1]) u :: RowX e m ss ts :: L) (RowH e ss ((ts.set m t).set (m + 1) u) :: L) := by
  have e1 : ss = ss.take m ++ ss[m] :: ss[m + 1] :: ss.drop (m + 2) := by rw [List.getElem_cons_drop, List.getElem_cons_drop, List.take_append_drop]
  have e2 : (ts.set m t).set (m + 1) u = ts.take m ++ t :: u :: ts.drop (m + 2) := by
    have e3 : ts = ts.take m ++ ts[m] :: ts[m + 1] :: ts.drop (m + 2) := by rw [List.getElem_cons_drop, List.getElem_cons_drop, List.take_append_drop]
    have hm : (ts.take m).length = m := by rw [List.length_take]; omega
    conv => lhs; rw [e3]
    rw [List.set_append_right _ _ (by omega), hm, Nat.sub_self, List.set_cons_zero, List.set_append_right _ _ (by omega), hm, show m + 1 - m = 1 by omega, List.set_cons_succ, List.set_cons_zero]
  have h0 : Ent (RowH e (ss.take m ++ ss[m] :: ss[m + 1] :: ss.drop (m + 2)) (ts.take m ++ t :: u :: ts.drop (m + 2)) :: L) (RowH e ss ((ts.set m t).set (m + 1) u) :: L) := by rw [← e1, ← e2]; exact Ent.refl
  refine Ent.trans ?_ h0
  have h1 : Ent (OwnS e (ss[m + 1]) u :: RowX e m ss ts :: L) (RowH e (ss.take m) (ts.take m) :: OwnS e (ss[m + 1]) u :: RowH e (ss.drop (m + 2)) (ts.drop (m + 2)) :: L) := (Ent.cons Ent.unstar).trans Ent.swap
  refine (Ent.cons h1).trans (Ent.swap.trans ?_)
  refine Ent.trans ?_ (RowH.join (by rw [List.length_take, List.length_take]; omega))
  exact Ent.cons (Ent.star (Ent.cons (Ent.star Ent.refl)))
end
theorem cmpL_take : ∀ (n : Nat) {a b : List Int}, a.length = b.length → cmpL a b < 0 → cmpL (a.take n) (b.take n) ≤ 0
  | 0, a, b, _, _ => by simp [cmpL]
  | n + 1, [], [], _, h => by simp [cmpL] at h
  | n + 1, x :: a, y :: b, hl, h => by
    simp only [List.take_succ_cons, cmpL] at h ⊢
    split
    · omega
    · rename_i h1
      rw [if_neg h1] at h
      split
      · rename_i h2; rw [if_pos h2] at h; omega
      · rename_i h2; rw [if_neg h2] at h; exact cmpL_take n (by simpa using hl) h
  | n + 1, [], y :: b, hl, _ => by simp at hl
  | n + 1, x :: a, [], hl, _ => by simp at hl
section
variable (n : Nat) (N : Nat → Nat) (G : Nat → Nat → List Int) (Kp : Nat → Nat → Bool)
def bgA (g : List Int) : Prop := ∃ k i : Nat, g.length ≤ k ∧ k < n ∧ i < N k ∧ Kp k i = true ∧ (G k i).take g.length = g
variable {n N G Kp}
theorem chain (hlen : ∀ k i, k < n → i < N k → (G k i).length = k + 1) (hcl : ∀ k i, 0 < k → k < n → i < N k → ∃ j, j < N (k - 1) ∧ G (k - 1) j = (G k i).take k) :
    ∀ (d k i : Nat), k + d < n → i < N (k + d) → ∃ j, j < N k ∧ G k j = (G (k + d) i).take (k + 1)
  | 0, k, i, hk, hi => ⟨i, hi, by rw [List.take_of_length_le (by rw [Nat.add_zero, hlen k i hk hi]; omega)]; rfl⟩
  | d + 1, k, i, hk, hi => by
    obtain ⟨j, h1, h2⟩ := hcl (k + (d + 1)) i (by omega) hk hi
    rw [show k + (d + 1) - 1 = k + d by omega] at h1 h2
    obtain ⟨l, h3, h4⟩ := chain hlen hcl d k j (by omega) h1
    refine ⟨l, h3, ?_⟩
    rw [h4, h2, List.take_take]; congr 1; omega
theorem bg_step (hlen : ∀ k i, k < n → i < N k → (G k i).length = k + 1) (hcl : ∀ k i, 0 < k → k < n → i < N k → ∃ j, j < N (k - 1) ∧ G (k - 1) j = (G k i).take k) {m a : Nat} (hm : m + 1 < n) (ha : a < N m) :
    bgA n N G Kp (G m a) ↔ ∃ i, i < N (m + 1) ∧ (Kp (m + 1) i = true ∨ bgA n N G Kp (G (m + 1) i)) ∧ (G (m + 1) i).take (m + 1) = G m a := by
  have hla := hlen m a (by omega) ha
  constructor
  · rintro ⟨k, i, h1, h2, h3, h4, h5⟩
    rw [hla] at h1 h5
    by_cases hk : k = m + 1
    · subst hk; exact ⟨i, h3, .inl h4, h5⟩
    · obtain ⟨j, g1, g2⟩ := chain hlen hcl (k - (m + 1)) (m + 1) i (by omega) (by rw [show m + 1 + (k - (m + 1)) = k by omega]; exact h3)
      rw [show m + 1 + (k - (m + 1)) = k by omega] at g2
      refine ⟨j, g1, .inr ⟨k, i, by rw [hlen _ _ hm g1]; omega, h2, h3, h4, by rw [hlen _ _ hm g1, g2]⟩, ?_⟩
      rw [g2, List.take_take, Nat.min_eq_left (by omega), h5]
  · rintro ⟨i, h1, h2 | ⟨k, j, h2, h3, h4, h5, h6⟩, h7⟩
    · exact ⟨m + 1, i, by omega, hm, h1, h2, by rw [hla]; exact h7⟩
    · rw [hlen _ _ hm h1] at h2 h6
      refine ⟨k, j, by omega, h3, h4, h5, ?_⟩
      rw [hla, ← h7, ← h6, List.take_take, Nat.min_eq_left (by omega)]
end
end Go.Proofs.Ytcomkdndddkbeaa
namespace Go.Proofs.Ytcomkdndddkbeaa
open Go Go.Fw Go.RowKit
set_option linter.unusedVariables false
set_option linter.unusedSimpArgs false
set_option maxRecDepth 100000
set_option maxHeartbeats 16000000
set_option synthInstance.maxHeartbeats 200000
set_option synthInstance.maxSize 100000
attribute [local irreducible] WPA WLA WDA WDQ WDE QQ seqQ blockQ loopQ fnQ OpP OpT Tr TrP SL SLd OwnS LitS Bk BkE Ob
attribute [local irreducible] TblH VocH GridH RowH RowX
def nN (re : SV → List En) (gr : List SV) (k : Nat) : Nat := (re (at_ gr (k : Int))).length
def nG (kg : SV → List Int) (re : SV → List En) (gr : List SV) (k i : Nat) : List Int := kg (at_ (re (at_ gr (k : Int))) (i : Int)).1
def nK (cn : SV → List Bool) (ks : List SV) (k i : Nat) : Bool := at_ (cn (at_ ks (k : Int))) (i : Int)
abbrev bgP (kg : SV → List Int) (re : SV → List En) (gr : List SV) (cn : SV → List Bool) (ks : List SV) (g : List Int) : Prop := bgA gr.length (nN re gr) (nG kg re gr) (nK cn ks) g
open Classical in
noncomputable def ndK (kg : SV → List Int) (re : SV → List En) (gr : List SV) (cn : SV → List Bool) (ks : List SV) (k i : Nat) : Bool := decide (nK cn ks k i = true ∨ bgP kg re gr cn ks (nG kg re gr k i))
open Classical in
theorem ndK_iff {kg : SV → List Int} {re : SV → List En} {gr : List SV} {cn : SV → List Bool} {ks : List SV} {k i : Nat} : ndK kg re gr cn ks k i = true ↔ (nK cn ks k i = true ∨ bgP kg re gr cn ks (nG kg re gr k i)) := by
  unfold ndK; exact decide_eq_true_iff
section
variable {kg : SV → List Int} {re : SV → List En} {cn : SV → List Bool} {L : List HP} {w0 : World} {I : Foot}
theorem begun_tr {fr : Int} {wv g c s : SV} {ws : List ByteArray} {gr ks : List SV} {gs : List Int} {b : Bool} (hs : SlI I s Int inferInstance gs) (hM : MdI I kg re wv g ws gr) (hlen : ∀ k i, k < gr.length → i < nN re gr k → (nG kg re gr k i).length = k + 1) (hc : SlI I c SV inferInstance ks) (hC : ∀ h ∈ ks, SlI I h Bool inferInstance (cn h)) (hF : FitP re gr ks fun h => (cn h).length)
    (hgl : gs.length ≤ 1000000) (hb : b = true ↔ bgP kg re gr cn ks gs) :
    Tr Try.prog 35 #[.agg #[.int .i64 fr, .slice wv.a wv.n wv.cap, .slice g.a g.n g.cap], .slice c.a c.n c.cap, .slice s.a s.n s.cap] (SL w0 I L) (fun _ : Unit => .bool b) (fun _ => SL w0 I L) := by
  refine Tr.intro Try.func35 rfl Try.ntmps35 rfl ?_
  obtain ⟨f1, f2⟩ := hF
  have hg := hM.grams
  have hgn := hM.gln
  repeat' (first | ((first | refine WLA.m rfl rfl ?_ ?_ | refine WLA.st rfl ?_ ?_ | refine WLA.x rfl rfl ?_ (fun x => ?_) | refine WLA.x0 rfl ?_ (fun x => ?_)); first | exact trivial | exact rfl | assumption | omega | (refine ⟨?_, ?_⟩ <;> omega) | (simp only [Room, List.length_set, List.length_append, List.length_cons, List.length_nil, List.length_replicate]; omega) | decide | skip) | (refine Stp.go ?_) | (refine WPA.ifT ?_) | (refine WPA.ifF ?_) | ((first | refine WPA.dec ?_); first | refine .inl ⟨by first | assumption | omega | with_reducible rfl | (refine fun h => h ?_; first | assumption | with_reducible rfl) | (simp only [List.length_append, List.length_cons, List.length_nil, List.length_set] <;> omega) | decide, ?_⟩ | refine .inr ⟨by first | assumption | omega | with_reducible rfl | (refine fun h => h ?_; first | assumption | with_reducible rfl) | (simp only [List.length_append, List.length_cons, List.length_nil, List.length_set] <;> omega) | decide, ?_⟩) | ((first | refine WPA.ifBt ?_ ?_ | refine WPA.ifBnf ?_ ?_); assumption) | ((first | refine WPA.ifBnt ?_ ?_ | refine WPA.ifBf ?_ ?_); assumption) | ((first | refine WPA.ifs ?_ ?_ | refine WPA.ifB ?_ ?_) <;> intro hc))
  revert x; intro t3
  refine WPA.loopS (σ := Nat) (fun k => [(1, .slice c.a c.n c.cap), (2, .slice s.a s.n s.cap), (3, .pointer (some ⟨t3, 0, none⟩)), (7, .int .i64 k)]) (fun k => (gs.length ≤ k ∧ k ≤ 1000001) ∧ ∀ k' i' : Nat, gs.length ≤ k' → k' < k → k' < gr.length → i' < nN re gr k' → nK cn ks k' i' = true → (nG kg re gr k' i').take gs.length ≠ gs)
    (fun _ => SL w0 I (Bk t3 25 [.int .i64 fr, .slice wv.a wv.n wv.cap, .slice g.a g.n g.cap] :: L)) (fun k => gr.length - k) gs.length ⟨rfl, rfl, rfl, rfl, trivial⟩ ⟨⟨Nat.le_refl _, by omega⟩, fun k' i' h1 h2 => by omega⟩ (fun w h => h.to) ?_
  rintro k ρ ⟨⟨hk, hk2⟩, hf⟩
  by_cases hkl : k < gr.length
  · have hkl' : (k : Int) < gr.length := by omega
    have hkc : (k : Int) < ks.length := by omega
    have hme : at_ gr (k : Int) ∈ gr := by rw [at_nat gr k hkl]; exact List.getElem_mem _
    have m1 : at_ ks (k : Int) ∈ ks := by rw [at_nat ks k (by omega)]; exact List.getElem_mem _
    have c1 := hC _ m1
    have hRk := hM.rows _ hme
    have hEk := hM.elems _ hme
    have hlk := hM.rln _ hme
    have hfk := f2 k hkl
    dsimp only at hfk
    have hN : nN re gr k = (re (at_ gr (k : Int))).length := rfl
    have hGk : ∀ i, nG kg re gr k i = kg (at_ (re (at_ gr (k : Int))) (i : Int)).1 := fun _ => rfl
    have hKk : ∀ i, nK cn ks k i = at_ (cn (at_ ks (k : Int))) (i : Int) := fun _ => rfl
    have hlen2 := fun i hi => hlen k i hkl hi
    rw [hN] at hlen2
    generalize re (at_ gr (k : Int)) = es at hRk hEk hlk hfk hN hGk hlen2
    generalize cn (at_ ks (k : Int)) = bs at c1 hfk hKk
    repeat' (first | ((first | refine WLA.m rfl rfl ?_ ?_ | refine WLA.st rfl ?_ ?_ | refine WLA.x rfl rfl ?_ (fun x => ?_) | refine WLA.x0 rfl ?_ (fun x => ?_)); first | exact trivial | exact rfl | assumption | omega | (refine ⟨?_, ?_⟩ <;> omega) | (simp only [Room, List.length_set, List.length_append, List.length_cons, List.length_nil, List.length_replicate]; omega) | decide | skip) | (refine Stp.go ?_) | (refine WPA.ifT ?_) | (refine WPA.ifF ?_) | ((first | refine WPA.dec ?_); first | refine .inl ⟨by first | assumption | omega | with_reducible rfl | (refine fun h => h ?_; first | assumption | with_reducible rfl) | (simp only [List.length_append, List.length_cons, List.length_nil, List.length_set] <;> omega) | decide, ?_⟩ | refine .inr ⟨by first | assumption | omega | with_reducible rfl | (refine fun h => h ?_; first | assumption | with_reducible rfl) | (simp only [List.length_append, List.length_cons, List.length_nil, List.length_set] <;> omega) | decide, ?_⟩) | ((first | refine WPA.ifBt ?_ ?_ | refine WPA.ifBnf ?_ ?_); assumption) | ((first | refine WPA.ifBnt ?_ ?_ | refine WPA.ifBf ?_ ?_); assumption) | ((first | refine WPA.ifs ?_ ?_ | refine WPA.ifB ?_ ?_) <;> intro hc))
    refine WPA.loopS (σ := Nat) (fun i => [(1, .slice c.a c.n c.cap), (2, .slice s.a s.n s.cap), (3, .pointer (some ⟨t3, 0, none⟩)), (7, .int .i64 k), (8, .int .i64 i)]) (fun i => i ≤ es.length ∧ ∀ i' : Nat, i' < i → at_ bs (i' : Int) = true → (kg (at_ es (i' : Int)).1).take gs.length ≠ gs)
      (fun _ => SL w0 I (Bk t3 25 [.int .i64 fr, .slice wv.a wv.n wv.cap, .slice g.a g.n g.cap] :: L)) (fun i => es.length - i) 0 ⟨rfl, rfl, rfl, rfl, rfl, trivial⟩ ⟨Nat.zero_le _, fun i' h => absurd h (Nat.not_lt_zero _)⟩ (fun w h => h.to) ?_
    rintro i ρ ⟨hi, hfi⟩
    by_cases hil : i < es.length
    · have hil' : (i : Int) < es.length := by omega
      have hib : (i : Int) < bs.length := by omega
      have hmi : at_ es (i : Int) ∈ es := by rw [at_nat _ i hil]; exact List.getElem_mem _
      have hG := hEk _ hmi
      have hxl := hlen2 i hil
      rw [hGk] at hxl
      have hr : (0 : Int) ≤ gs.length ∧ (gs.length : Int) ≤ (kg (at_ es (i : Int)).1).length := by omega
      have hct : cutL (kg (at_ es (i : Int)).1) 0 (gs.length : Int) = (kg (at_ es (i : Int)).1).take gs.length := cut_take (by omega)
      have hcl : (cutL (kg (at_ es (i : Int)).1) 0 (gs.length : Int)).length ≤ 1000000000 := by rw [hct, List.length_take]; omega
      by_cases hbi : at_ bs (i : Int) = true
      · by_cases hq : cutL (kg (at_ es (i : Int)).1) 0 (gs.length : Int) = gs
        · skip
          repeat' (first | ((rw [hbi])) | ((first | refine WLA.m rfl rfl ?_ ?_ | refine WLA.st rfl ?_ ?_ | refine WLA.x rfl rfl ?_ (fun x => ?_) | refine WLA.x0 rfl ?_ (fun x => ?_)); first | exact trivial | exact rfl | assumption | omega | (refine ⟨?_, ?_⟩ <;> omega) | (simp only [Room, List.length_set, List.length_append, List.length_cons, List.length_nil, List.length_replicate]; omega) | decide | skip) | (refine Stp.go ?_) | (guard_target =~ WLA _ _ _ _ _ (⟨_, .call ⟨.value (.func 53), _, _⟩, _, _, _, _⟩ :: _) _ _; refine WLA.cq rfl rfl (Ints_tr hcl) ?_) | (refine WPA.ifT ?_) | (refine WPA.ifF ?_) | (refine WLA.no rfl rfl ?_) | ((first | refine WPA.dec ?_ | ((fail_if_success (guard_target =~ WLA _ _ _ _ _ _ (put1 _ _ (.bool true)) _)); (fail_if_success (guard_target =~ WLA _ _ _ _ _ _ (put1 _ _ (.bool false)) _)); refine WLA.dec rfl rfl ?_) | refine WLA.pk ?_); first | refine .inl ⟨by first | assumption | omega | with_reducible rfl | (refine fun h => h ?_; first | assumption | with_reducible rfl) | (simp only [List.length_append, List.length_cons, List.length_nil, List.length_set] <;> omega) | decide, ?_⟩ | refine .inr ⟨by first | assumption | omega | with_reducible rfl | (refine fun h => h ?_; first | assumption | with_reducible rfl) | (simp only [List.length_append, List.length_cons, List.length_nil, List.length_set] <;> omega) | decide, ?_⟩) | ((first | refine WPA.ifBt ?_ ?_ | refine WPA.ifBnf ?_ ?_); assumption) | ((first | refine WPA.ifBnt ?_ ?_ | refine WPA.ifBf ?_ ?_); assumption) | ((first | refine WPA.ifs ?_ ?_ | refine WPA.ifB ?_ ?_) <;> intro hc) | ((fail_if_success (guard_target =~ WLA _ _ _ _ _ _ (put1 _ _ (.bool true)) _)); (fail_if_success (guard_target =~ WLA _ _ _ _ _ _ (put1 _ _ (.bool false)) _)); (first | refine WLA.both rfl rfl ?_ ?_ | refine WLA.bothB rfl rfl ?_ ?_) <;> intro hg))
          refine QQ.end_ rfl () (congrArg Value.bool (hb.2 ⟨k, i, hk, hkl, by rw [hN]; exact hil, by rw [hKk]; exact hbi, by rw [hGk, ← hct]; exact hq⟩).symm) fun w h => h.to
        · skip
          repeat' (first | ((rw [hbi])) | ((first | refine WLA.m rfl rfl ?_ ?_ | refine WLA.st rfl ?_ ?_ | refine WLA.x rfl rfl ?_ (fun x => ?_) | refine WLA.x0 rfl ?_ (fun x => ?_)); first | exact trivial | exact rfl | assumption | omega | (refine ⟨?_, ?_⟩ <;> omega) | (simp only [Room, List.length_set, List.length_append, List.length_cons, List.length_nil, List.length_replicate]; omega) | decide | skip) | (refine Stp.go ?_) | (guard_target =~ WLA _ _ _ _ _ (⟨_, .call ⟨.value (.func 53), _, _⟩, _, _, _, _⟩ :: _) _ _; refine WLA.cq rfl rfl (Ints_tr hcl) ?_) | (refine WPA.ifT ?_) | (refine WPA.ifF ?_) | (refine WLA.no rfl rfl ?_) | ((first | refine WPA.dec ?_ | ((fail_if_success (guard_target =~ WLA _ _ _ _ _ _ (put1 _ _ (.bool true)) _)); (fail_if_success (guard_target =~ WLA _ _ _ _ _ _ (put1 _ _ (.bool false)) _)); refine WLA.dec rfl rfl ?_) | refine WLA.pk ?_); first | refine .inl ⟨by first | assumption | omega | with_reducible rfl | (refine fun h => h ?_; first | assumption | with_reducible rfl) | (simp only [List.length_append, List.length_cons, List.length_nil, List.length_set] <;> omega) | decide, ?_⟩ | refine .inr ⟨by first | assumption | omega | with_reducible rfl | (refine fun h => h ?_; first | assumption | with_reducible rfl) | (simp only [List.length_append, List.length_cons, List.length_nil, List.length_set] <;> omega) | decide, ?_⟩) | ((first | refine WPA.ifBt ?_ ?_ | refine WPA.ifBnf ?_ ?_); assumption) | ((first | refine WPA.ifBnt ?_ ?_ | refine WPA.ifBf ?_ ?_); assumption) | ((first | refine WPA.ifs ?_ ?_ | refine WPA.ifB ?_ ?_) <;> intro hc) | ((fail_if_success (guard_target =~ WLA _ _ _ _ _ _ (put1 _ _ (.bool true)) _)); (fail_if_success (guard_target =~ WLA _ _ _ _ _ _ (put1 _ _ (.bool false)) _)); (first | refine WLA.both rfl rfl ?_ ?_ | refine WLA.bothB rfl rfl ?_ ?_) <;> intro hg))
          refine QQ.loopS (i + 1) ⟨rfl, rfl, rfl, rfl, rfl, trivial⟩ ⟨hil, fun i' h1 h2 => ?_⟩ (by omega) (fun w h => h.to)
          by_cases hii : i' = i
          · subst hii; rw [← hct]; exact hq
          · exact hfi i' (by omega) h2
      · have hbi' : at_ bs (i : Int) = false := by simpa using hbi
        repeat' (first | ((rw [hbi'])) | ((first | refine WLA.m rfl rfl ?_ ?_ | refine WLA.st rfl ?_ ?_ | refine WLA.x rfl rfl ?_ (fun x => ?_) | refine WLA.x0 rfl ?_ (fun x => ?_)); first | exact trivial | exact rfl | assumption | omega | (refine ⟨?_, ?_⟩ <;> omega) | (simp only [Room, List.length_set, List.length_append, List.length_cons, List.length_nil, List.length_replicate]; omega) | decide | skip) | (refine Stp.go ?_) | (refine WPA.ifT ?_) | (refine WPA.ifF ?_) | (refine WLA.no rfl rfl ?_) | ((first | refine WPA.dec ?_ | ((fail_if_success (guard_target =~ WLA _ _ _ _ _ _ (put1 _ _ (.bool true)) _)); (fail_if_success (guard_target =~ WLA _ _ _ _ _ _ (put1 _ _ (.bool false)) _)); refine WLA.dec rfl rfl ?_) | refine WLA.pk ?_); first | refine .inl ⟨by first | assumption | omega | with_reducible rfl | (refine fun h => h ?_; first | assumption | with_reducible rfl) | (simp only [List.length_append, List.length_cons, List.length_nil, List.length_set] <;> omega) | decide, ?_⟩ | refine .inr ⟨by first | assumption | omega | with_reducible rfl | (refine fun h => h ?_; first | assumption | with_reducible rfl) | (simp only [List.length_append, List.length_cons, List.length_nil, List.length_set] <;> omega) | decide, ?_⟩) | ((first | refine WPA.ifBt ?_ ?_ | refine WPA.ifBnf ?_ ?_); assumption) | ((first | refine WPA.ifBnt ?_ ?_ | refine WPA.ifBf ?_ ?_); assumption) | ((first | refine WPA.ifs ?_ ?_ | refine WPA.ifB ?_ ?_) <;> intro hc) | ((fail_if_success (guard_target =~ WLA _ _ _ _ _ _ (put1 _ _ (.bool true)) _)); (fail_if_success (guard_target =~ WLA _ _ _ _ _ _ (put1 _ _ (.bool false)) _)); (first | refine WLA.both rfl rfl ?_ ?_ | refine WLA.bothB rfl rfl ?_ ?_) <;> intro hg))
        refine QQ.loopS (i + 1) ⟨rfl, rfl, rfl, rfl, rfl, trivial⟩ ⟨hil, fun i' h1 h2 => ?_⟩ (by omega) (fun w h => h.to)
        by_cases hii : i' = i
        · subst hii; exact absurd h2 hbi
        · exact hfi i' (by omega) h2
    · have hil' : ¬ (i : Int) < es.length := by omega
      repeat' (first | ((first | refine WLA.m rfl rfl ?_ ?_ | refine WLA.st rfl ?_ ?_ | refine WLA.x rfl rfl ?_ (fun x => ?_) | refine WLA.x0 rfl ?_ (fun x => ?_)); first | exact trivial | exact rfl | assumption | omega | (refine ⟨?_, ?_⟩ <;> omega) | (simp only [Room, List.length_set, List.length_append, List.length_cons, List.length_nil, List.length_replicate]; omega) | decide | skip) | (refine Stp.go ?_) | (refine WPA.ifT ?_) | (refine WPA.ifF ?_) | ((first | refine WPA.dec ?_); first | refine .inl ⟨by first | assumption | omega | with_reducible rfl | (refine fun h => h ?_; first | assumption | with_reducible rfl) | (simp only [List.length_append, List.length_cons, List.length_nil, List.length_set] <;> omega) | decide, ?_⟩ | refine .inr ⟨by first | assumption | omega | with_reducible rfl | (refine fun h => h ?_; first | assumption | with_reducible rfl) | (simp only [List.length_append, List.length_cons, List.length_nil, List.length_set] <;> omega) | decide, ?_⟩) | ((first | refine WPA.ifBt ?_ ?_ | refine WPA.ifBnf ?_ ?_); assumption) | ((first | refine WPA.ifBnt ?_ ?_ | refine WPA.ifBf ?_ ?_); assumption) | ((first | refine WPA.ifs ?_ ?_ | refine WPA.ifB ?_ ?_) <;> intro hc))
      refine QQ.loopS (k + 1) ⟨rfl, rfl, rfl, rfl, trivial⟩ ⟨⟨by omega, by omega⟩, fun k' i' h1 h2 h3 h4 h5 => ?_⟩ (by omega) (fun w h => h.to)
      by_cases hkk : k' = k
      · subst hkk
        rw [hN] at h4; rw [hKk] at h5; rw [hGk]
        exact hfi i' (by omega) h5
      · exact hf k' i' h1 (by omega) h3 h4 h5
  · have hkl' : ¬ (k : Int) < gr.length := by omega
    repeat' (first | ((first | refine WLA.m rfl rfl ?_ ?_ | refine WLA.st rfl ?_ ?_ | refine WLA.x rfl rfl ?_ (fun x => ?_) | refine WLA.x0 rfl ?_ (fun x => ?_)); first | exact trivial | exact rfl | assumption | omega | (refine ⟨?_, ?_⟩ <;> omega) | (simp only [Room, List.length_set, List.length_append, List.length_cons, List.length_nil, List.length_replicate]; omega) | decide | skip) | (refine Stp.go ?_) | (refine WPA.ifT ?_) | (refine WPA.ifF ?_) | ((first | refine WPA.dec ?_); first | refine .inl ⟨by first | assumption | omega | with_reducible rfl | (refine fun h => h ?_; first | assumption | with_reducible rfl) | (simp only [List.length_append, List.length_cons, List.length_nil, List.length_set] <;> omega) | decide, ?_⟩ | refine .inr ⟨by first | assumption | omega | with_reducible rfl | (refine fun h => h ?_; first | assumption | with_reducible rfl) | (simp only [List.length_append, List.length_cons, List.length_nil, List.length_set] <;> omega) | decide, ?_⟩) | ((first | refine WPA.ifBt ?_ ?_ | refine WPA.ifBnf ?_ ?_); assumption) | ((first | refine WPA.ifBnt ?_ ?_ | refine WPA.ifBf ?_ ?_); assumption) | ((first | refine WPA.ifs ?_ ?_ | refine WPA.ifB ?_ ?_) <;> intro hc))
    refine QQ.end_ rfl () (congrArg Value.bool ?_) fun w h => h.to
    cases b
    · rfl
    · obtain ⟨k', i', h1, h2, h3, h4, h5⟩ := hb.1 rfl
      exact absurd h5 (hf k' i' h1 (by omega) h2 h3 h4)
theorem rNeeded_tr {fr : Int} {wv g c : SV} {ws : List ByteArray} {gr ks : List SV} (hM : MdI I kg re wv g ws gr) (hck : chkM kg re fr ws gr = 0) (hc : SlI I c SV inferInstance ks) (hC : ∀ h ∈ ks, SlI I h Bool inferInstance (cn h)) (hF : FitP re gr ks fun h => (cn h).length) :
    Tr Try.prog 13 #[.agg #[.int .i64 fr, .slice wv.a wv.n wv.cap, .slice g.a g.n g.cap], .slice c.a c.n c.cap] (SL w0 I L) (fun x : SV => .slice x.a x.n x.cap) (fun x => SL w0 I (GridH x (chS re gr (ndK kg re gr cn ks)) :: L)) := by
  refine Tr.intro Try.func13 rfl Try.ntmps13 rfl ?_
  obtain ⟨y1, y2, y3⟩ := chkM_words hck
  have hlen : ∀ k i, k < gr.length → i < nN re gr k → (nG kg re gr k i).length = k + 1 := fun k i hk hi => y1 k hk _ (by unfold nN at hi; rw [at_nat _ i hi]; exact List.getElem_mem _)
  obtain ⟨f1, f2⟩ := id hF
  repeat' ((fail_if_success (guard_target =~ WPA _ _ _ (.region 1 _ _) _ _ _)); first | ((first | refine WLA.m rfl rfl ?_ ?_ | refine WLA.st rfl ?_ ?_ | refine WLA.x rfl rfl ?_ (fun x => ?_) | refine WLA.x0 rfl ?_ (fun x => ?_)); first | exact trivial | exact rfl | assumption | omega | (refine ⟨?_, ?_⟩ <;> omega) | (simp only [Room, List.length_set, List.length_append, List.length_cons, List.length_nil, List.length_replicate]; omega) | decide | skip) | (refine Stp.go ?_) | (refine WPA.ifT ?_) | (refine WPA.ifF ?_) | ((first | refine WPA.dec ?_); first | refine .inl ⟨by first | assumption | omega | with_reducible rfl | (refine fun h => h ?_; first | assumption | with_reducible rfl) | (simp only [List.length_append, List.length_cons, List.length_nil, List.length_set] <;> omega) | decide, ?_⟩ | refine .inr ⟨by first | assumption | omega | with_reducible rfl | (refine fun h => h ?_; first | assumption | with_reducible rfl) | (simp only [List.length_append, List.length_cons, List.length_nil, List.length_set] <;> omega) | decide, ?_⟩) | ((first | refine WPA.ifBt ?_ ?_ | refine WPA.ifBnf ?_ ?_); assumption) | ((first | refine WPA.ifBnt ?_ ?_ | refine WPA.ifBf ?_ ?_); assumption) | ((first | refine WPA.ifs ?_ ?_ | refine WPA.ifB ?_ ?_) <;> intro hc))
  revert x; intro t2
  refine WPA.freezeBk (b := t2) ?_
  have hM2 : MdI (BkI t2 25 [.int .i64 fr, .slice wv.a wv.n wv.cap, .slice g.a g.n g.cap] ++ I) kg re wv g ws gr := ⟨hM.words.sub, hM.grams.sub, fun x hx => (hM.rows x hx).sub, fun x hx => (hM.elems x hx).sub, hM.wsz, hM.wln, hM.gln, hM.rln, hM.kln⟩
  have hJ : SubI (BkI t2 25 [.int .i64 fr, .slice wv.a wv.n wv.cap, .slice g.a g.n g.cap] ++ I) I := inferInstance
  have hI2 : InI (BkI t2 25 [.int .i64 fr, .slice wv.a wv.n wv.cap, .slice g.a g.n g.cap] ++ I) t2 25 [.int .i64 fr, .slice wv.a wv.n wv.cap, .slice g.a g.n g.cap] := inferInstance
  have hc2 : SlI (BkI t2 25 [.int .i64 fr, .slice wv.a wv.n wv.cap, .slice g.a g.n g.cap] ++ I) c SV inferInstance ks := hc.sub
  have hC2 : ∀ h ∈ ks, SlI (BkI t2 25 [.int .i64 fr, .slice wv.a wv.n wv.cap, .slice g.a g.n g.cap] ++ I) h Bool inferInstance (cn h) := fun h hh => (hC h hh).sub
  generalize BkI t2 25 [.int .i64 fr, .slice wv.a wv.n wv.cap, .slice g.a g.n g.cap] ++ I = J at hM2 hJ hI2 hc2 hC2
  have hg := hM2.grams
  have hgn := hM2.gln
  repeat' (first | ((first | refine WLA.m rfl rfl ?_ ?_ | refine WLA.st rfl ?_ ?_ | refine WLA.x rfl rfl ?_ (fun x => ?_) | refine WLA.x0 rfl ?_ (fun x => ?_)); first | exact trivial | exact rfl | assumption | omega | (refine ⟨?_, ?_⟩ <;> omega) | (simp only [Room, List.length_set, List.length_append, List.length_cons, List.length_nil, List.length_replicate]; omega) | decide | skip) | (refine Stp.go ?_) | (refine WPA.ifT ?_) | (refine WPA.ifF ?_) | ((first | refine WPA.dec ?_); first | refine .inl ⟨by first | assumption | omega | with_reducible rfl | (refine fun h => h ?_; first | assumption | with_reducible rfl) | (simp only [List.length_append, List.length_cons, List.length_nil, List.length_set] <;> omega) | decide, ?_⟩ | refine .inr ⟨by first | assumption | omega | with_reducible rfl | (refine fun h => h ?_; first | assumption | with_reducible rfl) | (simp only [List.length_append, List.length_cons, List.length_nil, List.length_set] <;> omega) | decide, ?_⟩) | ((first | refine WPA.ifBt ?_ ?_ | refine WPA.ifBnf ?_ ?_); assumption) | ((first | refine WPA.ifBnt ?_ ?_ | refine WPA.ifBf ?_ ?_); assumption) | ((first | refine WPA.ifs ?_ ?_ | refine WPA.ifB ?_ ?_) <;> intro hc))
  refine WPA.loopS (σ := GS) (fun y => [(1, .slice c.a c.n c.cap), (2, .pointer (some ⟨t2, 0, none⟩)), (5, .slice y.o.a y.o.n y.o.cap), (6, .int .i64 y.k)]) (fun y => y.k ≤ gr.length ∧ y.vs.length = y.k)
    (fun y => SL w0 J (OwnS 35 y.o y.vs :: RowH 4 y.vs ((chS re gr (ndK kg re gr cn ks)).take y.k) :: L)) (fun y => gr.length - y.k) ⟨0, SV.nil, []⟩ ⟨rfl, rfl, rfl, rfl, trivial⟩ ⟨Nat.zero_le _, rfl⟩ (fun w h => ?_) ?_
  · have h2 := (RowH.nil (α := Bool) (e := 4)).sl h
    show SL w0 J (OwnS 35 SV.nil ([] : List SV) :: RowH 4 [] ([] : List (List Bool)) :: L) w
    exact h2.to
  rintro ⟨k, o, vs⟩ ρ ⟨hk, hvl⟩
  dsimp only at hk hvl ⊢
  by_cases hkl : k < gr.length
  · have hkl' : (k : Int) < gr.length := by omega
    have hkc : (k : Int) < ks.length := by omega
    have hme : at_ gr (k : Int) ∈ gr := by rw [at_nat gr k hkl]; exact List.getElem_mem _
    have m1 : at_ ks (k : Int) ∈ ks := by rw [at_nat ks k (by omega)]; exact List.getElem_mem _
    have c1 := hC2 _ m1
    have hRk := hM2.rows _ hme
    have hEk := hM2.elems _ hme
    have hlk := hM.rln _ hme
    have hkk := hM.kln _ hme
    have hfk := f2 k hkl
    dsimp only at hfk
    have hget := chS_get (re := re) (K := ndK kg re gr cn ks) hkl
    have hnd : ∀ i : Nat, ndK kg re gr cn ks k i = true ↔ (at_ (cn (at_ ks (k : Int))) (i : Int) = true ∨ bgP kg re gr cn ks (kg (at_ (re (at_ gr (k : Int))) (i : Int)).1)) := fun i => ndK_iff
    have hbegin : ∀ {s : SV} {gs : List Int} {b : Bool} {L : List HP}, SlI J s Int inferInstance gs → gs.length ≤ 1000000 → (b = true ↔ bgP kg re gr cn ks gs) →
      Tr Try.prog 35 #[.agg #[.int .i64 fr, .slice wv.a wv.n wv.cap, .slice g.a g.n g.cap], .slice c.a c.n c.cap, .slice s.a s.n s.cap] (SL w0 J L) (fun _ : Unit => .bool b) (fun _ => SL w0 J L) := fun h1 h2 h3 => begun_tr h1 hM2 hlen hc2 hC2 hF h2 h3
    generalize ndK kg re gr cn ks k = Kk at hget hnd
    generalize re (at_ gr (k : Int)) = es at hRk hEk hlk hkk hfk hget hnd
    generalize cn (at_ ks (k : Int)) = ms at c1 hfk hnd
    repeat' (first | ((first | refine WLA.m rfl rfl ?_ ?_ | refine WLA.st rfl ?_ ?_ | refine WLA.x rfl rfl ?_ (fun x => ?_) | refine WLA.x0 rfl ?_ (fun x => ?_)); first | exact trivial | exact rfl | assumption | omega | (refine ⟨?_, ?_⟩ <;> omega) | (simp only [Room, List.length_set, List.length_append, List.length_cons, List.length_nil, List.length_replicate]; omega) | decide | skip) | (refine Stp.go ?_) | (refine WPA.ifT ?_) | (refine WPA.ifF ?_) | ((first | refine WPA.dec ?_); first | refine .inl ⟨by first | assumption | omega | with_reducible rfl | (refine fun h => h ?_; first | assumption | with_reducible rfl) | (simp only [List.length_append, List.length_cons, List.length_nil, List.length_set] <;> omega) | decide, ?_⟩ | refine .inr ⟨by first | assumption | omega | with_reducible rfl | (refine fun h => h ?_; first | assumption | with_reducible rfl) | (simp only [List.length_append, List.length_cons, List.length_nil, List.length_set] <;> omega) | decide, ?_⟩) | ((first | refine WPA.ifBt ?_ ?_ | refine WPA.ifBnf ?_ ?_); assumption) | ((first | refine WPA.ifBnt ?_ ?_ | refine WPA.ifBf ?_ ?_); assumption) | ((first | refine WPA.ifs ?_ ?_ | refine WPA.ifB ?_ ?_) <;> intro hc))
    refine WPA.loopS (σ := RS) (fun y => [(1, .slice c.a c.n c.cap), (2, .pointer (some ⟨t2, 0, none⟩)), (5, .slice o.a o.n o.cap), (6, .int .i64 k), (7, .slice y.c.a y.c.n y.c.cap), (8, .int .i64 y.i)]) (fun y => y.i ≤ es.length ∧ y.bs = (chR es.length Kk k).take y.i)
      (fun y => SL w0 J (OwnS 4 y.c y.bs :: OwnS 35 o vs :: RowH 4 vs ((chS re gr (ndK kg re gr cn ks)).take k) :: L)) (fun y => es.length - y.i) ⟨0, SV.nil, []⟩ ⟨rfl, rfl, rfl, rfl, rfl, rfl, trivial⟩ ⟨Nat.zero_le _, rfl⟩ (fun w h => h.to) ?_
    rintro ⟨i, cur, bs⟩ ρ ⟨hi, hb⟩
    dsimp only at hi hb ⊢
    have hbl : bs.length = i := by rw [hb, List.length_take]; simp [chR]; omega
    by_cases hil : i < es.length
    · have hil' : (i : Int) < es.length := by omega
      have him : (i : Int) < ms.length := by omega
      have hnew := take_one (chR_get (K := Kk) (k := k) hil)
      rw [← hb] at hnew
      have hmi : at_ es (i : Int) ∈ es := by rw [at_nat _ i hil]; exact List.getElem_mem _
      have hG := hEk _ hmi
      have hgk := hkk _ hmi
      have hndi := hnd i
      by_cases h0 : k = 0
      · have h0' : (k : Int) = 0 := by omega
        repeat' (first | ((first | refine WLA.m rfl rfl ?_ ?_ | refine WDQ.m rfl rfl ?_ ?_ | refine WLA.st rfl ?_ ?_ | refine WLA.x rfl rfl ?_ (fun x => ?_) | refine WLA.x0 rfl ?_ (fun x => ?_)); first | exact trivial | exact rfl | assumption | omega | (refine ⟨?_, ?_⟩ <;> omega) | (simp only [Room, List.length_set, List.length_append, List.length_cons, List.length_nil, List.length_replicate]; omega) | decide | skip) | (refine Stp.go ?_) | (refine WPA.ifT ?_) | (refine WPA.ifF ?_) | (refine WLA.no rfl rfl ?_) | (refine WDQ.no rfl rfl ?_) | ((first | refine WPA.dec ?_ | ((fail_if_success (guard_target =~ WLA _ _ _ _ _ _ (put1 _ _ (.bool true)) _)); (fail_if_success (guard_target =~ WLA _ _ _ _ _ _ (put1 _ _ (.bool false)) _)); refine WLA.dec rfl rfl ?_) | refine WLA.pk ?_ | refine WDQ.dec rfl rfl ?_); first | refine .inl ⟨by first | assumption | omega | with_reducible rfl | (refine fun h => h ?_; first | assumption | with_reducible rfl) | (simp only [List.length_append, List.length_cons, List.length_nil, List.length_set] <;> omega) | decide, ?_⟩ | refine .inr ⟨by first | assumption | omega | with_reducible rfl | (refine fun h => h ?_; first | assumption | with_reducible rfl) | (simp only [List.length_append, List.length_cons, List.length_nil, List.length_set] <;> omega) | decide, ?_⟩) | ((first | refine WPA.ifBt ?_ ?_ | refine WPA.ifBnf ?_ ?_); assumption) | ((first | refine WPA.ifBnt ?_ ?_ | refine WPA.ifBf ?_ ?_); assumption) | ((first | refine WPA.ifs ?_ ?_ | refine WPA.ifB ?_ ?_) <;> intro hc) | ((fail_if_success (guard_target =~ WLA _ _ _ _ _ _ (put1 _ _ (.bool true)) _)); (fail_if_success (guard_target =~ WLA _ _ _ _ _ _ (put1 _ _ (.bool false)) _)); (first | refine WLA.both rfl rfl ?_ ?_ | refine WLA.bothB rfl rfl ?_ ?_) <;> intro hg) | (guard_target =~ WPA _ _ _ (.region 9 _ true) _ _ _; refine WPA.drawT 27 (.q 0 (.q 1 (.q 2 (.q 3 (.q 4 (.q 5 (.q 6 (.q 7 (.q 8 (.q 9 (.q 10 (.q 11 (.q 12 (.q 13 (.q 14 (.q 15 (.q 16 (.q 17 (.q 18 (.q 19 (.q 20 (.q 21 (.q 22 (.q 23 (.q 24 (.q 25 (.e 26 .fin))))))))))))))))))))))))))) mixed ?_ ?_; kernel_rfl) | (refine WDA.finish (tl := [⟨_, _, _, _, _, _⟩, ⟨_, _, _, _, _, _⟩]) rfl ?_) | (refine WDQ.see rfl ?_) | (refine WDE.see rfl ?_) | (refine WDE.alloc rfl rfl (fun w h => h) (fun x => ?_)) | (refine WDE.stE rfl ?_) | (refine WDE.x rfl rfl ?_ ?_ (fun x => ?_); rotate_left 1; (intro x w h; first | exact h | exact Ent.drop1.sl h | exact SL.unI h | exact SL.to h); rotate_left 1; first | exact trivial | exact rfl | assumption | omega | (refine ⟨?_, ?_⟩ <;> omega) | (simp only [Room, List.length_set, List.length_append, List.length_cons, List.length_nil, List.length_replicate]; omega) | decide | skip) | ((first | refine WDQ.both rfl rfl ?_ ?_) <;> intro hg))
        all_goals exact QQ.loopS ⟨i + 1, x, bs ++ [true]⟩ ⟨rfl, rfl, rfl, rfl, rfl, rfl, trivial⟩ ⟨hil, by dsimp only; rw [hnew, h0]; rfl⟩ (by dsimp only; omega) (fun w h => h.to)
      · have h0' : ¬ (k : Int) = 0 := by omega
        by_cases hbi : at_ ms (i : Int) = true
        · have hKi : Kk i = true := hndi.2 (.inl hbi)
          repeat' (first | ((rw [hbi])) | ((first | refine WLA.m rfl rfl ?_ ?_ | refine WDQ.m rfl rfl ?_ ?_ | refine WLA.st rfl ?_ ?_ | refine WLA.x rfl rfl ?_ (fun x => ?_) | refine WLA.x0 rfl ?_ (fun x => ?_)); first | exact trivial | exact rfl | assumption | omega | (refine ⟨?_, ?_⟩ <;> omega) | (simp only [Room, List.length_set, List.length_append, List.length_cons, List.length_nil, List.length_replicate]; omega) | decide | skip) | (refine Stp.go ?_) | (refine WPA.ifT ?_) | (refine WPA.ifF ?_) | (refine WLA.no rfl rfl ?_) | (refine WDQ.no rfl rfl ?_) | ((first | refine WPA.dec ?_ | ((fail_if_success (guard_target =~ WLA _ _ _ _ _ _ (put1 _ _ (.bool true)) _)); (fail_if_success (guard_target =~ WLA _ _ _ _ _ _ (put1 _ _ (.bool false)) _)); refine WLA.dec rfl rfl ?_) | refine WLA.pk ?_ | refine WDQ.dec rfl rfl ?_); first | refine .inl ⟨by first | assumption | omega | with_reducible rfl | (refine fun h => h ?_; first | assumption | with_reducible rfl) | (simp only [List.length_append, List.length_cons, List.length_nil, List.length_set] <;> omega) | decide, ?_⟩ | refine .inr ⟨by first | assumption | omega | with_reducible rfl | (refine fun h => h ?_; first | assumption | with_reducible rfl) | (simp only [List.length_append, List.length_cons, List.length_nil, List.length_set] <;> omega) | decide, ?_⟩) | ((first | refine WPA.ifBt ?_ ?_ | refine WPA.ifBnf ?_ ?_); assumption) | ((first | refine WPA.ifBnt ?_ ?_ | refine WPA.ifBf ?_ ?_); assumption) | ((first | refine WPA.ifs ?_ ?_ | refine WPA.ifB ?_ ?_) <;> intro hc) | ((fail_if_success (guard_target =~ WLA _ _ _ _ _ _ (put1 _ _ (.bool true)) _)); (fail_if_success (guard_target =~ WLA _ _ _ _ _ _ (put1 _ _ (.bool false)) _)); (first | refine WLA.both rfl rfl ?_ ?_ | refine WLA.bothB rfl rfl ?_ ?_) <;> intro hg) | (guard_target =~ WPA _ _ _ (.region 9 _ true) _ _ _; refine WPA.drawT 27 (.q 0 (.q 1 (.q 2 (.q 3 (.q 4 (.q 5 (.q 6 (.q 7 (.q 8 (.q 9 (.q 10 (.q 11 (.q 12 (.q 13 (.q 14 (.q 15 (.q 16 (.q 17 (.q 18 (.q 19 (.q 20 (.q 21 (.q 22 (.q 23 (.q 24 (.q 25 (.e 26 .fin))))))))))))))))))))))))))) mixed ?_ ?_; kernel_rfl) | (refine WDA.finish (tl := [⟨_, _, _, _, _, _⟩, ⟨_, _, _, _, _, _⟩]) rfl ?_) | (refine WDQ.see rfl ?_) | (refine WDE.see rfl ?_) | (refine WDE.alloc rfl rfl (fun w h => h) (fun x => ?_)) | (refine WDE.stE rfl ?_) | (refine WDE.x rfl rfl ?_ ?_ (fun x => ?_); rotate_left 1; (intro x w h; first | exact h | exact Ent.drop1.sl h | exact SL.unI h | exact SL.to h); rotate_left 1; first | exact trivial | exact rfl | assumption | omega | (refine ⟨?_, ?_⟩ <;> omega) | (simp only [Room, List.length_set, List.length_append, List.length_cons, List.length_nil, List.length_replicate]; omega) | decide | skip) | ((first | refine WDQ.both rfl rfl ?_ ?_) <;> intro hg))
          all_goals exact QQ.loopS ⟨i + 1, x, bs ++ [true]⟩ ⟨rfl, rfl, rfl, rfl, rfl, rfl, trivial⟩ ⟨hil, by dsimp only; rw [hnew, hKi, Bool.or_true]⟩ (by dsimp only; omega) (fun w h => h.to)
        · have hbi' : at_ ms (i : Int) = false := by simpa using hbi
          have hbb : Kk i = true ↔ bgP kg re gr cn ks (kg (at_ es (i : Int)).1) := by rw [hndi, hbi']; simp
          repeat' (first | ((rw [hbi'])) | ((first | refine WLA.m rfl rfl ?_ ?_ | refine WDQ.m rfl rfl ?_ ?_ | refine WLA.st rfl ?_ ?_ | refine WLA.x rfl rfl ?_ (fun x => ?_) | refine WLA.x0 rfl ?_ (fun x => ?_)); first | exact trivial | exact rfl | assumption | omega | (refine ⟨?_, ?_⟩ <;> omega) | (simp only [Room, List.length_set, List.length_append, List.length_cons, List.length_nil, List.length_replicate]; omega) | decide | skip) | (refine Stp.go ?_) | (guard_target =~ WLA _ _ _ _ _ (⟨_, .call ⟨.value (.func 35), _, _⟩, _, _, _, _⟩ :: _) _ _; first | (refine WLA.call rfl rfl (hbegin hG hgk hbb) ?_; rintro ⟨⟩) | (refine WLA.call0 rfl (hbegin hG hgk hbb) ?_; rintro ⟨⟩)) | (refine WPA.ifT ?_) | (refine WPA.ifF ?_) | (refine WLA.no rfl rfl ?_) | (refine WDQ.no rfl rfl ?_) | ((first | refine WPA.dec ?_ | ((fail_if_success (guard_target =~ WLA _ _ _ _ _ _ (put1 _ _ (.bool true)) _)); (fail_if_success (guard_target =~ WLA _ _ _ _ _ _ (put1 _ _ (.bool false)) _)); refine WLA.dec rfl rfl ?_) | refine WLA.pk ?_ | refine WDQ.dec rfl rfl ?_); first | refine .inl ⟨by first | assumption | omega | with_reducible rfl | (refine fun h => h ?_; first | assumption | with_reducible rfl) | (simp only [List.length_append, List.length_cons, List.length_nil, List.length_set] <;> omega) | decide, ?_⟩ | refine .inr ⟨by first | assumption | omega | with_reducible rfl | (refine fun h => h ?_; first | assumption | with_reducible rfl) | (simp only [List.length_append, List.length_cons, List.length_nil, List.length_set] <;> omega) | decide, ?_⟩) | ((first | refine WPA.ifBt ?_ ?_ | refine WPA.ifBnf ?_ ?_); assumption) | ((first | refine WPA.ifBnt ?_ ?_ | refine WPA.ifBf ?_ ?_); assumption) | ((first | refine WPA.ifs ?_ ?_ | refine WPA.ifB ?_ ?_) <;> intro hc) | ((fail_if_success (guard_target =~ WLA _ _ _ _ _ _ (put1 _ _ (.bool true)) _)); (fail_if_success (guard_target =~ WLA _ _ _ _ _ _ (put1 _ _ (.bool false)) _)); (first | refine WLA.both rfl rfl ?_ ?_ | refine WLA.bothB rfl rfl ?_ ?_) <;> intro hg) | (guard_target =~ WPA _ _ _ (.region 9 _ true) _ _ _; refine WPA.drawT 27 (.q 0 (.q 1 (.q 2 (.q 3 (.q 4 (.q 5 (.q 6 (.q 7 (.q 8 (.q 9 (.q 10 (.q 11 (.q 12 (.q 13 (.q 14 (.q 15 (.q 16 (.q 17 (.q 18 (.q 19 (.q 20 (.q 21 (.q 22 (.q 23 (.e 24 (.q 25 (.e 26 .fin))))))))))))))))))))))))))) mixed ?_ ?_; kernel_rfl) | (refine WDA.finish (tl := [⟨_, _, _, _, _, _⟩, ⟨_, _, _, _, _, _⟩]) rfl ?_) | (refine WDQ.see rfl ?_) | (refine WDE.see rfl ?_) | (refine WDE.alloc rfl rfl (fun w h => h) (fun x => ?_)) | (refine WDE.stE rfl ?_) | (refine WDE.x rfl rfl ?_ ?_ (fun x => ?_); rotate_left 1; (intro x w h; first | exact h | exact Ent.drop1.sl h | exact SL.unI h | exact SL.to h); rotate_left 1; first | exact trivial | exact rfl | assumption | omega | (refine ⟨?_, ?_⟩ <;> omega) | (simp only [Room, List.length_set, List.length_append, List.length_cons, List.length_nil, List.length_replicate]; omega) | decide | skip) | (guard_target =~ WDE _ _ _ _ _ _ _ ⟨_, .call ⟨.value (.func 35), _, _⟩, _, _, _, _⟩ _ _ _; refine WDE.call rfl rfl (hbegin hG hgk hbb) ?_ ?_; (intro x w h; first | exact h | exact Ent.drop1.sl h | exact SL.unI h | exact SL.to h); rintro ⟨⟩) | (guard_target =~ WDW _ _ _ _ _ _ _ ⟨_, .call ⟨.value (.func 35), _, _⟩, _, _, _, _⟩ _ _ _; refine WDW.call rfl rfl (hbegin hG hgk hbb) ?_; rintro ⟨⟩) | ((first | refine WDQ.both rfl rfl ?_ ?_) <;> intro hg))
          all_goals exact QQ.loopS ⟨i + 1, x, bs ++ [Kk i]⟩ ⟨rfl, rfl, rfl, rfl, rfl, rfl, trivial⟩ ⟨hil, by dsimp only; rw [hnew, decide_eq_false h0, Bool.false_or]⟩ (by dsimp only; omega) (fun w h => h.to)
    · have hil' : ¬ (i : Int) < es.length := by omega
      rw [List.take_of_length_le (by simp [chR]; omega)] at hb
      rw [← hb] at hget
      repeat' (first | ((first | refine WLA.m rfl rfl ?_ ?_ | refine WLA.st rfl ?_ ?_ | refine WLA.x rfl rfl ?_ (fun x => ?_) | refine WLA.x0 rfl ?_ (fun x => ?_)); first | exact trivial | exact rfl | assumption | omega | (refine ⟨?_, ?_⟩ <;> omega) | (simp only [Room, List.length_set, List.length_append, List.length_cons, List.length_nil, List.length_replicate]; omega) | decide | skip) | (refine Stp.go ?_) | (refine WPA.ifT ?_) | (refine WPA.ifF ?_) | ((first | refine WPA.dec ?_); first | refine .inl ⟨by first | assumption | omega | with_reducible rfl | (refine fun h => h ?_; first | assumption | with_reducible rfl) | (simp only [List.length_append, List.length_cons, List.length_nil, List.length_set] <;> omega) | decide, ?_⟩ | refine .inr ⟨by first | assumption | omega | with_reducible rfl | (refine fun h => h ?_; first | assumption | with_reducible rfl) | (simp only [List.length_append, List.length_cons, List.length_nil, List.length_set] <;> omega) | decide, ?_⟩) | ((first | refine WPA.ifBt ?_ ?_ | refine WPA.ifBnf ?_ ?_); assumption) | ((first | refine WPA.ifBnt ?_ ?_ | refine WPA.ifBf ?_ ?_); assumption) | ((first | refine WPA.ifs ?_ ?_ | refine WPA.ifB ?_ ?_) <;> intro hc))
      refine QQ.loopS ⟨k + 1, x, vs ++ [cur]⟩ ⟨rfl, rfl, rfl, rfl, trivial⟩ ⟨by dsimp only; omega, by simp [hvl]⟩ (by dsimp only; omega) (fun w h => ?_)
      dsimp only
      rw [take_one hget]
      have h2 := (EntC.out (L' := OwnS 4 cur bs :: RowH 4 vs ((chS re gr (ndK kg re gr cn ks)).take k) :: OwnS 35 x (vs ++ [cur]) :: L)).sl h
      exact ((RowH.snoc (by rw [List.length_take, chS_len]; omega)).sl h2).to
  · have hkl' : ¬ (k : Int) < gr.length := by omega
    rw [List.take_of_length_le (by rw [chS_len]; omega)]
    repeat' (first | ((first | refine WLA.m rfl rfl ?_ ?_ | refine WLA.st rfl ?_ ?_ | refine WLA.x rfl rfl ?_ (fun x => ?_) | refine WLA.x0 rfl ?_ (fun x => ?_)); first | exact trivial | exact rfl | assumption | omega | (refine ⟨?_, ?_⟩ <;> omega) | (simp only [Room, List.length_set, List.length_append, List.length_cons, List.length_nil, List.length_replicate]; omega) | decide | skip) | (refine Stp.go ?_) | (refine WPA.ifT ?_) | (refine WPA.ifF ?_) | ((first | refine WPA.dec ?_); first | refine .inl ⟨by first | assumption | omega | with_reducible rfl | (refine fun h => h ?_; first | assumption | with_reducible rfl) | (simp only [List.length_append, List.length_cons, List.length_nil, List.length_set] <;> omega) | decide, ?_⟩ | refine .inr ⟨by first | assumption | omega | with_reducible rfl | (refine fun h => h ?_; first | assumption | with_reducible rfl) | (simp only [List.length_append, List.length_cons, List.length_nil, List.length_set] <;> omega) | decide, ?_⟩) | ((first | refine WPA.ifBt ?_ ?_ | refine WPA.ifBnf ?_ ?_); assumption) | ((first | refine WPA.ifBnt ?_ ?_ | refine WPA.ifBf ?_ ?_); assumption) | ((first | refine WPA.ifs ?_ ?_ | refine WPA.ifB ?_ ?_) <;> intro hc))
    exact QQ.end_ rfl o rfl fun w h => (((GridH.fold (by rw [chS_len]; omega)).sl h).sub hJ.out).to
end
end Go.Proofs.Ytcomkdndddkbeaa
