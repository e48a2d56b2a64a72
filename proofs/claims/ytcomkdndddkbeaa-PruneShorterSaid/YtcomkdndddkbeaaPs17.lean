/- Texts that PruneShorter_law leans on, part 17. Conditions: none. -/
import Derived.Test.YtcomkdndddkbeaaPs16
namespace Go.Proofs.Ytcomkdndddkbeaa
open Go Go.Fw Go.RowKit
set_option linter.unusedVariables false
set_option linter.unusedSimpArgs false
set_option maxRecDepth 100000
set_option maxHeartbeats 16000000
set_option synthInstance.maxHeartbeats 200000
set_option synthInstance.maxSize 100000
attribute [local irreducible] WPA WLA WDA WDQ WDE QQ seqQ blockQ loopQ fnQ OpP OpT Tr TrP SL SLd OwnS LitS Bk BkE Ob
attribute [local irreducible] RowH RowsE RowE ClM
section
structure KS where
  k : Nat
  og : SV
  vs : List SV
end
section
structure IS where
  i : Nat
  cur : SV
  cs : List En
end
section
variable {L : List HP} {w0 : World} {I : Foot}
theorem mClone_trQ {w g : SV} {ws : List ByteArray} {gr : List SV} {A : List (List EV)} {fr : Int} (ha : MdQ I w g ws gr A) (fa : FewA ws A) :
    Tr Try.prog 28 #[.agg #[.int .i64 fr, .slice w.a w.n w.cap, .slice g.a g.n g.cap]] (SL w0 I L) (fun x : SV × SV => .agg #[.int .i64 fr, .slice x.1.a x.1.n x.1.cap, .slice x.2.a x.2.n x.2.cap]) (fun x => SL w0 I (ClM x.1 (x.2, ws, A) :: L)) := by
  refine Tr.intro Try.func28 rfl Try.ntmps28 rfl ?_
  have h1 := ha.words
  have h3 := ha.grams
  have hwl : ws.length ≤ 1000000 := fa.1.1
  have hga := ha.len
  have hgl : gr.length ≤ 1000000 := by have := fa.1.2; omega
  repeat' (first | ((first | refine WLA.m rfl rfl ?_ ?_ | refine WLA.st rfl ?_ ?_ | refine WLA.x rfl rfl ?_ (fun x => ?_) | refine WLA.x0 rfl ?_ (fun x => ?_)); first | exact trivial | exact rfl | assumption | omega | (refine ⟨?_, ?_⟩ <;> omega) | (simp only [Room, List.length_set, List.length_append, List.length_cons, List.length_nil, List.length_replicate]; omega) | decide | skip) | (refine Stp.go ?_) | (refine WPA.ifT ?_) | (refine WPA.ifF ?_) | ((first | refine WPA.dec ?_); first | refine .inl ⟨by first | assumption | omega | with_reducible rfl | (refine fun h => h ?_; first | assumption | with_reducible rfl) | (simp only [List.length_append, List.length_cons, List.length_nil, List.length_set] <;> omega) | decide, ?_⟩ | refine .inr ⟨by first | assumption | omega | with_reducible rfl | (refine fun h => h ?_; first | assumption | with_reducible rfl) | (simp only [List.length_append, List.length_cons, List.length_nil, List.length_set] <;> omega) | decide, ?_⟩) | ((first | refine WPA.ifBt ?_ ?_ | refine WPA.ifBnf ?_ ?_); assumption) | ((first | refine WPA.ifBnt ?_ ?_ | refine WPA.ifBf ?_ ?_); assumption) | ((first | refine WPA.ifs ?_ ?_ | refine WPA.ifB ?_ ?_) <;> intro hc))
  rename_i t1
  revert x; intro t2
  refine WPA.freezeBk (b := t1) ?_
  repeat' (first | ((first | refine WLA.m rfl rfl ?_ ?_ | refine WDQ.m rfl rfl ?_ ?_ | refine WLA.st rfl ?_ ?_ | refine WLA.x rfl rfl ?_ (fun x => ?_) | refine WLA.x0 rfl ?_ (fun x => ?_)); first | exact trivial | exact rfl | assumption | omega | (refine ⟨?_, ?_⟩ <;> omega) | (simp only [Room, List.length_set, List.length_append, List.length_cons, List.length_nil, List.length_replicate]; omega) | decide | skip) | (refine Stp.go ?_) | (guard_target =~ WLA _ _ _ _ _ (⟨_, .call ⟨.value (.func 48), _, _⟩, _, _, _, _⟩ :: _) _ _; first | (refine WLA.call rfl rfl (CloneS_tr hwl) ?_; rintro w') | (refine WLA.call0 rfl (CloneS_tr hwl) ?_; rintro w')) | (refine WPA.ifT ?_) | (refine WPA.ifF ?_) | ((first | refine WPA.dec ?_); first | refine .inl ⟨by first | assumption | omega | with_reducible rfl | (refine fun h => h ?_; first | assumption | with_reducible rfl) | (simp only [List.length_append, List.length_cons, List.length_nil, List.length_set] <;> omega) | decide, ?_⟩ | refine .inr ⟨by first | assumption | omega | with_reducible rfl | (refine fun h => h ?_; first | assumption | with_reducible rfl) | (simp only [List.length_append, List.length_cons, List.length_nil, List.length_set] <;> omega) | decide, ?_⟩) | ((first | refine WPA.ifBt ?_ ?_ | refine WPA.ifBnf ?_ ?_); assumption) | ((first | refine WPA.ifBnt ?_ ?_ | refine WPA.ifBf ?_ ?_); assumption) | ((first | refine WPA.ifs ?_ ?_ | refine WPA.ifB ?_ ?_) <;> intro hc) | (guard_target =~ WPA _ _ _ (.region 1 _ true) _ _ _; refine WPA.drawT 7 (.q 0 (.q 1 (.q 2 (.q 3 (.b false 4 (.q 5 (.e 6 .fin)) false 6 (.e 4 (.q 5 .fin))))))) mixed ?_ ?_; kernel_rfl) | (refine WDA.finish (tl := [⟨_, _, _, _, _, _⟩]) rfl ?_) | (refine WDQ.see rfl ?_) | (first | (refine WDA.two rfl rfl ?_ ?_) | (refine WDA.twoL rfl rfl ?_ ?_) | (refine WDA.twoR rfl rfl ?_ ?_) | (refine WDA.twoW rfl rfl ?_ ?_)) | (refine WDE.see rfl ?_) | (refine WDE.alloc rfl rfl (fun w h => h) (fun x => ?_)) | (refine WDE.stE rfl ?_) | (refine WDE.x rfl rfl ?_ ?_ (fun x => ?_); rotate_left 1; (intro x w h; first | exact h | exact Ent.drop1.sl h | exact SL.unI h | exact SL.to h); rotate_left 1; first | exact trivial | exact rfl | assumption | omega | (refine ⟨?_, ?_⟩ <;> omega) | (simp only [Room, List.length_set, List.length_append, List.length_cons, List.length_nil, List.length_replicate]; omega) | decide | skip) | (guard_target =~ WDE _ _ _ _ _ _ _ ⟨_, .call ⟨.value (.func 48), _, _⟩, _, _, _, _⟩ _ _ _; refine WDE.call rfl rfl (CloneS_tr hwl) ?_ ?_; (intro x w h; first | exact h | exact Ent.drop1.sl h | exact SL.unI h | exact SL.to h); rintro w') | (guard_target =~ WDW _ _ _ _ _ _ _ ⟨_, .call ⟨.value (.func 48), _, _⟩, _, _, _, _⟩ _ _ _; refine WDW.call rfl rfl (CloneS_tr hwl) ?_; rintro w'))
  all_goals
    revert x; intro t3
    have g3 : SlI (BkI t1 25 [.int .i64 fr, .slice w.a w.n w.cap, .slice g.a g.n g.cap] ++ I) g SV inferInstance gr := inferInstance
    have hI : SubI (BkI t1 25 [.int .i64 fr, .slice w.a w.n w.cap, .slice g.a g.n g.cap] ++ I) I := inferInstance
    generalize BkI t1 25 [.int .i64 fr, .slice w.a w.n w.cap, .slice g.a g.n g.cap] ++ I = J at g3 hI
    refine WPA.loopS (σ := KS) (fun y => [(2, .pointer (some ⟨t2, 0, none⟩)), (3, .pointer (some ⟨t3, 0, none⟩)), (16, .slice g.a g.n g.cap), (17, .int .i64 gr.length), (18, .int .i64 y.k)]) (fun y => y.k ≤ gr.length ∧ y.vs.length = y.k)
      (fun y => SL w0 J (Bk t3 25 [.int .i64 fr, .slice w'.a w'.n w'.cap, .slice y.og.a y.og.n y.og.cap] :: OwnS 36 y.og y.vs :: RowsE y.vs (A.take y.k) :: OwnS 9 w' ws :: Bk t2 25 [.int .i64 0, .slice none 0 0, .slice none 0 0] :: L)) (fun y => gr.length - y.k) ⟨0, SV.nil, []⟩ ⟨rfl, rfl, rfl, rfl, rfl, trivial⟩ ⟨Nat.zero_le _, rfl⟩ (fun w h => ?_) ?_
    · have h2 := RowsE.nil.sl h
      show SL w0 J (Bk t3 25 [.int .i64 fr, .slice w'.a w'.n w'.cap, .slice none 0 0] :: OwnS 36 SV.nil ([] : List SV) :: RowsE [] [] :: OwnS 9 w' ws :: Bk t2 25 [.int .i64 0, .slice none 0 0, .slice none 0 0] :: L) w
      exact h2.to
    rintro ⟨k, og, vs⟩ ρ ⟨hk, hvl⟩
    dsimp only at hk hvl ⊢
    by_cases hlt : k < gr.length
    · have hlt' : (k : Int) < gr.length := by omega
      obtain ⟨⟨p1, p2⟩, p3, p4, p5⟩ := ha.at fa hlt
      have p1 := p1.sub (I' := J)
      have p2 : EnG J (rd Int I) (rd En I (at_ gr (k : Int))) := fun p hp => (p2 p hp).sub
      have hAk : A.take (k + 1) = A.take k ++ [enV (rd Int I) (rd En I (at_ gr (k : Int)))] := by rw [List.take_add_one, p3]; rfl
      have hvA : vs.length = (A.take k).length := by rw [List.length_take]; omega
      generalize rd En I (at_ gr (k : Int)) = xs at p1 p2 p3 p4 p5 hAk
      repeat' (first | ((first | refine WLA.m rfl rfl ?_ ?_ | refine WLA.st rfl ?_ ?_ | refine WLA.x rfl rfl ?_ (fun x => ?_) | refine WLA.x0 rfl ?_ (fun x => ?_)); first | exact trivial | exact rfl | assumption | omega | (refine ⟨?_, ?_⟩ <;> omega) | (simp only [Room, List.length_set, List.length_append, List.length_cons, List.length_nil, List.length_replicate]; omega) | decide | skip) | (refine Stp.go ?_) | (refine WPA.ifT ?_) | (refine WPA.ifF ?_) | ((first | refine WPA.dec ?_); first | refine .inl ⟨by first | assumption | omega | with_reducible rfl | (refine fun h => h ?_; first | assumption | with_reducible rfl) | (simp only [List.length_append, List.length_cons, List.length_nil, List.length_set] <;> omega) | decide, ?_⟩ | refine .inr ⟨by first | assumption | omega | with_reducible rfl | (refine fun h => h ?_; first | assumption | with_reducible rfl) | (simp only [List.length_append, List.length_cons, List.length_nil, List.length_set] <;> omega) | decide, ?_⟩) | ((first | refine WPA.ifBt ?_ ?_ | refine WPA.ifBnf ?_ ?_); assumption) | ((first | refine WPA.ifBnt ?_ ?_ | refine WPA.ifBf ?_ ?_); assumption) | ((first | refine WPA.ifs ?_ ?_ | refine WPA.ifB ?_ ?_) <;> intro hc))
      refine WPA.loopS (σ := IS) (fun y => [(2, .pointer (some ⟨t2, 0, none⟩)), (3, .pointer (some ⟨t3, 0, none⟩)), (16, .slice g.a g.n g.cap), (17, .int .i64 gr.length), (18, .int .i64 k), (6, .slice y.cur.a y.cur.n y.cur.cap), (22, .slice (at_ gr (k : Int)).a (at_ gr (k : Int)).n (at_ gr (k : Int)).cap), (23, .int .i64 xs.length), (24, .int .i64 y.i)])
        (fun y => (y.i ≤ xs.length ∧ y.cs.length = y.i) ∧ y.cs.map Prod.snd = (xs.take y.i).map Prod.snd)
        (fun y => SL w0 J (OwnS 54 y.cur y.cs :: RowH 3 (y.cs.map Prod.fst) ((xs.take y.i).map fun p => rd Int I p.1) :: Bk t3 25 [.int .i64 fr, .slice w'.a w'.n w'.cap, .slice og.a og.n og.cap] :: OwnS 36 og vs :: RowsE vs (A.take k) :: OwnS 9 w' ws :: Bk t2 25 [.int .i64 0, .slice none 0 0, .slice none 0 0] :: L)) (fun y => xs.length - y.i) ⟨0, SV.nil, []⟩ ⟨rfl, rfl, rfl, rfl, rfl, rfl, rfl, rfl, rfl, trivial⟩ ⟨⟨Nat.zero_le _, rfl⟩, rfl⟩ (fun w h => ?_) ?_
      · have h2 := (RowH.nil (α := Int) (e := 3)).sl h
        show SL w0 J (OwnS 54 SV.nil ([] : List En) :: RowH 3 [] ([] : List (List Int)) :: Bk t3 25 [.int .i64 fr, .slice w'.a w'.n w'.cap, .slice og.a og.n og.cap] :: OwnS 36 og vs :: RowsE vs (A.take k) :: OwnS 9 w' ws :: Bk t2 25 [.int .i64 0, .slice none 0 0, .slice none 0 0] :: L) w
        exact h2.to
      rintro ⟨i, cur, cs⟩ ρ ⟨⟨hi, hcl⟩, h5⟩
      dsimp only at hi hcl h5 ⊢
      by_cases hlt2 : i < xs.length
      · have hlt2' : (i : Int) < xs.length := by omega
        have ei := at_nat xs i hlt2
        have hm1 : at_ xs (i : Int) ∈ xs := by rw [ei]; exact List.getElem_mem _
        have k1 := p2 _ hm1
        have k5 := p5 _ hm1
        have ht1 : (xs.take (i + 1)).map (fun p => rd Int I p.1) = (xs.take i).map (fun p => rd Int I p.1) ++ [rd Int I (at_ xs (i : Int)).1] := by
          rw [List.take_add_one, List.getElem?_eq_getElem hlt2, ei, List.map_append]; rfl
        have hsn : (cs.map Prod.fst).length = ((xs.take i).map fun p => rd Int I p.1).length := by rw [List.length_map, List.length_map, List.length_take]; omega
        have hcs : ∀ g' : SV, (cs ++ [(g', (at_ xs (i : Int)).2)]).map Prod.snd = (xs.take (i + 1)).map Prod.snd := fun g' => by
          rw [List.map_append, h5, List.take_add_one, List.getElem?_eq_getElem hlt2, ei, List.map_append]; rfl
        generalize hP : at_ xs (i : Int) = p at k1 k5 hcs
        obtain ⟨pG, pP, pB⟩ := p
        dsimp only at k1 k5 hcs
        repeat' (first | ((rw [hP]; dsimp only)) | ((first | refine WLA.m rfl rfl ?_ ?_ | refine WDQ.m rfl rfl ?_ ?_ | refine WLA.st rfl ?_ ?_ | refine WLA.x rfl rfl ?_ (fun x => ?_) | refine WLA.x0 rfl ?_ (fun x => ?_)); first | exact trivial | exact rfl | assumption | omega | (refine ⟨?_, ?_⟩ <;> omega) | (simp only [Room, List.length_set, List.length_append, List.length_cons, List.length_nil, List.length_replicate]; omega) | decide | skip) | (refine Stp.go ?_) | (guard_target =~ WLA _ _ _ _ _ (⟨_, .call ⟨.value (.func 49), _, _⟩, _, _, _, _⟩ :: _) _ _; first | (refine WLA.call rfl rfl (Clone_tr k5) ?_; rintro g') | (refine WLA.call0 rfl (Clone_tr k5) ?_; rintro g')) | (refine WPA.ifT ?_) | (refine WPA.ifF ?_) | ((first | refine WPA.dec ?_); first | refine .inl ⟨by first | assumption | omega | with_reducible rfl | (refine fun h => h ?_; first | assumption | with_reducible rfl) | (simp only [List.length_append, List.length_cons, List.length_nil, List.length_set] <;> omega) | decide, ?_⟩ | refine .inr ⟨by first | assumption | omega | with_reducible rfl | (refine fun h => h ?_; first | assumption | with_reducible rfl) | (simp only [List.length_append, List.length_cons, List.length_nil, List.length_set] <;> omega) | decide, ?_⟩) | ((first | refine WPA.ifBt ?_ ?_ | refine WPA.ifBnf ?_ ?_); assumption) | ((first | refine WPA.ifBnt ?_ ?_ | refine WPA.ifBf ?_ ?_); assumption) | ((first | refine WPA.ifs ?_ ?_ | refine WPA.ifB ?_ ?_) <;> intro hc) | (guard_target =~ WPA _ _ _ (.region 9 _ true) _ _ _; refine WPA.drawT 10 (.q 0 (.q 1 (.q 2 (.q 4 (.q 5 (.q 6 (.q 7 (.e 3 (.q 8 (.e 9 .fin)))))))))) mixed ?_ ?_; kernel_rfl) | (refine WDA.finish (tl := [⟨_, _, _, _, _, _⟩, ⟨_, _, _, _, _, _⟩]) rfl ?_) | (refine WDQ.see rfl ?_) | (refine WDE.see rfl ?_) | (refine WDE.alloc rfl rfl (fun w h => h) (fun x => ?_)) | (refine WDE.stE rfl ?_) | (refine WDE.x rfl rfl ?_ ?_ (fun x => ?_); rotate_left 1; (intro x w h; first | exact h | exact Ent.drop1.sl h | exact SL.unI h | exact SL.to h); rotate_left 1; first | exact trivial | exact rfl | assumption | omega | (refine ⟨?_, ?_⟩ <;> omega) | (simp only [Room, List.length_set, List.length_append, List.length_cons, List.length_nil, List.length_replicate]; omega) | decide | skip) | (guard_target =~ WDE _ _ _ _ _ _ _ ⟨_, .call ⟨.value (.func 49), _, _⟩, _, _, _, _⟩ _ _ _; refine WDE.call rfl rfl (Clone_tr k5) ?_ ?_; (intro x w h; first | exact h | exact Ent.drop1.sl h | exact SL.unI h | exact SL.to h); rintro g') | (guard_target =~ WDW _ _ _ _ _ _ _ ⟨_, .call ⟨.value (.func 49), _, _⟩, _, _, _, _⟩ _ _ _; refine WDW.call rfl rfl (Clone_tr k5) ?_; rintro g'))
        all_goals
          refine QQ.loopS ⟨i + 1, x, cs ++ [(g', (pP, pB))]⟩ ⟨rfl, rfl, rfl, rfl, rfl, rfl, rfl, rfl, rfl, trivial⟩ ⟨⟨hlt2, by simp [hcl]⟩, hcs g'⟩ (by dsimp only; omega) (fun w h => ?_)
          have h2 := (RowH.snoc hsn).sl ((EntC.out (L' := OwnS 3 g' (rd Int I pG) :: RowH 3 (cs.map Prod.fst) ((xs.take i).map fun p => rd Int I p.1) :: OwnS 54 x (cs ++ [(g', (pP, pB))]) :: Bk t3 25 [.int .i64 fr, .slice w'.a w'.n w'.cap, .slice og.a og.n og.cap] :: OwnS 36 og vs :: RowsE vs (A.take k) :: OwnS 9 w' ws :: Bk t2 25 [.int .i64 0, .slice none 0 0, .slice none 0 0] :: L)).sl h)
          dsimp only
          rw [ht1, hP]
          simp only [List.map_append, List.map_cons, List.map_nil]
          exact h2.to
      · have hlt2' : ¬ (i : Int) < xs.length := by omega
        have hie : i = xs.length := by omega
        subst hie
        rw [List.take_length] at h5 ⊢
        refine WPA.ent (RowE.fold (es := enV (rd Int I) xs) (by rw [h5]; unfold enV; rw [List.map_map]; rfl) (by unfold enV; rw [List.map_map]; rfl)) ?_
        refine WPA.ent (EntC.out (L' := RowE cur (enV (rd Int I) xs) :: RowsE vs (A.take k) :: Bk t3 25 [.int .i64 fr, .slice w'.a w'.n w'.cap, .slice og.a og.n og.cap] :: OwnS 36 og vs :: OwnS 9 w' ws :: Bk t2 25 [.int .i64 0, .slice none 0 0, .slice none 0 0] :: L)) ?_
        refine WPA.ent (RowsE.snoc hvA) ?_
        rw [← hAk]
        repeat' (first | ((first | refine WLA.m rfl rfl ?_ ?_ | refine WLA.st rfl ?_ ?_ | refine WLA.x rfl rfl ?_ (fun x => ?_) | refine WLA.x0 rfl ?_ (fun x => ?_)); first | exact trivial | exact rfl | assumption | omega | (refine ⟨?_, ?_⟩ <;> omega) | (simp only [Room, List.length_set, List.length_append, List.length_cons, List.length_nil, List.length_replicate]; omega) | decide | skip) | (refine Stp.go ?_) | (refine WPA.ifT ?_) | (refine WPA.ifF ?_) | ((first | refine WPA.dec ?_); first | refine .inl ⟨by first | assumption | omega | with_reducible rfl | (refine fun h => h ?_; first | assumption | with_reducible rfl) | (simp only [List.length_append, List.length_cons, List.length_nil, List.length_set] <;> omega) | decide, ?_⟩ | refine .inr ⟨by first | assumption | omega | with_reducible rfl | (refine fun h => h ?_; first | assumption | with_reducible rfl) | (simp only [List.length_append, List.length_cons, List.length_nil, List.length_set] <;> omega) | decide, ?_⟩) | ((first | refine WPA.ifBt ?_ ?_ | refine WPA.ifBnf ?_ ?_); assumption) | ((first | refine WPA.ifBnt ?_ ?_ | refine WPA.ifBf ?_ ?_); assumption) | ((first | refine WPA.ifs ?_ ?_ | refine WPA.ifB ?_ ?_) <;> intro hc))
        exact QQ.loopS ⟨k + 1, x, vs ++ [cur]⟩ ⟨rfl, rfl, rfl, rfl, rfl, trivial⟩ ⟨hlt, by simp [hvl]⟩ (by dsimp only; omega) (fun w h => h.to)
    · have hlt' : ¬ (k : Int) < gr.length := by omega
      have hke : k = A.length := by omega
      subst hke
      rw [List.take_length]
      repeat' (first | ((first | refine WLA.m rfl rfl ?_ ?_ | refine WLA.st rfl ?_ ?_ | refine WLA.x rfl rfl ?_ (fun x => ?_) | refine WLA.x0 rfl ?_ (fun x => ?_)); first | exact trivial | exact rfl | assumption | omega | (refine ⟨?_, ?_⟩ <;> omega) | (simp only [Room, List.length_set, List.length_append, List.length_cons, List.length_nil, List.length_replicate]; omega) | decide | skip) | (refine Stp.go ?_) | (refine WPA.ifT ?_) | (refine WPA.ifF ?_) | ((first | refine WPA.dec ?_); first | refine .inl ⟨by first | assumption | omega | with_reducible rfl | (refine fun h => h ?_; first | assumption | with_reducible rfl) | (simp only [List.length_append, List.length_cons, List.length_nil, List.length_set] <;> omega) | decide, ?_⟩ | refine .inr ⟨by first | assumption | omega | with_reducible rfl | (refine fun h => h ?_; first | assumption | with_reducible rfl) | (simp only [List.length_append, List.length_cons, List.length_nil, List.length_set] <;> omega) | decide, ?_⟩) | ((first | refine WPA.ifBt ?_ ?_ | refine WPA.ifBnf ?_ ?_); assumption) | ((first | refine WPA.ifBnt ?_ ?_ | refine WPA.ifBf ?_ ?_); assumption) | ((first | refine WPA.ifs ?_ ?_ | refine WPA.ifB ?_ ?_) <;> intro hc))
      refine QQ.endc rfl (w', og) rfl fun w h => ?_
      have h2 := (EntC.out (L' := OwnS 9 w' ws :: OwnS 36 og vs :: RowsE vs A :: L)).sl h
      exact ((ClM.fold hvl).sl h2).sub hI.out
end
section
theorem mClone_trI {w g : SV} {ws : List ByteArray} {A : List (List EV)} {fr : Int} {L : List HP} {w0 : World} {I : Foot} (ha : MdL I w g ws A) (fa : FewA ws A) :
    Tr Try.prog 28 #[.agg #[.int .i64 fr, .slice w.a w.n w.cap, .slice g.a g.n g.cap]] (SL w0 I L) (fun x : SV × SV => .agg #[.int .i64 fr, .slice x.1.a x.1.n x.1.cap, .slice x.2.a x.2.n x.2.cap]) (fun x => SL w0 I (ClM x.1 (x.2, ws, A) :: L)) := by
  refine Tr.mk fun u hu => ?_
  obtain ⟨gr, hq⟩ := ha.nst hu
  exact (mClone_trQ hq fa).ap hu
end
end Go.Proofs.Ytcomkdndddkbeaa
namespace Go.Proofs.Ytcomkdndddkbeaa
open Go Go.Fw Go.RowKit
set_option linter.unusedVariables false
set_option linter.unusedSimpArgs false
set_option maxRecDepth 100000
set_option maxHeartbeats 16000000
set_option synthInstance.maxHeartbeats 200000
set_option synthInstance.maxSize 100000
attribute [local irreducible] WPA WLA WDA WDQ WDE QQ seqQ blockQ loopQ fnQ OpP OpT Tr TrP SL SLd OwnS LitS Bk BkE Ob
section
variable {α : Type} [Enc α] {L : List HP}
theorem RowH.split {e : TypeId} : ∀ {s1 s2 : List SV} {t1 t2 : List (List α)} {L : List HP}, s1.length = t1.length → Ent (RowH e (s1 ++ s2) (t1 ++ t2) :: L) (RowH e s1 t1 :: RowH e s2 t2 :: L)
  | [], s2, [], t2, L, _ => Ent.intro1 rfl
  | s :: s1, s2, t :: t1, t2, L, h => by
    simp only [List.cons_append, RowH]
    refine Ent.unstar.trans ?_
    refine (Ent.cons (RowH.split (by simpa using h))).trans ?_
    exact Ent.star Ent.refl
  | [], s2, t :: t1, t2, L, h => by simp at h
  | s :: s1, s2, [], t2, L, h => by simp at h
theorem RowH.join {e : TypeId} : ∀ {s1 s2 : List SV} {t1 t2 : List (List α)} {L : List HP}, s1.length = t1.length → Ent (RowH e s1 t1 :: RowH e s2 t2 :: L) (RowH e (s1 ++ s2) (t1 ++ t2) :: L)
  | [], s2, [], t2, L, _ => Ent.drop1
  | s :: s1, s2, t :: t1, t2, L, h => by
    simp only [List.cons_append, RowH]
    refine Ent.unstar.trans ?_
    exact (Ent.cons (RowH.join (by simpa using h))).trans (Ent.star Ent.refl)
  | [], s2, t :: t1, t2, L, h => by simp at h
  | s :: s1, s2, [], t2, L, h => by simp at h
def RowX (e : TypeId) (m : Nat) (ss : List SV) (ts : List (List α)) : HP := star (RowH e (ss.take m) (ts.take m)) (RowH e (ss.drop (m + 2)) (ts.drop (m + 2)))
theorem RowH.focus2 {e : TypeId} {ss : List SV} {ts : List (List α)} (m : Nat) (hi : m + 1 < ss.length) (hl : ss.length = ts.length) :
    Ent (RowH e ss ts :: L) (OwnS e (ss[m]) (ts[m]'(by omega)) :: OwnS e (ss[m + 1]) (ts[m + 1]'(by omega)) :: RowX e m ss ts :: L) := by
  have e1 : ss = ss.take m ++ ss[m] :: ss[m + 1] :: ss.drop (m + 2) := by rw [List.getElem_cons_drop, List.getElem_cons_drop, List.take_append_drop]
  have e2 : ts = ts.take m ++ ts[m] :: ts[m + 1] :: ts.drop (m + 2) := by rw [List.getElem_cons_drop, List.getElem_cons_drop, List.take_append_drop]
  have h0 : Ent (RowH e ss ts :: L) (RowH e (ss.take m ++ ss[m] :: ss[m + 1] :: ss.drop (m + 2)) (ts.take m ++ ts[m] :: ts[m + 1] :: ts.drop (m + 2)) :: L) := by rw [← e1, ← e2]; exact Ent.refl
  refine h0.trans ((RowH.split (by rw [List.length_take, List.length_take]; omega)).trans ?_)
  refine (Ent.cons (Ent.unstar.trans (Ent.cons Ent.unstar))).trans ?_
  refine Ent.swap.trans (Ent.cons ?_)
  refine Ent.swap.trans (Ent.cons ?_)
  exact Ent.star Ent.refl
theorem RowH.back2 {e : TypeId} {ss : List SV} {ts : List (List α)} {t u : List α} (m : Nat) (hi : m + 1 < ss.length) (hl : ss.length = ts.length) :
    Ent (OwnS e (ss[m]) t :: OwnS e (ss[m + 1]) u :: RowX e m ss ts :: L) (RowH e ss ((ts.set m t).set (m + 1) u) :: L) := by
  have e1 : ss = ss.take m ++ ss[m] :: ss[m + 1] :: ss.drop (m + 2) := by rw [List.getElem_cons_drop, List.getElem_cons_drop, List.take_append_drop]
  have e2 : (ts.set m t).set (m + 1) u = ts.take m ++ t :: u :: ts.drop (m + 2) := by
    have e3 : ts = ts.take m ++ ts[m] :: ts[m + 1] :: ts.drop (m + 2) := by rw [List.getElem_cons_drop, List.getElem_cons_drop, List.take_append_drop]
    have hm : (ts.take m).length = m := by rw [List.length_take]; omega
    conv => lhs; rw [e3]
    rw [List.set_append_right _ _ (by omega), hm, Nat.sub_self, List.set_cons_zero, List.set_append_right _ _ (by omega), hm, show m + 1 - m = 1 by omega, List.set_cons_succ, List.set_cons_zero]
  have h0 : Ent (RowH e (ss.take m ++ ss[m] :: ss[m + 1] :: ss.drop (m + 2)) (ts.take m ++ t :: u :: ts.drop (m + 2)) :: L) (RowH e ss ((ts.set m t).set (m + 1) u) :: L) := by rw [← e1, ← e2]; exact Ent.refl
  refine Ent.trans ?_ h0
  have h1 : Ent (OwnS e (ss[m + 1]) u :: RowX e m ss ts :: L) (RowH e (ss.take m) (ts.take m) :: OwnS e (ss[m + 1]) u :: RowH e (ss.drop (m + 2)) (ts.drop (m + 2)) :: L) := (Ent.cons Ent.unstar).trans Ent.swap
  refine (Ent.cons h1).trans (Ent.swap.trans ?_)
  refine Ent.trans ?_ (RowH.join (by rw [List.length_take, List.length_take]; omega))
  exact Ent.cons (Ent.star (Ent.cons (Ent.star Ent.refl)))
end
theorem cmpL_take : ∀ (n : Nat) {a b : List Int}, a.length = b.length → cmpL a b < 0 → cmpL (a.take n) (b.take n) ≤ 0
  | 0, a, b, _, _ => by simp [cmpL]
  | n + 1, [], [], _, h => by simp [cmpL] at h
  | n + 1, x :: a, y :: b, hl, h => by
    simp only [List.take_succ_cons, cmpL] at h ⊢
    split
    · omega
    · rename_i h1
      rw [if_neg h1] at h
      split
      · rename_i h2; rw [if_pos h2] at h; omega
      · rename_i h2; rw [if_neg h2] at h; exact cmpL_take n (by simpa using hl) h
  | n + 1, [], y :: b, hl, _ => by simp at hl
  | n + 1, x :: a, [], hl, _ => by simp at hl
section
variable (n : Nat) (N : Nat → Nat) (G : Nat → Nat → List Int) (Kp : Nat → Nat → Bool)
def bgA (g : List Int) : Prop := ∃ k i : Nat, g.length ≤ k ∧ k < n ∧ i < N k ∧ Kp k i = true ∧ (G k i).take g.length = g
variable {n N G Kp}
theorem chain (hlen : ∀ k i, k < n → i < N k → (G k i).length = k + 1) (hcl : ∀ k i, 0 < k → k < n → i < N k → ∃ j, j < N (k - 1) ∧ G (k - 1) j = (G k i).take k) :
    ∀ (d k i : Nat), k + d < n → i < N (k + d) → ∃ j, j < N k ∧ G k j = (G (k + d) i).take (k + 1)
  | 0, k, i, hk, hi => ⟨i, hi, by rw [List.take_of_length_le (by rw [Nat.add_zero, hlen k i hk hi]; omega)]; rfl⟩
  | d + 1, k, i, hk, hi => by
    obtain ⟨j, h1, h2⟩ := hcl (k + (d + 1)) i (by omega) hk hi
    rw [show k + (d + 1) - 1 = k + d by omega] at h1 h2
    obtain ⟨l, h3, h4⟩ := chain hlen hcl d k j (by omega) h1
    refine ⟨l, h3, ?_⟩
    rw [h4, h2, List.take_take]; congr 1; omega
theorem bg_step (hlen : ∀ k i, k < n → i < N k → (G k i).length = k + 1) (hcl : ∀ k i, 0 < k → k < n → i < N k → ∃ j, j < N (k - 1) ∧ G (k - 1) j = (G k i).take k) {m a : Nat} (hm : m + 1 < n) (ha : a < N m) :
    bgA n N G Kp (G m a) ↔ ∃ i, i < N (m + 1) ∧ (Kp (m + 1) i = true ∨ bgA n N G Kp (G (m + 1) i)) ∧ (G (m + 1) i).take (m + 1) = G m a := by
  have hla := hlen m a (by omega) ha
  constructor
  · rintro ⟨k, i, h1, h2, h3, h4, h5⟩
    rw [hla] at h1 h5
    by_cases hk : k = m + 1
    · subst hk; exact ⟨i, h3, .inl h4, h5⟩
    · obtain ⟨j, g1, g2⟩ := chain hlen hcl (k - (m + 1)) (m + 1) i (by omega) (by rw [show m + 1 + (k - (m + 1)) = k by omega]; exact h3)
      rw [show m + 1 + (k - (m + 1)) = k by omega] at g2
      refine ⟨j, g1, .inr ⟨k, i, by rw [hlen _ _ hm g1]; omega, h2, h3, h4, by rw [hlen _ _ hm g1, g2]⟩, ?_⟩
      rw [g2, List.take_take, Nat.min_eq_left (by omega), h5]
  · rintro ⟨i, h1, h2 | ⟨k, j, h2, h3, h4, h5, h6⟩, h7⟩
    · exact ⟨m + 1, i, by omega, hm, h1, h2, by rw [hla]; exact h7⟩
    · rw [hlen _ _ hm h1] at h2 h6
      refine ⟨k, j, by omega, h3, h4, h5, ?_⟩
      rw [hla, ← h7, ← h6, List.take_take, Nat.min_eq_left (by omega)]
end
end Go.Proofs.Ytcomkdndddkbeaa
namespace Go.Proofs.Ytcomkdndddkbeaa
open Go Go.Fw Go.RowKit
set_option linter.unusedVariables false
set_option linter.unusedSimpArgs false
set_option maxRecDepth 100000
set_option maxHeartbeats 16000000
set_option synthInstance.maxHeartbeats 200000
set_option synthInstance.maxSize 100000
attribute [local irreducible] WPA WLA WDA WDQ WDE QQ seqQ blockQ loopQ fnQ OpP OpT Tr TrP SL SLd OwnS LitS Bk BkE Ob
attribute [local irreducible] TblH VocH GridH RowH RowX
def nN (re : SV → List En) (gr : List SV) (k : Nat) : Nat := (re (at_ gr (k : Int))).length
def nG (kg : SV → List Int) (re : SV → List En) (gr : List SV) (k i : Nat) : List Int := kg (at_ (re (at_ gr (k : Int))) (i : Int)).1
def nK (cn : SV → List Bool) (ks : List SV) (k i : Nat) : Bool := at_ (cn (at_ ks (k : Int))) (i : Int)
abbrev bgP (kg : SV → List Int) (re : SV → List En) (gr : List SV) (cn : SV → List Bool) (ks : List SV) (g : List Int) : Prop := bgA gr.length (nN re gr) (nG kg re gr) (nK cn ks) g
open Classical in
noncomputable def ndK (kg : SV → List Int) (re : SV → List En) (gr : List SV) (cn : SV → List Bool) (ks : List SV) (k i : Nat) : Bool := decide (nK cn ks k i = true ∨ bgP kg re gr cn ks (nG kg re gr k i))
open Classical in
theorem ndK_iff {kg : SV → List Int} {re : SV → List En} {gr : List SV} {cn : SV → List Bool} {ks : List SV} {k i : Nat} : ndK kg re gr cn ks k i = true ↔ (nK cn ks k i = true ∨ bgP kg re gr cn ks (nG kg re gr k i)) := by
  unfold ndK; exact decide_eq_true_iff
end Go.Proofs.Ytcomkdndddkbeaa
namespace Go.Proofs.Ytcomkdndddkbeaa
open Go Go.Fw Go.RowKit
set_option linter.unusedVariables false
set_option linter.unusedSimpArgs false
set_option maxRecDepth 100000
set_option maxHeartbeats 16000000
set_option synthInstance.maxHeartbeats 200000
set_option synthInstance.maxSize 100000
attribute [local irreducible] WPA WLA WDA WDQ WDE QQ seqQ blockQ loopQ fnQ OpP OpT Tr TrP SL SLd OwnS LitS Bk BkE Ob
section
variable {ro : Option Nat} {P : Program} {n : Nat} {Q : Hnd} {ρ : Env} {L : List HP} {w0 : World} {I : Foot} {c : Code}
theorem WPA.grid {x : SV} {bss : List (List Bool)} (k : ∀ svs : List SV, svs.length = bss.length → WPA ro P n c Q ρ (SL w0 I (OwnS 35 x svs :: RowH 4 svs bss :: L))) : WPA ro P n c Q ρ (SL w0 I (GridH x bss :: L)) :=
  WPA.exH fun vs => WPA.pureH fun h => WPA.star (k vs h)
end
attribute [local irreducible] TblH VocH GridH RowH RowX
section
variable {kg : SV → List Int} {re : SV → List En}
theorem chkM_E {fr : Int} {ws : List ByteArray} {gr : List SV} (h : chkM kg re fr ws gr = 0) : ∀ k : Nat, k < gr.length → ∀ i : Nat, i < (re (at_ gr (k : Int))).length → chkE kg ws.length (decide ((k : Int) = (gr.length : Int) - 1)) k (re (at_ gr (k : Int))) (re (at_ gr ((k : Int) - 1))) i = 0 := by
  unfold chkM at h
  split at h
  · cases h
  split at h
  · contradiction
  intro k hk
  have hz := firstN_zero h k hk
  unfold chkL chkLs at hz
  split at hz
  · contradiction
  · rename_i hf; exact firstN_zero (Classical.byContradiction hf)
theorem chkM_cl {fr : Int} {ws : List ByteArray} {gr : List SV} (h : chkM kg re fr ws gr = 0) : ∀ k i : Nat, 0 < k → k < gr.length → i < nN re gr k → ∃ j, j < nN re gr (k - 1) ∧ nG kg re gr (k - 1) j = (nG kg re gr k i).take k := by
  intro k i h0 hk hi
  have hl : (kg (at_ (re (at_ gr (k : Int))) (i : Int)).1).length = k + 1 := (chkM_words h).1 k hk _ (by unfold nN at hi; rw [at_nat _ i hi]; exact List.getElem_mem _)
  have hm := (chkE_gram (chkM_E h k hk i hi)).2.2 h0
  rw [cut_take (by omega)] at hm
  obtain ⟨p, hp, he⟩ := List.mem_map.1 hm
  rw [show (k : Int) - 1 = ((k - 1 : Nat) : Int) by omega] at hp
  obtain ⟨j, hj, rfl⟩ := List.getElem_of_mem hp
  exact ⟨j, hj, by unfold nG; rw [at_nat _ j hj]; exact he⟩
theorem ris_lt {es : List En} (h : RisE kg es) {a b : Nat} (hab : a < b) (hb : b < es.length) : ltL (kg (at_ es (a : Int)).1) (kg (at_ es (b : Int)).1) := by
  have := List.pairwise_iff_getElem.1 h a b (by simp; omega) (by simpa using hb) hab
  rwa [List.getElem_map, List.getElem_map, ← at_nat es a (by omega), ← at_nat es b hb] at this
theorem ris_inj {es : List En} (h : RisE kg es) {a b : Nat} (ha : a < es.length) (hb : b < es.length) (he : kg (at_ es (a : Int)).1 = kg (at_ es (b : Int)).1) : a = b := by
  rcases Nat.lt_trichotomy a b with hh | hh | hh
  · have := ris_lt h hh hb; rw [he] at this; exact absurd this (ltL_irr _)
  · exact hh
  · have := ris_lt h hh ha; rw [he] at this; exact absurd this (ltL_irr _)
end
def LvP (n : Nat) (N : Nat → Nat) (G : Nat → Nat → List Int) (Kp : Nat → Nat → Bool) (k : Nat) (bss : List (List Bool)) : Prop :=
  bss.length = n ∧ ∀ j, j < n → (bss.getD j []).length = N j ∧ ∀ a : Nat, a < N j → (at_ (bss.getD j []) (a : Int) = true ↔ j = 0 ∨ Kp j a = true ∨ (k ≤ j ∧ bgA n N G Kp (G j a)))
section
variable {kg : SV → List Int} {re : SV → List En} {cn : SV → List Bool} {L : List HP} {w0 : World} {I : Foot}
theorem Needed1_tr {gr ks : List SV} {c : SV} {b1 : Nat} {k i : Nat} {e : En} [hb1 : InI I b1 26 [.slice c.a c.n c.cap]] (hc : SlI I c SV inferInstance ks) (hC : ∀ h ∈ ks, SlI I h Bool inferInstance (cn h)) (hF : FitP re gr ks fun h => (cn h).length) (hk : k < gr.length) (hi : i < (re (at_ gr (k : Int))).length) :
    Tr Try.prog 26 #[.int .i64 k, .int .i64 i, .agg #[.slice e.1.a e.1.n e.1.cap, .int .i64 e.2.1, .int .i64 e.2.2], .pointer (some ⟨b1, 0, none⟩)] (SL w0 I L) (fun _ : Unit => .bool (nK cn ks k i)) (fun _ => SL w0 I L) := by
  refine Tr.intro Try.func26 rfl Try.ntmps26 rfl ?_
  obtain ⟨f1, f2⟩ := hF
  have hkc : (k : Int) < ks.length := by omega
  have m1 : at_ ks (k : Int) ∈ ks := by rw [at_nat ks k (by omega)]; exact List.getElem_mem _
  have c1 := hC _ m1
  have hic : (i : Int) < (cn (at_ ks (k : Int))).length := by have := f2 k hk; dsimp only at this; omega
  repeat' (first | ((first | refine WLA.m rfl rfl ?_ ?_ | refine WLA.st rfl ?_ ?_ | refine WLA.x rfl rfl ?_ (fun x => ?_) | refine WLA.x0 rfl ?_ (fun x => ?_)); first | exact trivial | exact rfl | assumption | omega | (refine ⟨?_, ?_⟩ <;> omega) | (simp only [Room, List.length_set, List.length_append, List.length_cons, List.length_nil, List.length_replicate]; omega) | decide | skip) | (refine Stp.go ?_) | (refine WPA.ifT ?_) | (refine WPA.ifF ?_) | ((first | refine WPA.dec ?_); first | refine .inl ⟨by first | assumption | omega | with_reducible rfl | (refine fun h => h ?_; first | assumption | with_reducible rfl) | (simp only [List.length_append, List.length_cons, List.length_nil, List.length_set] <;> omega) | decide, ?_⟩ | refine .inr ⟨by first | assumption | omega | with_reducible rfl | (refine fun h => h ?_; first | assumption | with_reducible rfl) | (simp only [List.length_append, List.length_cons, List.length_nil, List.length_set] <;> omega) | decide, ?_⟩) | ((first | refine WPA.ifBt ?_ ?_ | refine WPA.ifBnf ?_ ?_); assumption) | ((first | refine WPA.ifBnt ?_ ?_ | refine WPA.ifBf ?_ ?_); assumption) | ((first | refine WPA.ifs ?_ ?_ | refine WPA.ifB ?_ ?_) <;> intro hc))
  all_goals exact QQ.end_ rfl () rfl fun w h => h.to
theorem Needed_ok {fr : Int} {wv g c : SV} {ws : List ByteArray} {gr ks : List SV} (hM : MdI I kg re wv g ws gr) (hck : chkM kg re fr ws gr = 0) (hc : SlI I c SV inferInstance ks) (hC : ∀ h ∈ ks, SlI I h Bool inferInstance (cn h)) (hF : FitP re gr ks fun h => (cn h).length) :
    Tr Try.prog 8 #[.agg #[.int .i64 fr, .slice wv.a wv.n wv.cap, .slice g.a g.n g.cap], .slice c.a c.n c.cap] (SL w0 I L) (fun x : SV => .tuple #[.slice x.a x.n x.cap, .int .i64 0]) (fun x => SL w0 I (GridH x (chS re gr (ndK kg re gr cn ks)) :: L)) := by
  refine Tr.intro Try.func8 rfl Try.ntmps8 rfl ?_
  have hck' : ¬ chkM kg re fr ws gr ≠ 0 := fun h => h hck
  have hbt : (true : Bool) = true := rfl
  obtain ⟨z1, z2, z3⟩ := chkM_zero hck
  have hlen : ∀ k i, k < gr.length → i < nN re gr k → (nG kg re gr k i).length = k + 1 := fun k i hk hi => (chkM_words hck).1 k hk _ (by unfold nN at hi; rw [at_nat _ i hi]; exact List.getElem_mem _)
  have hcl := chkM_cl hck
  repeat' ((fail_if_success (guard_target =~ WPA _ _ _ (.region 6 _ _) _ _ _)); first | ((first | refine WLA.m rfl rfl ?_ ?_ | refine WLA.st rfl ?_ ?_ | refine WLA.x rfl rfl ?_ (fun x => ?_) | refine WLA.x0 rfl ?_ (fun x => ?_)); first | exact trivial | exact rfl | assumption | omega | (refine ⟨?_, ?_⟩ <;> omega) | (simp only [Room, List.length_set, List.length_append, List.length_cons, List.length_nil, List.length_replicate]; omega) | decide | skip) | (refine Stp.go ?_) | (guard_target =~ WLA _ _ _ _ _ (⟨_, .call ⟨.value (.func 23), _, _⟩, _, _, _, _⟩ :: _) _ _; first | (refine WLA.call rfl rfl (Check_tr hM) ?_; rintro ⟨⟩) | (refine WLA.call0 rfl (Check_tr hM) ?_; rintro ⟨⟩)) | (guard_target =~ WLA _ _ _ _ _ (⟨_, .call ⟨.value (.func 24), _, _⟩, _, _, _, _⟩ :: _) _ _; first | (refine WLA.call rfl rfl (fitsB_tr (b := true) hM.grams hM.rows hc hC hM.gln ⟨fun _ ↦ hF, fun _ ↦ rfl⟩) ?_; rintro ⟨⟩) | (refine WLA.call0 rfl (fitsB_tr (b := true) hM.grams hM.rows hc hC hM.gln ⟨fun _ ↦ hF, fun _ ↦ rfl⟩) ?_; rintro ⟨⟩)) | (refine WPA.ifT ?_) | (refine WPA.ifF ?_) | ((first | refine WPA.dec ?_); first | refine .inl ⟨by first | assumption | omega | with_reducible rfl | (refine fun h => h ?_; first | assumption | with_reducible rfl) | (simp only [List.length_append, List.length_cons, List.length_nil, List.length_set] <;> omega) | decide, ?_⟩ | refine .inr ⟨by first | assumption | omega | with_reducible rfl | (refine fun h => h ?_; first | assumption | with_reducible rfl) | (simp only [List.length_append, List.length_cons, List.length_nil, List.length_set] <;> omega) | decide, ?_⟩) | ((first | refine WPA.ifBt ?_ ?_ | refine WPA.ifBnf ?_ ?_); assumption) | ((first | refine WPA.ifBnt ?_ ?_ | refine WPA.ifBf ?_ ?_); assumption) | ((first | refine WPA.ifs ?_ ?_ | refine WPA.ifB ?_ ?_) <;> intro hc))
  rename_i t2
  revert x; intro t3
  refine WPA.freezeBk (b := t2) ?_
  refine WPA.freezeBk (b := t3) ?_
  have hM2 : MdI (BkI t3 26 [.slice c.a c.n c.cap] ++ (BkI t2 25 [.int .i64 fr, .slice wv.a wv.n wv.cap, .slice g.a g.n g.cap] ++ I)) kg re wv g ws gr := ⟨hM.words.sub, hM.grams.sub, fun x hx => (hM.rows x hx).sub, fun x hx => (hM.elems x hx).sub, hM.wsz, hM.wln, hM.gln, hM.rln, hM.kln⟩
  have hJ : SubI (BkI t3 26 [.slice c.a c.n c.cap] ++ (BkI t2 25 [.int .i64 fr, .slice wv.a wv.n wv.cap, .slice g.a g.n g.cap] ++ I)) I := inferInstance
  have hI2 : InI (BkI t3 26 [.slice c.a c.n c.cap] ++ (BkI t2 25 [.int .i64 fr, .slice wv.a wv.n wv.cap, .slice g.a g.n g.cap] ++ I)) t2 25 [.int .i64 fr, .slice wv.a wv.n wv.cap, .slice g.a g.n g.cap] := inferInstance
  have hI3 : InI (BkI t3 26 [.slice c.a c.n c.cap] ++ (BkI t2 25 [.int .i64 fr, .slice wv.a wv.n wv.cap, .slice g.a g.n g.cap] ++ I)) t3 26 [.slice c.a c.n c.cap] := inferInstance
  have hc2 : SlI (BkI t3 26 [.slice c.a c.n c.cap] ++ (BkI t2 25 [.int .i64 fr, .slice wv.a wv.n wv.cap, .slice g.a g.n g.cap] ++ I)) c SV inferInstance ks := hc.sub
  have hC2 : ∀ h ∈ ks, SlI (BkI t3 26 [.slice c.a c.n c.cap] ++ (BkI t2 25 [.int .i64 fr, .slice wv.a wv.n wv.cap, .slice g.a g.n g.cap] ++ I)) h Bool inferInstance (cn h) := fun h hh => (hC h hh).sub
  generalize BkI t3 26 [.slice c.a c.n c.cap] ++ (BkI t2 25 [.int .i64 fr, .slice wv.a wv.n wv.cap, .slice g.a g.n g.cap] ++ I) = J at hM2 hJ hI2 hI3 hc2 hC2
  have hg := hM2.grams
  have hgn := hM2.gln
  repeat' ((fail_if_success (guard_target =~ WPA _ _ _ (.region 7 _ _) _ _ _)); first | ((first | refine WLA.m rfl rfl ?_ ?_ | refine WLA.st rfl ?_ ?_ | refine WLA.x rfl rfl ?_ (fun x => ?_) | refine WLA.x0 rfl ?_ (fun x => ?_)); first | exact trivial | exact rfl | assumption | omega | (refine ⟨?_, ?_⟩ <;> omega) | (simp only [Room, List.length_set, List.length_append, List.length_cons, List.length_nil, List.length_replicate]; omega) | decide | skip) | (refine Stp.go ?_) | (guard_target =~ WLA _ _ _ _ _ (⟨_, .call ⟨.value (.func 25), _, _⟩, _, _, _, _⟩ :: _) _ _; first | (refine WLA.call rfl rfl (choice_tr (fid := 26) (caps := [.pointer (some ⟨t3, 0, none⟩)]) (K := nK cn ks) hg hM2.rows hM.gln hM.rln (fun k i L _ hk hi ↦ Needed1_tr hc2 hC2 hF hk hi)) ?_; rintro o) | (refine WLA.call0 rfl (choice_tr (fid := 26) (caps := [.pointer (some ⟨t3, 0, none⟩)]) (K := nK cn ks) hg hM2.rows hM.gln hM.rln (fun k i L _ hk hi ↦ Needed1_tr hc2 hC2 hF hk hi)) ?_; rintro o)) | (refine WPA.ifT ?_) | (refine WPA.ifF ?_) | ((first | refine WPA.dec ?_); first | refine .inl ⟨by first | assumption | omega | with_reducible rfl | (refine fun h => h ?_; first | assumption | with_reducible rfl) | (simp only [List.length_append, List.length_cons, List.length_nil, List.length_set] <;> omega) | decide, ?_⟩ | refine .inr ⟨by first | assumption | omega | with_reducible rfl | (refine fun h => h ?_; first | assumption | with_reducible rfl) | (simp only [List.length_append, List.length_cons, List.length_nil, List.length_set] <;> omega) | decide, ?_⟩) | ((first | refine WPA.ifBt ?_ ?_ | refine WPA.ifBnf ?_ ?_); assumption) | ((first | refine WPA.ifBnt ?_ ?_ | refine WPA.ifBf ?_ ?_); assumption) | ((first | refine WPA.ifs ?_ ?_ | refine WPA.ifB ?_ ?_) <;> intro hc))
  refine WPA.grid fun svs hsv => ?_
  rw [chS_len] at hsv
  have hsz : -9223372036854775808 ≤ (gr.length : Int) - 1 ∧ (gr.length : Int) - 1 ≤ 9223372036854775807 := by omega
  repeat' (first | ((first | refine WLA.m rfl rfl ?_ ?_ | refine WLA.st rfl ?_ ?_ | refine WLA.x rfl rfl ?_ (fun x => ?_) | refine WLA.x0 rfl ?_ (fun x => ?_)); first | exact trivial | exact rfl | assumption | omega | (refine ⟨?_, ?_⟩ <;> omega) | (simp only [Room, List.length_set, List.length_append, List.length_cons, List.length_nil, List.length_replicate]; omega) | decide | skip) | (refine Stp.go ?_) | (refine WPA.ifT ?_) | (refine WPA.ifF ?_) | ((first | refine WPA.dec ?_); first | refine .inl ⟨by first | assumption | omega | with_reducible rfl | (refine fun h => h ?_; first | assumption | with_reducible rfl) | (simp only [List.length_append, List.length_cons, List.length_nil, List.length_set] <;> omega) | decide, ?_⟩ | refine .inr ⟨by first | assumption | omega | with_reducible rfl | (refine fun h => h ?_; first | assumption | with_reducible rfl) | (simp only [List.length_append, List.length_cons, List.length_nil, List.length_set] <;> omega) | decide, ?_⟩) | ((first | refine WPA.ifBt ?_ ?_ | refine WPA.ifBnf ?_ ?_); assumption) | ((first | refine WPA.ifBnt ?_ ?_ | refine WPA.ifBf ?_ ?_); assumption) | ((first | refine WPA.ifs ?_ ?_ | refine WPA.ifB ?_ ?_) <;> intro hc))
  refine WPA.loopS (σ := Nat × List (List Bool)) (fun y => [(2, .pointer (some ⟨t2, 0, none⟩)), (7, .slice o.a o.n o.cap), (8, .int .i64 y.1)]) (fun y => y.1 < gr.length ∧ LvP gr.length (nN re gr) (nG kg re gr) (nK cn ks) y.1 y.2)
    (fun y => SL w0 J (RowH 4 svs y.2 :: OwnS 35 o svs :: L)) (fun y => y.1) (gr.length - 1, chS re gr (nK cn ks)) ⟨rfl, rfl, ?_, trivial⟩ ⟨by dsimp only; omega, ?_⟩ (fun w h => h.to) ?_
  · show Value.int .i64 ((gr.length : Int) - 1) = Value.int .i64 ((gr.length - 1 : Nat) : Int)
    congr 1; omega
  · refine ⟨chS_len, fun j hj => ?_⟩
    rw [getD_some (chS_get hj)]
    refine ⟨by simp [chR, nN], fun a ha => ?_⟩
    rw [at_nat _ a (by simp [chR]; exact ha)]
    have := chR_get (n := (re (at_ gr (j : Int))).length) (K := nK cn ks j) (k := j) ha
    rw [List.getElem?_eq_getElem (by simp [chR]; exact ha)] at this
    injection this with this
    rw [this]
    simp only [Bool.or_eq_true, decide_eq_true_eq]
    constructor
    · rintro (h | h)
      · exact .inl h
      · exact .inr (.inl h)
    · rintro (h | h | ⟨h1, k', i', h2, h3, h4⟩)
      · exact .inl h
      · exact .inr h
      · rw [hlen j a hj ha] at h2; omega
  rintro ⟨k, bss⟩ ρ ⟨hk, hLv⟩
  dsimp only at hk hLv ⊢
  obtain ⟨hbl, hrow⟩ := hLv
  cases k with
  | zero =>
    have h00 : ¬ ((0 : Nat) : Int) > 0 := by omega
    have hfin : bss = chS re gr (ndK kg re gr cn ks) := by
      refine List.ext_getElem (by rw [hbl, chS_len]) fun j h1 h2 => ?_
      obtain ⟨r1, r2⟩ := hrow j (by omega)
      have e1 := chS_get (re := re) (K := ndK kg re gr cn ks) (show j < gr.length by omega)
      rw [List.getElem?_eq_getElem h2] at e1
      injection e1 with e1
      rw [e1]
      have e2 : bss.getD j [] = bss[j] := by rw [List.getD_eq_getElem?_getD, List.getElem?_eq_getElem h1]; rfl
      rw [e2] at r1 r2
      refine List.ext_getElem (by rw [r1]; simp [chR, nN]) fun a a1 a2 => ?_
      have e3 := chR_get (K := ndK kg re gr cn ks j) (k := j) (show a < (re (at_ gr (j : Int))).length by rw [r1] at a1; exact a1)
      rw [List.getElem?_eq_getElem a2] at e3
      injection e3 with e3
      rw [e3, ← at_nat _ a a1, Bool.eq_iff_iff, r2 a (by rw [r1] at a1; exact a1), Bool.or_eq_true, decide_eq_true_eq, ndK_iff]
      exact ⟨fun h => h.elim .inl fun h => .inr (h.elim .inl fun h => .inr h.2), fun h => h.elim .inl fun h => .inr (h.elim .inl fun h => .inr ⟨Nat.zero_le _, h⟩)⟩
    rw [hfin]
    repeat' (first | ((first | refine WLA.m rfl rfl ?_ ?_ | refine WLA.st rfl ?_ ?_ | refine WLA.x rfl rfl ?_ (fun x => ?_) | refine WLA.x0 rfl ?_ (fun x => ?_)); first | exact trivial | exact rfl | assumption | omega | (refine ⟨?_, ?_⟩ <;> omega) | (simp only [Room, List.length_set, List.length_append, List.length_cons, List.length_nil, List.length_replicate]; omega) | decide | skip) | (refine Stp.go ?_) | (refine WPA.ifT ?_) | (refine WPA.ifF ?_) | ((first | refine WPA.dec ?_); first | refine .inl ⟨by first | assumption | omega | with_reducible rfl | (refine fun h => h ?_; first | assumption | with_reducible rfl) | (simp only [List.length_append, List.length_cons, List.length_nil, List.length_set] <;> omega) | decide, ?_⟩ | refine .inr ⟨by first | assumption | omega | with_reducible rfl | (refine fun h => h ?_; first | assumption | with_reducible rfl) | (simp only [List.length_append, List.length_cons, List.length_nil, List.length_set] <;> omega) | decide, ?_⟩) | ((first | refine WPA.ifBt ?_ ?_ | refine WPA.ifBnf ?_ ?_); assumption) | ((first | refine WPA.ifBnt ?_ ?_ | refine WPA.ifBf ?_ ?_); assumption) | ((first | refine WPA.ifs ?_ ?_ | refine WPA.ifB ?_ ?_) <;> intro hc))
    exact QQ.end_ rfl o rfl fun w h => (((GridH.fold (by rw [chS_len]; exact hsv)).sl (h.to : SL w0 J (OwnS 35 o svs :: RowH 4 svs (chS re gr (ndK kg re gr cn ks)) :: L) w)).sub hJ.out)
  | succ m =>
    have h00 : ((m + 1 : Nat) : Int) > 0 := by omega
    have em : (((m + 1 : Nat) : Int) - 1) = (m : Int) := by omega
    have hsm : -9223372036854775808 ≤ ((m + 1 : Nat) : Int) - 1 ∧ ((m + 1 : Nat) : Int) - 1 ≤ 9223372036854775807 := by omega
    have hm1 : m + 1 < svs.length := by omega
    have hml : (0 : Int) ≤ m ∧ (m : Int) < gr.length := by omega
    have hml2 : (0 : Int) ≤ ((m + 1 : Nat) : Int) ∧ ((m + 1 : Nat) : Int) < gr.length := by omega
    have hms : (0 : Int) ≤ m ∧ (m : Int) < svs.length := by omega
    have hms2 : (0 : Int) ≤ ((m + 1 : Nat) : Int) ∧ ((m + 1 : Nat) : Int) < svs.length := by omega
    have hme : at_ gr (m : Int) ∈ gr := by rw [at_nat gr m (by omega)]; exact List.getElem_mem _
    have hme2 : at_ gr ((m + 1 : Nat) : Int) ∈ gr := by rw [at_nat gr (m + 1) hk]; exact List.getElem_mem _
    obtain ⟨r1, r2⟩ := hrow m (by omega)
    obtain ⟨q1, q2⟩ := hrow (m + 1) hk
    have e1 : bss.getD m [] = bss[m]'(by omega) := by rw [List.getD_eq_getElem?_getD, List.getElem?_eq_getElem (by omega)]; rfl
    have e2 : bss.getD (m + 1) [] = bss[m + 1]'(by omega) := by rw [List.getD_eq_getElem?_getD, List.getElem?_eq_getElem (by omega)]; rfl
    have hstep := fun (a : Nat) (ha : a < nN re gr m) => bg_step (Kp := nK cn ks) hlen hcl hk ha
    have hR0 := hM2.rows _ hme
    have hE0 := hM2.elems _ hme
    have hl0 := hM.rln _ hme
    have hk0 := hM.kln _ hme
    have hS0 := z2 _ hme
    have hR1 := hM2.rows _ hme2
    have hE1 := hM2.elems _ hme2
    have hl1 := hM.rln _ hme2
    have hk1 := hM.kln _ hme2
    have hS1 := z2 _ hme2
    have hlen1 := fun i hi => hlen (m + 1) i hk hi
    have hlen0 := fun i hi => hlen m i (by omega) hi
    have hcl1 := fun i hi => hcl (m + 1) i (by omega) hk hi
    have hN0 : nN re gr m = (re (at_ gr (m : Int))).length := rfl
    have hN1 : nN re gr (m + 1) = (re (at_ gr ((m + 1 : Nat) : Int))).length := rfl
    have hG0 : ∀ i, nG kg re gr m i = kg (at_ (re (at_ gr (m : Int))) (i : Int)).1 := fun _ => rfl
    have hG1 : ∀ i, nG kg re gr (m + 1) i = kg (at_ (re (at_ gr ((m + 1 : Nat) : Int))) (i : Int)).1 := fun _ => rfl
    rw [show m + 1 - 1 = m by omega] at hcl1
    simp only [hN0, hN1, hG0, hG1] at hlen0 hlen1 hcl1 hstep r1 r2 q1 q2
    rw [e1] at r1 r2
    rw [e2] at q1 q2
    generalize hes0 : re (at_ gr (m : Int)) = es0 at hR0 hE0 hl0 hk0 hS0 hlen0 hlen1 hcl1 hstep r1 r2 q1 q2
    generalize hes1 : re (at_ gr ((m + 1 : Nat) : Int)) = es at hR1 hE1 hl1 hk1 hS1 hlen0 hlen1 hcl1 hstep r1 r2 q1 q2
    refine WPA.ent (RowH.focus2 m hm1 (by omega)) ?_
    have hx : at_ svs (m : Int) = svs[m] := at_nat svs m (by omega)
    have hy : at_ svs ((m + 1 : Nat) : Int) = svs[m + 1] := at_nat svs (m + 1) hm1
    generalize hlo : bss[m]'(by omega) = lo0 at r1 r2
    generalize hhi : bss[m + 1]'(by omega) = hi at q1 q2
    have hback := fun (lo hi : List Bool) (L : List HP) => RowH.back2 (L := L) (e := 4) (t := lo) (u := hi) m hm1 (show svs.length = bss.length by omega)
    generalize svs[m] = x at hx hback
    generalize svs[m + 1] = y at hy hback
    repeat' (first | ((first | refine WLA.m rfl rfl ?_ ?_ | refine WLA.st rfl ?_ ?_ | refine WLA.x rfl rfl ?_ (fun x => ?_) | refine WLA.x0 rfl ?_ (fun x => ?_)); first | exact trivial | exact rfl | assumption | omega | (refine ⟨?_, ?_⟩ <;> omega) | (simp only [Room, List.length_set, List.length_append, List.length_cons, List.length_nil, List.length_replicate]; omega) | decide | skip) | (refine Stp.go ?_) | (refine WPA.ifT ?_) | (refine WPA.ifF ?_) | ((first | refine WPA.dec ?_); first | refine .inl ⟨by first | assumption | omega | with_reducible rfl | (refine fun h => h ?_; first | assumption | with_reducible rfl) | (simp only [List.length_append, List.length_cons, List.length_nil, List.length_set] <;> omega) | decide, ?_⟩ | refine .inr ⟨by first | assumption | omega | with_reducible rfl | (refine fun h => h ?_; first | assumption | with_reducible rfl) | (simp only [List.length_append, List.length_cons, List.length_nil, List.length_set] <;> omega) | decide, ?_⟩) | ((first | refine WPA.ifBt ?_ ?_ | refine WPA.ifBnf ?_ ?_); assumption) | ((first | refine WPA.ifBnt ?_ ?_ | refine WPA.ifBf ?_ ?_); assumption) | ((first | refine WPA.ifs ?_ ?_ | refine WPA.ifB ?_ ?_) <;> intro hc))
    refine WPA.loopS (σ := Nat × Nat × List Bool) (fun z => [(2, .pointer (some ⟨t2, 0, none⟩)), (7, .slice o.a o.n o.cap), (8, .int .i64 ((m + 1 : Nat) : Int)), (9, .int .i64 z.2.1), (36, .slice (at_ gr ((m + 1 : Nat) : Int)).a (at_ gr ((m + 1 : Nat) : Int)).n (at_ gr ((m + 1 : Nat) : Int)).cap), (37, .int .i64 es.length), (38, .int .i64 z.1)])
      (fun z => (z.1 ≤ es.length ∧ z.2.1 ≤ es0.length ∧ z.2.2.length = es0.length) ∧ (∀ j p : Nat, z.1 ≤ j → j < es.length → p < es0.length → kg (at_ es0 (p : Int)).1 = (kg (at_ es (j : Int)).1).take (m + 1) → z.2.1 ≤ p) ∧ ∀ a : Nat, a < es0.length → (at_ z.2.2 (a : Int) = true ↔ (m = 0 ∨ nK cn ks m a = true) ∨ ∃ i' : Nat, i' < z.1 ∧ at_ hi (i' : Int) = true ∧ (kg (at_ es (i' : Int)).1).take (m + 1) = kg (at_ es0 (a : Int)).1))
      (fun z => SL w0 J (OwnS 4 x z.2.2 :: OwnS 4 y hi :: RowX 4 m svs bss :: OwnS 35 o svs :: L)) (fun z => es.length - z.1) (0, 0, lo0) ⟨rfl, rfl, rfl, rfl, rfl, rfl, rfl, trivial⟩ ⟨⟨Nat.zero_le _, Nat.zero_le _, r1⟩, fun _ p _ _ _ _ => Nat.zero_le p, fun a ha => ?_⟩ (fun w h => h.to) ?_
    · dsimp only
      rw [r2 a ha]
      constructor
      · rintro (h | h | h)
        · exact .inl (.inl h)
        · exact .inl (.inr h)
        · omega
      · rintro ((h | h) | ⟨i', h, _⟩)
        · exact .inl h
        · exact .inr (.inl h)
        · exact absurd h (Nat.not_lt_zero _)
    rintro ⟨i, at1, lo⟩ ρ ⟨⟨hi1, hat, hll⟩, hmin, hlo1⟩
    dsimp only at hi1 hat hll hmin hlo1 ⊢
    by_cases hil : i < es.length
    · have hil' : (i : Int) < es.length := by omega
      have hih : (i : Int) < hi.length := by omega
      obtain ⟨p, hp1, hp2⟩ := hcl1 i hil
      have hatp := hmin i p (Nat.le_refl _) hil hp1 hp2
      have hmi : at_ es (i : Int) ∈ es := by rw [at_nat _ i hil]; exact List.getElem_mem _
      have hGi := hE1 _ hmi
      have hxl := hlen1 i hil
      have hxk : (0 : Int) ≤ ((m + 1 : Nat) : Int) ∧ ((m + 1 : Nat) : Int) ≤ (kg (at_ es (i : Int)).1).length := by omega
      have hct : cutL (kg (at_ es (i : Int)).1) 0 ((m + 1 : Nat) : Int) = (kg (at_ es (i : Int)).1).take (m + 1) := cut_take (by omega)
      have hcn : (cutL (kg (at_ es (i : Int)).1) 0 ((m + 1 : Nat) : Int)).length ≤ 1000000000 := by rw [hct, List.length_take]; have := hk1 _ hmi; omega
      repeat' ((fail_if_success (guard_target =~ WPA _ _ _ (.region 14 _ _) _ _ _)); first | ((first | refine WLA.m rfl rfl ?_ ?_ | refine WLA.st rfl ?_ ?_ | refine WLA.x rfl rfl ?_ (fun x => ?_) | refine WLA.x0 rfl ?_ (fun x => ?_)); first | exact trivial | exact rfl | assumption | omega | (refine ⟨?_, ?_⟩ <;> omega) | (simp only [Room, List.length_set, List.length_append, List.length_cons, List.length_nil, List.length_replicate]; omega) | decide | skip) | (refine Stp.go ?_) | (refine WPA.ifT ?_) | (refine WPA.ifF ?_) | ((first | refine WPA.dec ?_); first | refine .inl ⟨by first | assumption | omega | with_reducible rfl | (refine fun h => h ?_; first | assumption | with_reducible rfl) | (simp only [List.length_append, List.length_cons, List.length_nil, List.length_set] <;> omega) | decide, ?_⟩ | refine .inr ⟨by first | assumption | omega | with_reducible rfl | (refine fun h => h ?_; first | assumption | with_reducible rfl) | (simp only [List.length_append, List.length_cons, List.length_nil, List.length_set] <;> omega) | decide, ?_⟩) | ((first | refine WPA.ifBt ?_ ?_ | refine WPA.ifBnf ?_ ?_); assumption) | ((first | refine WPA.ifBnt ?_ ?_ | refine WPA.ifBf ?_ ?_); assumption) | ((first | refine WPA.ifs ?_ ?_ | refine WPA.ifB ?_ ?_) <;> intro hc))
      revert x; intro z
      refine WPA.loopS (σ := Nat) (fun at2 => [(2, .pointer (some ⟨t2, 0, none⟩)), (7, .slice o.a o.n o.cap), (8, .int .i64 ((m + 1 : Nat) : Int)), (9, .int .i64 at2), (10, .int .i64 i), (11, .pointer (some ⟨z, 0, none⟩)), (36, .slice (at_ gr ((m + 1 : Nat) : Int)).a (at_ gr ((m + 1 : Nat) : Int)).n (at_ gr ((m + 1 : Nat) : Int)).cap), (37, .int .i64 es.length), (38, .int .i64 i)]) (fun at2 => at2 ≤ p)
        (fun _ => SL w0 J (Bk z 54 [.slice (at_ es (i : Int)).1.a (at_ es (i : Int)).1.n (at_ es (i : Int)).1.cap, .int .i64 (at_ es (i : Int)).2.1, .int .i64 (at_ es (i : Int)).2.2] :: OwnS 4 x lo :: OwnS 4 y hi :: RowX 4 m svs bss :: OwnS 35 o svs :: L)) (fun at2 => p - at2) at1 ⟨rfl, rfl, rfl, rfl, rfl, rfl, rfl, rfl, rfl, trivial⟩ hatp (fun w h => h.to) ?_
      rintro at2 ρ hat2
      have h2l : (0 : Int) ≤ at2 ∧ (at2 : Int) < es0.length := by omega
      have hm2i : at_ es0 (at2 : Int) ∈ es0 := by rw [at_nat _ at2 (by omega)]; exact List.getElem_mem _
      have hG2 := hE0 _ hm2i
      have hc0 : (kg (at_ es0 (at2 : Int)).1).length ≤ 1000000000 := by have := hk0 _ hm2i; omega
      by_cases hap : at2 < p
      · have hcm : cmpL (kg (at_ es0 (at2 : Int)).1) (cutL (kg (at_ es (i : Int)).1) 0 ((m + 1 : Nat) : Int)) < 0 := by
          rw [hct, ← hp2]; exact ris_lt hS0 hap hp1
        repeat' (first | ((rw [em])) | ((rw [hes0])) | ((first | refine WLA.m rfl rfl ?_ ?_ | refine WDQ.m rfl rfl ?_ ?_ | refine WLA.st rfl ?_ ?_ | refine WLA.x rfl rfl ?_ (fun x => ?_) | refine WLA.x0 rfl ?_ (fun x => ?_)); first | exact trivial | exact rfl | assumption | omega | (refine ⟨?_, ?_⟩ <;> omega) | (simp only [Room, List.length_set, List.length_append, List.length_cons, List.length_nil, List.length_replicate]; omega) | decide | skip) | (refine Stp.go ?_) | (guard_target =~ WLA _ _ _ _ _ (⟨_, .call ⟨.value (.func 27), _, _⟩, _, _, _, _⟩ :: _) _ _; refine WLA.cq rfl rfl (gCompare_tr hc0 hcn) ?_) | (refine WPA.ifT ?_) | (refine WPA.ifF ?_) | ((first | refine WPA.dec ?_); first | refine .inl ⟨by first | assumption | omega | with_reducible rfl | (refine fun h => h ?_; first | assumption | with_reducible rfl) | (simp only [List.length_append, List.length_cons, List.length_nil, List.length_set] <;> omega) | decide, ?_⟩ | refine .inr ⟨by first | assumption | omega | with_reducible rfl | (refine fun h => h ?_; first | assumption | with_reducible rfl) | (simp only [List.length_append, List.length_cons, List.length_nil, List.length_set] <;> omega) | decide, ?_⟩) | ((first | refine WPA.ifBt ?_ ?_ | refine WPA.ifBnf ?_ ?_); assumption) | ((first | refine WPA.ifBnt ?_ ?_ | refine WPA.ifBf ?_ ?_); assumption) | ((first | refine WPA.ifs ?_ ?_ | refine WPA.ifB ?_ ?_) <;> intro hc) | (guard_target =~ WPA _ _ _ (.region 14 _ true) _ _ _; refine WPA.drawT 14 (.q 0 (.q 1 (.q 2 (.q 3 (.q 4 (.q 5 (.q 6 (.q 7 (.q 8 (.q 9 (.q 10 (.q 11 (.q 12 (.q 13 .fin)))))))))))))) mixed ?_ ?_; kernel_rfl) | (refine WDA.finish (tl := [⟨_, _, _, _, _, _⟩, ⟨_, _, _, _, _, _⟩]) rfl ?_) | (refine WDQ.see rfl ?_) | (guard_target =~ WDQ _ _ _ _ _ _ _ ⟨_, .call ⟨.value (.func 27), _, _⟩, _, _, _, _⟩ _ _ _; refine WDQ.cq rfl rfl (gCompare_tr hc0 hcn) ?_))
        all_goals exact QQ.loopS (at2 + 1) ⟨rfl, rfl, rfl, rfl, rfl, rfl, rfl, rfl, rfl, trivial⟩ hap (by omega) (fun w h => h.to)
      · have hpe : at2 = p := by omega
        subst hpe
        have hcm : ¬ cmpL (kg (at_ es0 (at2 : Int)).1) (cutL (kg (at_ es (i : Int)).1) 0 ((m + 1 : Nat) : Int)) < 0 := by
          rw [hct, ← hp2, cmpL_refl]; omega
        have h2o : (0 : Int) ≤ at2 ∧ (at2 : Int) < lo.length := by omega
        have hnext : ∀ b : Bool, (b = true ↔ at_ lo (at2 : Int) = true ∨ at_ hi (i : Int) = true) →
            (i + 1 ≤ es.length ∧ at2 ≤ es0.length ∧ (lo.set (at2 : Int).toNat b).length = es0.length) ∧ (∀ j p : Nat, i + 1 ≤ j → j < es.length → p < es0.length → kg (at_ es0 (p : Int)).1 = (kg (at_ es (j : Int)).1).take (m + 1) → at2 ≤ p) ∧ ∀ a : Nat, a < es0.length → (at_ (lo.set (at2 : Int).toNat b) (a : Int) = true ↔ (m = 0 ∨ nK cn ks m a = true) ∨ ∃ i' : Nat, i' < i + 1 ∧ at_ hi (i' : Int) = true ∧ (kg (at_ es (i' : Int)).1).take (m + 1) = kg (at_ es0 (a : Int)).1) := by
          intro b hb
          refine ⟨⟨by omega, by omega, by rw [List.length_set]; exact hll⟩, fun j p h1 h2 h3 h4 => ?_, fun a ha => ?_⟩
          · apply Classical.byContradiction
            intro hc
            have hlt := ris_lt hS0 (show p < at2 by omega) hp1
            rw [h4, hp2] at hlt
            have hle := cmpL_take (m + 1) (by rw [hlen1 i hil, hlen1 j h2]) (ris_lt hS1 (show i < j by omega) h2)
            unfold ltL at hlt
            rw [cmpL_swap] at hle
            omega
          · rw [show (at2 : Int).toNat = at2 from rfl]
            by_cases haa : a = at2
            · subst haa
              rw [at_set (by omega), hb, hlo1 a ha]
              constructor
              · rintro ((h | ⟨i', h1, h2, h3⟩) | h)
                · exact .inl h
                · exact .inr ⟨i', by omega, h2, h3⟩
                · exact .inr ⟨i, by omega, h, hp2.symm⟩
              · rintro (h | ⟨i', h1, h2, h3⟩)
                · exact .inl (.inl h)
                · by_cases hii : i' = i
                  · subst hii; exact .inr h2
                  · exact .inl (.inr ⟨i', by omega, h2, h3⟩)
            · rw [at_nat _ a (by rw [List.length_set]; omega), List.getElem_set_ne (by omega), ← at_nat lo a (by omega), hlo1 a ha]
              constructor
              · rintro (h | ⟨i', h1, h2, h3⟩)
                · exact .inl h
                · exact .inr ⟨i', by omega, h2, h3⟩
              · rintro (h | ⟨i', h1, h2, h3⟩)
                · exact .inl h
                · by_cases hii : i' = i
                  · subst hii
                    exact absurd (ris_inj hS0 ha hp1 (by rw [← h3, hp2])) haa
                  · exact .inr ⟨i', by omega, h2, h3⟩
        by_cases hlb : at_ lo (at2 : Int) = true
        · skip
          repeat' (first | ((rw [em])) | ((rw [hes0])) | ((rw [hx])) | ((rw [hlb])) | ((first | refine WLA.m rfl rfl ?_ ?_ | refine WDQ.m rfl rfl ?_ ?_ | refine WLA.st rfl ?_ ?_ | refine WLA.x rfl rfl ?_ (fun x => ?_) | refine WLA.x0 rfl ?_ (fun x => ?_)); first | exact trivial | exact rfl | assumption | omega | (refine ⟨?_, ?_⟩ <;> omega) | (simp only [Room, List.length_set, List.length_append, List.length_cons, List.length_nil, List.length_replicate]; omega) | decide | skip) | (refine Stp.go ?_) | (guard_target =~ WLA _ _ _ _ _ (⟨_, .call ⟨.value (.func 27), _, _⟩, _, _, _, _⟩ :: _) _ _; refine WLA.cq rfl rfl (gCompare_tr hc0 hcn) ?_) | (refine WPA.ifT ?_) | (refine WPA.ifF ?_) | (refine WLA.no rfl rfl ?_) | (refine WDQ.no rfl rfl ?_) | ((first | refine WPA.dec ?_ | ((fail_if_success (guard_target =~ WLA _ _ _ _ _ _ (put1 _ _ (.bool true)) _)); (fail_if_success (guard_target =~ WLA _ _ _ _ _ _ (put1 _ _ (.bool false)) _)); refine WLA.dec rfl rfl ?_) | refine WLA.pk ?_ | refine WDQ.dec rfl rfl ?_); first | refine .inl ⟨by first | assumption | omega | with_reducible rfl | (refine fun h => h ?_; first | assumption | with_reducible rfl) | (simp only [List.length_append, List.length_cons, List.length_nil, List.length_set] <;> omega) | decide, ?_⟩ | refine .inr ⟨by first | assumption | omega | with_reducible rfl | (refine fun h => h ?_; first | assumption | with_reducible rfl) | (simp only [List.length_append, List.length_cons, List.length_nil, List.length_set] <;> omega) | decide, ?_⟩) | ((first | refine WPA.ifBt ?_ ?_ | refine WPA.ifBnf ?_ ?_); assumption) | ((first | refine WPA.ifBnt ?_ ?_ | refine WPA.ifBf ?_ ?_); assumption) | ((first | refine WPA.ifs ?_ ?_ | refine WPA.ifB ?_ ?_) <;> intro hc) | ((fail_if_success (guard_target =~ WLA _ _ _ _ _ _ (put1 _ _ (.bool true)) _)); (fail_if_success (guard_target =~ WLA _ _ _ _ _ _ (put1 _ _ (.bool false)) _)); (first | refine WLA.both rfl rfl ?_ ?_ | refine WLA.bothB rfl rfl ?_ ?_) <;> intro hg) | (guard_target =~ WPA _ _ _ (.region 14 _ true) _ _ _; refine WPA.drawT 14 (.q 0 (.q 1 (.q 2 (.q 3 (.q 4 (.q 5 (.q 6 (.q 7 (.q 8 (.q 9 (.q 10 (.q 11 (.q 12 (.q 13 .fin)))))))))))))) mixed ?_ ?_; kernel_rfl) | (guard_target =~ WPA _ _ _ (.region 16 _ true) _ _ _; refine WPA.drawT 23 (.q 0 (.q 1 (.q 2 (.q 3 (.q 4 (.q 5 (.q 6 (.q 7 (.q 8 (.q 9 (.q 10 (.q 11 (.q 12 (.q 13 (.q 14 (.q 15 (.q 16 (.q 17 (.q 18 (.q 19 (.q 20 (.q 21 (.q 22 .fin))))))))))))))))))))))) mixed ?_ ?_; kernel_rfl) | (refine WDA.finish (tl := [⟨_, _, _, _, _, _⟩, ⟨_, _, _, _, _, _⟩]) rfl ?_) | (refine WDQ.see rfl ?_) | (guard_target =~ WDQ _ _ _ _ _ _ _ ⟨_, .call ⟨.value (.func 27), _, _⟩, _, _, _, _⟩ _ _ _; refine WDQ.cq rfl rfl (gCompare_tr hc0 hcn) ?_) | ((first | refine WDQ.both rfl rfl ?_ ?_) <;> intro hg))
          all_goals exact QQ.loopS (i + 1, at2, lo.set (at2 : Int).toNat true) ⟨rfl, rfl, rfl, rfl, rfl, rfl, rfl, trivial⟩ (hnext true ⟨fun _ => .inl hlb, fun _ => rfl⟩) (by dsimp only; omega) (fun w h => h.to)
        · have hlb' : at_ lo (at2 : Int) = false := by simpa using hlb
          repeat' (first | ((rw [em])) | ((rw [hes0])) | ((rw [hx])) | ((rw [hy])) | ((rw [hlb'])) | ((first | refine WLA.m rfl rfl ?_ ?_ | refine WDQ.m rfl rfl ?_ ?_ | refine WLA.st rfl ?_ ?_ | refine WLA.x rfl rfl ?_ (fun x => ?_) | refine WLA.x0 rfl ?_ (fun x => ?_)); first | exact trivial | exact rfl | assumption | omega | (refine ⟨?_, ?_⟩ <;> omega) | (simp only [Room, List.length_set, List.length_append, List.length_cons, List.length_nil, List.length_replicate]; omega) | decide | skip) | (refine Stp.go ?_) | (guard_target =~ WLA _ _ _ _ _ (⟨_, .call ⟨.value (.func 27), _, _⟩, _, _, _, _⟩ :: _) _ _; refine WLA.cq rfl rfl (gCompare_tr hc0 hcn) ?_) | (refine WPA.ifT ?_) | (refine WPA.ifF ?_) | (refine WLA.no rfl rfl ?_) | (refine WDQ.no rfl rfl ?_) | ((first | refine WPA.dec ?_ | ((fail_if_success (guard_target =~ WLA _ _ _ _ _ _ (put1 _ _ (.bool true)) _)); (fail_if_success (guard_target =~ WLA _ _ _ _ _ _ (put1 _ _ (.bool false)) _)); refine WLA.dec rfl rfl ?_) | refine WLA.pk ?_ | refine WDQ.dec rfl rfl ?_); first | refine .inl ⟨by first | assumption | omega | with_reducible rfl | (refine fun h => h ?_; first | assumption | with_reducible rfl) | (simp only [List.length_append, List.length_cons, List.length_nil, List.length_set] <;> omega) | decide, ?_⟩ | refine .inr ⟨by first | assumption | omega | with_reducible rfl | (refine fun h => h ?_; first | assumption | with_reducible rfl) | (simp only [List.length_append, List.length_cons, List.length_nil, List.length_set] <;> omega) | decide, ?_⟩) | ((first | refine WPA.ifBt ?_ ?_ | refine WPA.ifBnf ?_ ?_); assumption) | ((first | refine WPA.ifBnt ?_ ?_ | refine WPA.ifBf ?_ ?_); assumption) | ((first | refine WPA.ifs ?_ ?_ | refine WPA.ifB ?_ ?_) <;> intro hc) | ((fail_if_success (guard_target =~ WLA _ _ _ _ _ _ (put1 _ _ (.bool true)) _)); (fail_if_success (guard_target =~ WLA _ _ _ _ _ _ (put1 _ _ (.bool false)) _)); (first | refine WLA.both rfl rfl ?_ ?_ | refine WLA.bothB rfl rfl ?_ ?_) <;> intro hg) | (guard_target =~ WPA _ _ _ (.region 14 _ true) _ _ _; refine WPA.drawT 14 (.q 0 (.q 1 (.q 2 (.q 3 (.q 4 (.q 5 (.q 6 (.q 7 (.q 8 (.q 9 (.q 10 (.q 11 (.q 12 (.q 13 .fin)))))))))))))) mixed ?_ ?_; kernel_rfl) | (guard_target =~ WPA _ _ _ (.region 16 _ true) _ _ _; refine WPA.drawT 23 (.q 0 (.q 1 (.q 2 (.q 3 (.q 4 (.q 5 (.q 6 (.q 7 (.q 8 (.q 9 (.q 10 (.q 11 (.q 12 (.q 13 (.q 14 (.q 15 (.q 16 (.q 17 (.q 18 (.q 19 (.q 20 (.q 21 (.q 22 .fin))))))))))))))))))))))) mixed ?_ ?_; kernel_rfl) | (refine WDA.finish (tl := [⟨_, _, _, _, _, _⟩, ⟨_, _, _, _, _, _⟩]) rfl ?_) | (refine WDQ.see rfl ?_) | (guard_target =~ WDQ _ _ _ _ _ _ _ ⟨_, .call ⟨.value (.func 27), _, _⟩, _, _, _, _⟩ _ _ _; refine WDQ.cq rfl rfl (gCompare_tr hc0 hcn) ?_) | ((first | refine WDQ.both rfl rfl ?_ ?_) <;> intro hg))
          all_goals exact QQ.loopS (i + 1, at2, lo.set (at2 : Int).toNat (at_ hi (i : Int))) ⟨rfl, rfl, rfl, rfl, rfl, rfl, rfl, trivial⟩ (hnext _ ⟨fun h => .inr h, fun h => h.resolve_left hlb⟩) (by dsimp only; omega) (fun w h => h.to)
    · have hil' : ¬ (i : Int) < es.length := by omega
      have hie : i = es.length := by omega
      subst hie
      repeat' (first | ((rw [em])) | ((first | refine WLA.m rfl rfl ?_ ?_ | refine WLA.st rfl ?_ ?_ | refine WLA.x rfl rfl ?_ (fun x => ?_) | refine WLA.x0 rfl ?_ (fun x => ?_)); first | exact trivial | exact rfl | assumption | omega | (refine ⟨?_, ?_⟩ <;> omega) | (simp only [Room, List.length_set, List.length_append, List.length_cons, List.length_nil, List.length_replicate]; omega) | decide | skip) | (refine Stp.go ?_) | (refine WPA.ifT ?_) | (refine WPA.ifF ?_) | ((first | refine WPA.dec ?_); first | refine .inl ⟨by first | assumption | omega | with_reducible rfl | (refine fun h => h ?_; first | assumption | with_reducible rfl) | (simp only [List.length_append, List.length_cons, List.length_nil, List.length_set] <;> omega) | decide, ?_⟩ | refine .inr ⟨by first | assumption | omega | with_reducible rfl | (refine fun h => h ?_; first | assumption | with_reducible rfl) | (simp only [List.length_append, List.length_cons, List.length_nil, List.length_set] <;> omega) | decide, ?_⟩) | ((first | refine WPA.ifBt ?_ ?_ | refine WPA.ifBnf ?_ ?_); assumption) | ((first | refine WPA.ifBnt ?_ ?_ | refine WPA.ifBf ?_ ?_); assumption) | ((first | refine WPA.ifs ?_ ?_ | refine WPA.ifB ?_ ?_) <;> intro hc))
      refine QQ.loopS (m, (bss.set m lo).set (m + 1) hi) ⟨rfl, rfl, rfl, trivial⟩ ⟨by dsimp only; omega, by dsimp only; rw [List.length_set, List.length_set]; exact hbl, fun j hj => ?_⟩ (by dsimp only; omega) (fun w h => (hback lo hi (OwnS 35 o svs :: L)).sl h)
      dsimp only
      by_cases hj1 : j = m + 1
      · subst hj1
        rw [getD_some (List.getElem?_set_self (by rw [List.length_set]; omega))]
        refine ⟨by rw [hN1, hes1]; exact q1, fun a ha => ?_⟩
        rw [hN1, hes1] at ha
        rw [q2 a ha, hG1, hes1]
        exact ⟨fun h => h.imp id fun h => h.imp id fun h => ⟨by omega, h.2⟩, fun h => h.imp id fun h => h.imp id fun h => ⟨Nat.le_refl _, h.2⟩⟩
      · by_cases hj2 : j = m
        · subst hj2
          rw [List.getD_eq_getElem?_getD, List.getElem?_set_ne (by omega), List.getElem?_set_self (by omega), Option.getD_some]
          refine ⟨by rw [hN0, hes0]; exact hll, fun a ha => ?_⟩
          rw [hN0, hes0] at ha
          rw [hlo1 a ha, hG0, hes0, hstep a ha]
          constructor
          · rintro ((h | h) | ⟨i', h1, h2, h3⟩)
            · exact .inl h
            · exact .inr (.inl h)
            · refine .inr (.inr ⟨Nat.le_refl _, i', h1, ?_, h3⟩)
              rcases (q2 i' h1).1 h2 with h | h | h
              · omega
              · exact .inl h
              · exact .inr h.2
          · rintro (h | h | ⟨_, i', h1, h2, h3⟩)
            · exact .inl (.inl h)
            · exact .inl (.inr h)
            · refine .inr ⟨i', h1, (q2 i' h1).2 ?_, h3⟩
              rcases h2 with h | h
              · exact .inr (.inl h)
              · exact .inr (.inr ⟨Nat.le_refl _, h⟩)
        · rw [List.getD_eq_getElem?_getD, List.getElem?_set_ne (by omega), List.getElem?_set_ne (by omega), ← List.getD_eq_getElem?_getD]
          obtain ⟨g1, g2⟩ := hrow j hj
          refine ⟨g1, fun a ha => ?_⟩
          rw [g2 a ha]
          exact ⟨fun h => h.imp id fun h => h.imp id fun h => ⟨by omega, h.2⟩, fun h => h.imp id fun h => h.imp id fun h => ⟨by omega, h.2⟩⟩
end
end Go.Proofs.Ytcomkdndddkbeaa
