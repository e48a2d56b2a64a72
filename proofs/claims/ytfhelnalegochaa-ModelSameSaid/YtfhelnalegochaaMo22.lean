/- Another model that is the same: the walk. Conditions: none. -/
import Derived.Test.YtfhelnalegochaaMo21
namespace Go.Proofs.Ytfhelnalegochaa
open Go Go.Fw Go.RowKit
set_option linter.unusedVariables false
set_option linter.unusedSimpArgs false
set_option maxRecDepth 100000
set_option maxHeartbeats 16000000
set_option synthInstance.maxHeartbeats 200000
set_option synthInstance.maxSize 100000
attribute [local irreducible] WPA WLA WDA WDQ WDE QQ seqQ blockQ loopQ fnQ OpP OpT Tr TrP SL SLd OwnS LitS Bk BkE Ob
attribute [local irreducible] TblH VocH RowH RowsE RowE ClM
structure KS where
  k : Nat
  og : SV
  vs : List SV
structure IS where
  i : Nat
  cur : SV
  cs : List En
section
variable {L : List HP} {w0 : World} {I : Foot}
theorem mClone_trQ {w g : SV} {ws : List ByteArray} {gr : List SV} {A : List (List EV)} {fr : Int} (ha : MdQ I w g ws gr A) (fa : FewA ws A) :
    Tr Try.prog 62 #[.agg #[.int .i64 fr, .slice w.a w.n w.cap, .slice g.a g.n g.cap]] (SL w0 I L) (fun x : SV × SV => .agg #[.int .i64 fr, .slice x.1.a x.1.n x.1.cap, .slice x.2.a x.2.n x.2.cap]) (fun x => SL w0 I (ClM x.1 (x.2, ws, A) :: L)) := by
  refine Tr.intro Try.func62 rfl Try.ntmps62 rfl ?_
  have h1 := ha.words
  have h3 := ha.grams
  have hwl : ws.length ≤ 1000000 := fa.1.1
  have hga := ha.len
  have hgl : gr.length ≤ 1000000 := by have := fa.1.2; omega
  repeat' (first | ((first | refine WLA.m rfl rfl ?_ ?_ | refine WLA.st rfl ?_ ?_ | refine WLA.x rfl rfl ?_ (fun x => ?_) | refine WLA.x0 rfl ?_ (fun x => ?_)); first | exact trivial | exact rfl | assumption | omega | (refine ⟨?_, ?_⟩ <;> omega) | (simp only [Room, List.length_set, List.length_append, List.length_cons, List.length_nil, List.length_replicate]; omega) | decide | skip) | (refine Stp.go ?_) | (refine WPA.ifT ?_) | (refine WPA.ifF ?_) | ((first | refine WPA.dec ?_); first | refine .inl ⟨by first | assumption | omega | with_reducible rfl | (refine fun h => h ?_; first | assumption | with_reducible rfl) | (simp only [List.length_append, List.length_cons, List.length_nil, List.length_set] <;> omega) | decide, ?_⟩ | refine .inr ⟨by first | assumption | omega | with_reducible rfl | (refine fun h => h ?_; first | assumption | with_reducible rfl) | (simp only [List.length_append, List.length_cons, List.length_nil, List.length_set] <;> omega) | decide, ?_⟩) | ((first | refine WPA.ifBt ?_ ?_ | refine WPA.ifBnf ?_ ?_); assumption) | ((first | refine WPA.ifBnt ?_ ?_ | refine WPA.ifBf ?_ ?_); assumption) | ((first | refine WPA.ifs ?_ ?_ | refine WPA.ifB ?_ ?_) <;> intro hc))
  rename_i t1
  revert x; intro t2
  refine WPA.freezeBk (b := t1) ?_
  repeat' (first | ((first | refine WLA.m rfl rfl ?_ ?_ | refine WDQ.m rfl rfl ?_ ?_ | refine WLA.st rfl ?_ ?_ | refine WLA.x rfl rfl ?_ (fun x => ?_) | refine WLA.x0 rfl ?_ (fun x => ?_)); first | exact trivial | exact rfl | assumption | omega | (refine ⟨?_, ?_⟩ <;> omega) | (simp only [Room, List.length_set, List.length_append, List.length_cons, List.length_nil, List.length_replicate]; omega) | decide | skip) | (refine Stp.go ?_) | (guard_target =~ WLA _ _ _ _ _ (⟨_, .call ⟨.value (.func 97), _, _⟩, _, _, _, _⟩ :: _) _ _; first | (refine WLA.call rfl rfl (CloneS_tr hwl) ?_; rintro w') | (refine WLA.call0 rfl (CloneS_tr hwl) ?_; rintro w')) | (refine WPA.ifT ?_) | (refine WPA.ifF ?_) | ((first | refine WPA.dec ?_); first | refine .inl ⟨by first | assumption | omega | with_reducible rfl | (refine fun h => h ?_; first | assumption | with_reducible rfl) | (simp only [List.length_append, List.length_cons, List.length_nil, List.length_set] <;> omega) | decide, ?_⟩ | refine .inr ⟨by first | assumption | omega | with_reducible rfl | (refine fun h => h ?_; first | assumption | with_reducible rfl) | (simp only [List.length_append, List.length_cons, List.length_nil, List.length_set] <;> omega) | decide, ?_⟩) | ((first | refine WPA.ifBt ?_ ?_ | refine WPA.ifBnf ?_ ?_); assumption) | ((first | refine WPA.ifBnt ?_ ?_ | refine WPA.ifBf ?_ ?_); assumption) | ((first | refine WPA.ifs ?_ ?_ | refine WPA.ifB ?_ ?_) <;> intro hc) | (guard_target =~ WPA _ _ _ (.region 1 _ true) _ _ _; refine WPA.drawT 7 (.q 0 (.q 1 (.q 2 (.q 3 (.b false 4 (.q 5 (.e 6 .fin)) false 6 (.e 4 (.q 5 .fin))))))) mixed ?_ ?_; kernel_rfl) | (refine WDA.finish (tl := [⟨_, _, _, _, _, _⟩]) rfl ?_) | (refine WDQ.see rfl ?_) | (first | (refine WDA.two rfl rfl ?_ ?_) | (refine WDA.twoL rfl rfl ?_ ?_) | (refine WDA.twoR rfl rfl ?_ ?_) | (refine WDA.twoW rfl rfl ?_ ?_)) | (refine WDE.see rfl ?_) | (refine WDE.alloc rfl rfl (fun w h => h) (fun x => ?_)) | (refine WDE.stE rfl ?_) | (refine WDE.x rfl rfl ?_ ?_ (fun x => ?_); rotate_left 1; (intro x w h; first | exact h | exact Ent.drop1.sl h | exact SL.unI h | exact SL.to h); rotate_left 1; first | exact trivial | exact rfl | assumption | omega | (refine ⟨?_, ?_⟩ <;> omega) | (simp only [Room, List.length_set, List.length_append, List.length_cons, List.length_nil, List.length_replicate]; omega) | decide | skip) | (guard_target =~ WDE _ _ _ _ _ _ _ ⟨_, .call ⟨.value (.func 97), _, _⟩, _, _, _, _⟩ _ _ _; refine WDE.call rfl rfl (CloneS_tr hwl) ?_ ?_; (intro x w h; first | exact h | exact Ent.drop1.sl h | exact SL.unI h | exact SL.to h); rintro w') | (guard_target =~ WDW _ _ _ _ _ _ _ ⟨_, .call ⟨.value (.func 97), _, _⟩, _, _, _, _⟩ _ _ _; refine WDW.call rfl rfl (CloneS_tr hwl) ?_; rintro w'))
  all_goals
    revert x; intro t3
    have g3 : SlI (BkI t1 58 [.int .i64 fr, .slice w.a w.n w.cap, .slice g.a g.n g.cap] ++ I) g SV inferInstance gr := inferInstance
    have hI : SubI (BkI t1 58 [.int .i64 fr, .slice w.a w.n w.cap, .slice g.a g.n g.cap] ++ I) I := inferInstance
    generalize BkI t1 58 [.int .i64 fr, .slice w.a w.n w.cap, .slice g.a g.n g.cap] ++ I = J at g3 hI
    refine WPA.loopS (σ := KS) (fun y => [(2, .pointer (some ⟨t2, 0, none⟩)), (3, .pointer (some ⟨t3, 0, none⟩)), (16, .slice g.a g.n g.cap), (17, .int .i64 gr.length), (18, .int .i64 y.k)]) (fun y => y.k ≤ gr.length ∧ y.vs.length = y.k)
      (fun y => SL w0 J (Bk t3 58 [.int .i64 fr, .slice w'.a w'.n w'.cap, .slice y.og.a y.og.n y.og.cap] :: OwnS 68 y.og y.vs :: RowsE y.vs (A.take y.k) :: OwnS 9 w' ws :: Bk t2 58 [.int .i64 0, .slice none 0 0, .slice none 0 0] :: L)) (fun y => gr.length - y.k) ⟨0, SV.nil, []⟩ ⟨rfl, rfl, rfl, rfl, rfl, trivial⟩ ⟨Nat.zero_le _, rfl⟩ (fun w h => ?_) ?_
    · have h2 := RowsE.nil.sl h
      show SL w0 J (Bk t3 58 [.int .i64 fr, .slice w'.a w'.n w'.cap, .slice none 0 0] :: OwnS 68 SV.nil ([] : List SV) :: RowsE [] [] :: OwnS 9 w' ws :: Bk t2 58 [.int .i64 0, .slice none 0 0, .slice none 0 0] :: L) w
      exact h2.to
    rintro ⟨k, og, vs⟩ ρ ⟨hk, hvl⟩
    dsimp only at hk hvl ⊢
    by_cases hlt : k < gr.length
    · have hlt' : (k : Int) < gr.length := by omega
      obtain ⟨⟨p1, p2⟩, p3, p4, p5⟩ := ha.at fa hlt
      have p1 := p1.sub (I' := J)
      have p2 : EnG J (rd Int I) (rd En I (at_ gr (k : Int))) := fun p hp => (p2 p hp).sub
      have hAk : A.take (k + 1) = A.take k ++ [enV (rd Int I) (rd En I (at_ gr (k : Int)))] := by rw [List.take_add_one, p3]; rfl
      have hvA : vs.length = (A.take k).length := by rw [List.length_take]; omega
      generalize rd En I (at_ gr (k : Int)) = xs at p1 p2 p3 p4 p5 hAk
      repeat' (first | ((first | refine WLA.m rfl rfl ?_ ?_ | refine WLA.st rfl ?_ ?_ | refine WLA.x rfl rfl ?_ (fun x => ?_) | refine WLA.x0 rfl ?_ (fun x => ?_)); first | exact trivial | exact rfl | assumption | omega | (refine ⟨?_, ?_⟩ <;> omega) | (simp only [Room, List.length_set, List.length_append, List.length_cons, List.length_nil, List.length_replicate]; omega) | decide | skip) | (refine Stp.go ?_) | (refine WPA.ifT ?_) | (refine WPA.ifF ?_) | ((first | refine WPA.dec ?_); first | refine .inl ⟨by first | assumption | omega | with_reducible rfl | (refine fun h => h ?_; first | assumption | with_reducible rfl) | (simp only [List.length_append, List.length_cons, List.length_nil, List.length_set] <;> omega) | decide, ?_⟩ | refine .inr ⟨by first | assumption | omega | with_reducible rfl | (refine fun h => h ?_; first | assumption | with_reducible rfl) | (simp only [List.length_append, List.length_cons, List.length_nil, List.length_set] <;> omega) | decide, ?_⟩) | ((first | refine WPA.ifBt ?_ ?_ | refine WPA.ifBnf ?_ ?_); assumption) | ((first | refine WPA.ifBnt ?_ ?_ | refine WPA.ifBf ?_ ?_); assumption) | ((first | refine WPA.ifs ?_ ?_ | refine WPA.ifB ?_ ?_) <;> intro hc))
      refine WPA.loopS (σ := IS) (fun y => [(2, .pointer (some ⟨t2, 0, none⟩)), (3, .pointer (some ⟨t3, 0, none⟩)), (16, .slice g.a g.n g.cap), (17, .int .i64 gr.length), (18, .int .i64 k), (6, .slice y.cur.a y.cur.n y.cur.cap), (22, .slice (at_ gr (k : Int)).a (at_ gr (k : Int)).n (at_ gr (k : Int)).cap), (23, .int .i64 xs.length), (24, .int .i64 y.i)])
        (fun y => (y.i ≤ xs.length ∧ y.cs.length = y.i) ∧ y.cs.map Prod.snd = (xs.take y.i).map Prod.snd)
        (fun y => SL w0 J (OwnS 65 y.cur y.cs :: RowH 3 (y.cs.map Prod.fst) ((xs.take y.i).map fun p => rd Int I p.1) :: Bk t3 58 [.int .i64 fr, .slice w'.a w'.n w'.cap, .slice og.a og.n og.cap] :: OwnS 68 og vs :: RowsE vs (A.take k) :: OwnS 9 w' ws :: Bk t2 58 [.int .i64 0, .slice none 0 0, .slice none 0 0] :: L)) (fun y => xs.length - y.i) ⟨0, SV.nil, []⟩ ⟨rfl, rfl, rfl, rfl, rfl, rfl, rfl, rfl, rfl, trivial⟩ ⟨⟨Nat.zero_le _, rfl⟩, rfl⟩ (fun w h => ?_) ?_
      · have h2 := (RowH.nil (α := Int) (e := 3)).sl h
        show SL w0 J (OwnS 65 SV.nil ([] : List En) :: RowH 3 [] ([] : List (List Int)) :: Bk t3 58 [.int .i64 fr, .slice w'.a w'.n w'.cap, .slice og.a og.n og.cap] :: OwnS 68 og vs :: RowsE vs (A.take k) :: OwnS 9 w' ws :: Bk t2 58 [.int .i64 0, .slice none 0 0, .slice none 0 0] :: L) w
        exact h2.to
      rintro ⟨i, cur, cs⟩ ρ ⟨⟨hi, hcl⟩, h5⟩
      dsimp only at hi hcl h5 ⊢
      by_cases hlt2 : i < xs.length
      · have hlt2' : (i : Int) < xs.length := by omega
        have ei := at_nat xs i hlt2
        have hm1 : at_ xs (i : Int) ∈ xs := by rw [ei]; exact List.getElem_mem _
        have k1 := p2 _ hm1
        have k5 := p5 _ hm1
        have ht1 : (xs.take (i + 1)).map (fun p => rd Int I p.1) = (xs.take i).map (fun p => rd Int I p.1) ++ [rd Int I (at_ xs (i : Int)).1] := by
          rw [List.take_add_one, List.getElem?_eq_getElem hlt2, ei, List.map_append]; rfl
        have hsn : (cs.map Prod.fst).length = ((xs.take i).map fun p => rd Int I p.1).length := by rw [List.length_map, List.length_map, List.length_take]; omega
        have hcs : ∀ g' : SV, (cs ++ [(g', (at_ xs (i : Int)).2)]).map Prod.snd = (xs.take (i + 1)).map Prod.snd := fun g' => by
          rw [List.map_append, h5, List.take_add_one, List.getElem?_eq_getElem hlt2, ei, List.map_append]; rfl
        generalize hP : at_ xs (i : Int) = p at k1 k5 hcs
        obtain ⟨pG, pP, pB⟩ := p
        dsimp only at k1 k5 hcs
        repeat' (first | ((rw [hP]; dsimp only)) | ((first | refine WLA.m rfl rfl ?_ ?_ | refine WDQ.m rfl rfl ?_ ?_ | refine WLA.st rfl ?_ ?_ | refine WLA.x rfl rfl ?_ (fun x => ?_) | refine WLA.x0 rfl ?_ (fun x => ?_)); first | exact trivial | exact rfl | assumption | omega | (refine ⟨?_, ?_⟩ <;> omega) | (simp only [Room, List.length_set, List.length_append, List.length_cons, List.length_nil, List.length_replicate]; omega) | decide | skip) | (refine Stp.go ?_) | (guard_target =~ WLA _ _ _ _ _ (⟨_, .call ⟨.value (.func 72), _, _⟩, _, _, _, _⟩ :: _) _ _; first | (refine WLA.call rfl rfl (Clone_tr k5) ?_; rintro g') | (refine WLA.call0 rfl (Clone_tr k5) ?_; rintro g')) | (refine WPA.ifT ?_) | (refine WPA.ifF ?_) | ((first | refine WPA.dec ?_); first | refine .inl ⟨by first | assumption | omega | with_reducible rfl | (refine fun h => h ?_; first | assumption | with_reducible rfl) | (simp only [List.length_append, List.length_cons, List.length_nil, List.length_set] <;> omega) | decide, ?_⟩ | refine .inr ⟨by first | assumption | omega | with_reducible rfl | (refine fun h => h ?_; first | assumption | with_reducible rfl) | (simp only [List.length_append, List.length_cons, List.length_nil, List.length_set] <;> omega) | decide, ?_⟩) | ((first | refine WPA.ifBt ?_ ?_ | refine WPA.ifBnf ?_ ?_); assumption) | ((first | refine WPA.ifBnt ?_ ?_ | refine WPA.ifBf ?_ ?_); assumption) | ((first | refine WPA.ifs ?_ ?_ | refine WPA.ifB ?_ ?_) <;> intro hc) | (guard_target =~ WPA _ _ _ (.region 9 _ true) _ _ _; refine WPA.drawT 10 (.q 0 (.q 1 (.q 2 (.q 4 (.q 5 (.q 6 (.q 7 (.e 3 (.q 8 (.e 9 .fin)))))))))) mixed ?_ ?_; kernel_rfl) | (refine WDA.finish (tl := [⟨_, _, _, _, _, _⟩, ⟨_, _, _, _, _, _⟩]) rfl ?_) | (refine WDQ.see rfl ?_) | (refine WDE.see rfl ?_) | (refine WDE.alloc rfl rfl (fun w h => h) (fun x => ?_)) | (refine WDE.stE rfl ?_) | (refine WDE.x rfl rfl ?_ ?_ (fun x => ?_); rotate_left 1; (intro x w h; first | exact h | exact Ent.drop1.sl h | exact SL.unI h | exact SL.to h); rotate_left 1; first | exact trivial | exact rfl | assumption | omega | (refine ⟨?_, ?_⟩ <;> omega) | (simp only [Room, List.length_set, List.length_append, List.length_cons, List.length_nil, List.length_replicate]; omega) | decide | skip) | (guard_target =~ WDE _ _ _ _ _ _ _ ⟨_, .call ⟨.value (.func 72), _, _⟩, _, _, _, _⟩ _ _ _; refine WDE.call rfl rfl (Clone_tr k5) ?_ ?_; (intro x w h; first | exact h | exact Ent.drop1.sl h | exact SL.unI h | exact SL.to h); rintro g') | (guard_target =~ WDW _ _ _ _ _ _ _ ⟨_, .call ⟨.value (.func 72), _, _⟩, _, _, _, _⟩ _ _ _; refine WDW.call rfl rfl (Clone_tr k5) ?_; rintro g'))
        all_goals
          refine QQ.loopS ⟨i + 1, x, cs ++ [(g', (pP, pB))]⟩ ⟨rfl, rfl, rfl, rfl, rfl, rfl, rfl, rfl, rfl, trivial⟩ ⟨⟨hlt2, by simp [hcl]⟩, hcs g'⟩ (by dsimp only; omega) (fun w h => ?_)
          have h2 := (RowH.snoc hsn).sl ((EntC.out (L' := OwnS 3 g' (rd Int I pG) :: RowH 3 (cs.map Prod.fst) ((xs.take i).map fun p => rd Int I p.1) :: OwnS 65 x (cs ++ [(g', (pP, pB))]) :: Bk t3 58 [.int .i64 fr, .slice w'.a w'.n w'.cap, .slice og.a og.n og.cap] :: OwnS 68 og vs :: RowsE vs (A.take k) :: OwnS 9 w' ws :: Bk t2 58 [.int .i64 0, .slice none 0 0, .slice none 0 0] :: L)).sl h)
          dsimp only
          rw [ht1, hP]
          simp only [List.map_append, List.map_cons, List.map_nil]
          exact h2.to
      · have hlt2' : ¬ (i : Int) < xs.length := by omega
        have hie : i = xs.length := by omega
        subst hie
        rw [List.take_length] at h5 ⊢
        refine WPA.ent (RowE.fold (es := enV (rd Int I) xs) (by rw [h5]; unfold enV; rw [List.map_map]; rfl) (by unfold enV; rw [List.map_map]; rfl)) ?_
        refine WPA.ent (EntC.out (L' := RowE cur (enV (rd Int I) xs) :: RowsE vs (A.take k) :: Bk t3 58 [.int .i64 fr, .slice w'.a w'.n w'.cap, .slice og.a og.n og.cap] :: OwnS 68 og vs :: OwnS 9 w' ws :: Bk t2 58 [.int .i64 0, .slice none 0 0, .slice none 0 0] :: L)) ?_
        refine WPA.ent (RowsE.snoc hvA) ?_
        rw [← hAk]
        repeat' (first | ((first | refine WLA.m rfl rfl ?_ ?_ | refine WLA.st rfl ?_ ?_ | refine WLA.x rfl rfl ?_ (fun x => ?_) | refine WLA.x0 rfl ?_ (fun x => ?_)); first | exact trivial | exact rfl | assumption | omega | (refine ⟨?_, ?_⟩ <;> omega) | (simp only [Room, List.length_set, List.length_append, List.length_cons, List.length_nil, List.length_replicate]; omega) | decide | skip) | (refine Stp.go ?_) | (refine WPA.ifT ?_) | (refine WPA.ifF ?_) | ((first | refine WPA.dec ?_); first | refine .inl ⟨by first | assumption | omega | with_reducible rfl | (refine fun h => h ?_; first | assumption | with_reducible rfl) | (simp only [List.length_append, List.length_cons, List.length_nil, List.length_set] <;> omega) | decide, ?_⟩ | refine .inr ⟨by first | assumption | omega | with_reducible rfl | (refine fun h => h ?_; first | assumption | with_reducible rfl) | (simp only [List.length_append, List.length_cons, List.length_nil, List.length_set] <;> omega) | decide, ?_⟩) | ((first | refine WPA.ifBt ?_ ?_ | refine WPA.ifBnf ?_ ?_); assumption) | ((first | refine WPA.ifBnt ?_ ?_ | refine WPA.ifBf ?_ ?_); assumption) | ((first | refine WPA.ifs ?_ ?_ | refine WPA.ifB ?_ ?_) <;> intro hc))
        exact QQ.loopS ⟨k + 1, x, vs ++ [cur]⟩ ⟨rfl, rfl, rfl, rfl, rfl, trivial⟩ ⟨hlt, by simp [hvl]⟩ (by dsimp only; omega) (fun w h => h.to)
    · have hlt' : ¬ (k : Int) < gr.length := by omega
      have hke : k = A.length := by omega
      subst hke
      rw [List.take_length]
      repeat' (first | ((first | refine WLA.m rfl rfl ?_ ?_ | refine WLA.st rfl ?_ ?_ | refine WLA.x rfl rfl ?_ (fun x => ?_) | refine WLA.x0 rfl ?_ (fun x => ?_)); first | exact trivial | exact rfl | assumption | omega | (refine ⟨?_, ?_⟩ <;> omega) | (simp only [Room, List.length_set, List.length_append, List.length_cons, List.length_nil, List.length_replicate]; omega) | decide | skip) | (refine Stp.go ?_) | (refine WPA.ifT ?_) | (refine WPA.ifF ?_) | ((first | refine WPA.dec ?_); first | refine .inl ⟨by first | assumption | omega | with_reducible rfl | (refine fun h => h ?_; first | assumption | with_reducible rfl) | (simp only [List.length_append, List.length_cons, List.length_nil, List.length_set] <;> omega) | decide, ?_⟩ | refine .inr ⟨by first | assumption | omega | with_reducible rfl | (refine fun h => h ?_; first | assumption | with_reducible rfl) | (simp only [List.length_append, List.length_cons, List.length_nil, List.length_set] <;> omega) | decide, ?_⟩) | ((first | refine WPA.ifBt ?_ ?_ | refine WPA.ifBnf ?_ ?_); assumption) | ((first | refine WPA.ifBnt ?_ ?_ | refine WPA.ifBf ?_ ?_); assumption) | ((first | refine WPA.ifs ?_ ?_ | refine WPA.ifB ?_ ?_) <;> intro hc))
      refine QQ.endc rfl (w', og) rfl fun w h => ?_
      have h2 := (EntC.out (L' := OwnS 9 w' ws :: OwnS 68 og vs :: RowsE vs A :: L)).sl h
      exact ((ClM.fold hvl).sl h2).sub hI.out
end
end Go.Proofs.Ytfhelnalegochaa
