/- The sum of n-grams, sorted. Conditions: none. -/
import Derived.Test.YtlodbajaoadhdaaGr1
import Derived.Test.YtlodbajaoadhdaaMo1
import Derived.Test.YtlodbajaoadhdaaSlSort
import Derived.Test.YtlodbajaoadhdaaSlLa
namespace Go.Proofs.Ytlodbajaoadhdaa
open Go Go.Fw Go.RowKit
set_option linter.unusedVariables false
set_option linter.unusedSimpArgs false
set_option maxRecDepth 100000
set_option maxHeartbeats 16000000
set_option synthInstance.maxHeartbeats 200000
set_option synthInstance.maxSize 100000
attribute [local irreducible] WPA WLA WDA WDQ WDE QQ seqQ blockQ loopQ fnQ OpP OpT Tr TrP SL SLd OwnS LitS Bk BkE Ob
attribute [local irreducible] RowH
theorem CloneC_tr {a : SV} {xs : List (SV × Int)} {L : List HP} {w0 : World} {I : Foot} [ha : RdS I L a (SV × Int) inferInstance xs] (hn : xs.length ≤ 1000000) : Tr Try.prog 97 #[.slice a.a a.n a.cap] (SL w0 I L) (fun r : SV => .slice r.a r.n r.cap) (fun r => SL w0 I (OwnS 80 r xs :: L)) := by
  refine Tr.intro Try.func97 rfl Try.ntmps97 rfl ?_
  repeat' (first | ((first | refine WLA.m rfl rfl ?_ ?_ | refine WLA.st rfl ?_ ?_ | refine WLA.x rfl rfl ?_ (fun x => ?_) | refine WLA.x0 rfl ?_ (fun x => ?_)); first | exact trivial | exact rfl | assumption | omega | (refine ⟨?_, ?_⟩ <;> omega) | (simp only [Room, List.length_set, List.length_append, List.length_cons, List.length_nil, List.length_replicate]; omega) | decide | skip) | (refine Stp.go ?_) | (refine WPA.ifT ?_) | (refine WPA.ifF ?_) | ((first | refine WPA.dec ?_); first | refine .inl ⟨by first | assumption | omega | with_reducible rfl | (refine fun h => h ?_; assumption) | (simp only [List.length_append, List.length_cons, List.length_nil, List.length_set] <;> omega) | decide, ?_⟩ | refine .inr ⟨by first | assumption | omega | with_reducible rfl | (refine fun h => h ?_; assumption) | (simp only [List.length_append, List.length_cons, List.length_nil, List.length_set] <;> omega) | decide, ?_⟩) | ((first | refine WPA.ifBt ?_ ?_ | refine WPA.ifBnf ?_ ?_); assumption) | ((first | refine WPA.ifBnt ?_ ?_ | refine WPA.ifBf ?_ ?_); assumption) | ((first | refine WPA.ifs ?_ ?_ | refine WPA.ifB ?_ ?_) <;> intro hc))
  · refine QQ.end_ rfl SV.nil rfl fun w h => ?_
    have hr := ha.out w0 w h
    have h0 : xs = [] := by
      have hn := hr.len
      rcases hr.plain with h0 | ⟨b, o, e⟩
      · exact List.eq_nil_of_length_eq_zero (by omega)
      · rw [e] at hc; cases hc
    rw [h0]
    exact h.to
  · exact QQ.end_ rfl x rfl fun w h => h.to
theorem Sum1_tr {x y : SV × Int} {xs ys : List Int} {L : List HP} {w0 : World} {I : Foot} [hx : SlI I x.1 Int inferInstance xs] [hy : SlI I y.1 Int inferInstance ys] (h1 : xs.length ≤ 1000000000) (h2 : ys.length ≤ 1000000000) :
    Tr Try.prog 99 #[.agg #[.slice x.1.a x.1.n x.1.cap, .int .i64 x.2], .agg #[.slice y.1.a y.1.n y.1.cap, .int .i64 y.2]] (SL w0 I L) (fun _ : Unit => .int .i64 (cmpL xs ys)) (fun _ => SL w0 I L) := by
  refine Tr.intro Try.func99 rfl Try.ntmps99 rfl ?_
  repeat' (first | ((first | refine WLA.m rfl rfl ?_ ?_ | refine WLA.st rfl ?_ ?_ | refine WLA.x rfl rfl ?_ (fun x => ?_) | refine WLA.x0 rfl ?_ (fun x => ?_)); first | exact trivial | exact rfl | assumption | omega | (refine ⟨?_, ?_⟩ <;> omega) | (simp only [Room, List.length_set, List.length_append, List.length_cons, List.length_nil, List.length_replicate]; omega) | decide | skip) | (refine Stp.go ?_) | (guard_target =~ WLA _ _ _ _ _ (⟨_, .call ⟨.value (.func 30), _, _⟩, _, _, _, _⟩ :: _) _ _; refine WLA.cq rfl rfl (gCompare_tr h1 h2) ?_) | (refine WPA.ifT ?_) | (refine WPA.ifF ?_) | ((first | refine WPA.dec ?_); first | refine .inl ⟨by first | assumption | omega | with_reducible rfl | (refine fun h => h ?_; assumption) | (simp only [List.length_append, List.length_cons, List.length_nil, List.length_set] <;> omega) | decide, ?_⟩ | refine .inr ⟨by first | assumption | omega | with_reducible rfl | (refine fun h => h ?_; assumption) | (simp only [List.length_append, List.length_cons, List.length_nil, List.length_set] <;> omega) | decide, ?_⟩) | ((first | refine WPA.ifBt ?_ ?_ | refine WPA.ifBnf ?_ ?_); assumption) | ((first | refine WPA.ifBnt ?_ ?_ | refine WPA.ifBf ?_ ?_); assumption) | ((first | refine WPA.ifs ?_ ?_ | refine WPA.ifB ?_ ?_) <;> intro hc))
  exact QQ.end_ rfl () rfl fun w h => h.to
theorem swo_cmpL {α : Type} (f : α → List Int) : Go.Sort.SWO (Go.Proofs.ltOf fun x y : α => cmpL (f x) (f y)) where
  irrefl x := by simp [Go.Proofs.ltOf, cmpL_refl]
  trans x y z h1 h2 := by simp only [Go.Proofs.ltOf, decide_eq_true_eq] at *; exact cmpL_tt h1 h2
  ntrans x y z h1 h2 := by
    simp only [Go.Proofs.ltOf, decide_eq_false_iff_not] at *
    exact leL_tr (a := f z) (b := f y) (c := f x) h2 h1
section
variable {kg : SV → List Int} {L : List HP} {w0 : World} {I : Foot}
theorem sortC_tr {s : SV} {ps : List (SV × Int)} (hg : GrG I kg ps) (hl : ∀ p ∈ ps, (kg p.1).length ≤ 1000000) (hn : ps.length ≤ 100000) :
    Tr Try.prog 98 #[.slice s.a s.n s.cap, .func (.func 99) #[] #[]] (SL w0 I (OwnS 80 s ps :: L)) (fun _ : SortedOf (fun p q : SV × Int => cmpL (kg p.1) (kg q.1)) ps => .tuple #[]) (fun q => SL w0 I (OwnS 80 s q.1 :: L)) :=
  SortFuncK_tr (α := SV × Int) (ρ := Try.sortCount_ren) (caps := []) Try.sortCount Try.isAgg80 Try.sizeOf80 (fun p q : SV × Int => cmpL (kg p.1) (kg q.1)) (swo_cmpL fun x : { x // x ∈ ps } => kg x.1.1) (fun w1 J hJ x hx y hy => by
    haveI : SubI J I := ⟨hJ⟩
    haveI := (hg x hx).sub (I' := J)
    haveI := (hg y hy).sub (I' := J)
    have h1 := hl x hx
    have h2 := hl y hy
    exact Sum1_tr (by omega) (by omega)) (by omega)
structure GS where
  i : Nat
  out : SV
  cs : List (SV × Int)
  ms : List Ct
theorem gSum_tr {s : SV} {ps : List (SV × Int)} [hr : RdS I L s (SV × Int) inferInstance ps] (hg : GrG I kg ps) (hl : ∀ p ∈ ps, (kg p.1).length ≤ 1000000) (hn : ps.length ≤ 100000) :
    Tr Try.prog 45 #[.slice s.a s.n s.cap] (SL w0 I L) (fun x : SV × List (SV × Int) => .slice x.1.a x.1.n x.1.cap)
      (fun x w => x.2.map Prod.snd = (((ps.map (moP kg)).foldl putM []).map Prod.snd) ∧ SL w0 I (OwnS 80 x.1 x.2 :: RowH 3 (x.2.map Prod.fst) (((ps.map (moP kg)).foldl putM []).map Prod.fst) :: L) w) := by
  refine Tr.intro Try.func45 rfl Try.ntmps45 rfl ?_
  repeat' (first | ((first | refine WLA.m rfl rfl ?_ ?_ | refine WLA.st rfl ?_ ?_ | refine WLA.x rfl rfl ?_ (fun x => ?_) | refine WLA.x0 rfl ?_ (fun x => ?_)); first | exact trivial | exact rfl | assumption | omega | (refine ⟨?_, ?_⟩ <;> omega) | (simp only [Room, List.length_set, List.length_append, List.length_cons, List.length_nil, List.length_replicate]; omega) | decide | skip) | (refine Stp.go ?_) | (guard_target =~ WLA _ _ _ _ _ (⟨_, .call ⟨.value (.func 97), _, _⟩, _, _, _, _⟩ :: _) _ _; first | (refine WLA.call rfl rfl (CloneC_tr (by omega)) ?_; rintro own) | (refine WLA.call0 rfl (CloneC_tr (by omega)) ?_; rintro own)) | (guard_target =~ WLA _ _ _ _ _ (⟨_, .call ⟨.value (.func 98), _, _⟩, _, _, _, _⟩ :: _) _ _; first | (refine WLA.call rfl rfl (sortC_tr hg hl hn) ?_; rintro ⟨qs, hq1, hq2⟩; have hql := hq1.length_eq; dsimp only) | (refine WLA.call0 rfl (sortC_tr hg hl hn) ?_; rintro ⟨qs, hq1, hq2⟩; have hql := hq1.length_eq; dsimp only)) | (refine WPA.ifT ?_) | (refine WPA.ifF ?_) | ((first | refine WPA.dec ?_); first | refine .inl ⟨by first | assumption | omega | with_reducible rfl | (refine fun h => h ?_; assumption) | (simp only [List.length_append, List.length_cons, List.length_nil, List.length_set] <;> omega) | decide, ?_⟩ | refine .inr ⟨by first | assumption | omega | with_reducible rfl | (refine fun h => h ?_; assumption) | (simp only [List.length_append, List.length_cons, List.length_nil, List.length_set] <;> omega) | decide, ?_⟩) | ((first | refine WPA.ifBt ?_ ?_ | refine WPA.ifBnf ?_ ?_); assumption) | ((first | refine WPA.ifBnt ?_ ?_ | refine WPA.ifBf ?_ ?_); assumption) | ((first | refine WPA.ifs ?_ ?_ | refine WPA.ifB ?_ ?_) <;> intro hc))
  revert x; intro out0
  have hfold : (qs.map (moP kg)).foldl putM [] = (ps.map (moP kg)).foldl putM [] := (foldl_perm (hq1.map (moP kg)) List.Pairwise.nil).symm
  rw [← hfold]
  refine WPA.loopS (σ := GS) (fun y => [(4, .slice y.out.a y.out.n y.out.cap), (15, .slice own.a own.n own.cap), (16, .int .i64 qs.length), (17, .int .i64 y.i)])
    (fun y => (y.i ≤ qs.length ∧ y.ms.length ≤ y.i) ∧ (y.cs.map Prod.snd = y.ms.map Prod.snd ∧ Ris id y.ms ∧ ∀ m ∈ y.ms, m.1.length ≤ 1000000) ∧ ((qs.drop y.i).map (moP kg)).foldl putM y.ms = (qs.map (moP kg)).foldl putM [] ∧ ∀ m ∈ y.ms, ∀ q ∈ qs.drop y.i, ¬ ltL (kg q.1) m.1)
    (fun y => SL w0 I (OwnS 80 y.out y.cs :: RowH 3 (y.cs.map Prod.fst) (y.ms.map Prod.fst) :: OwnS 80 own qs :: L)) (fun y => qs.length - y.i) ⟨0, out0, [], []⟩ ⟨rfl, rfl, rfl, rfl, trivial⟩ ⟨⟨Nat.zero_le _, Nat.le_refl _⟩, ⟨rfl, List.Pairwise.nil, by simp⟩, rfl, by simp⟩ (fun w h => ?_) ?_
  · have e : List.replicate (Int.toNat 0) ((SV.nil, 0) : SV × Int) = [] := rfl
    rw [e] at h
    have h2 := (RowH.nil (α := Int) (e := 3)).sl h
    show SL w0 I (OwnS 80 out0 ([] : List (SV × Int)) :: RowH 3 [] ([] : List (List Int)) :: OwnS 80 own qs :: L) w
    exact h2.to
  rintro ⟨i, out, cs, ms⟩ ρ ⟨⟨hi, hmi0⟩, ⟨h5, h6, h6b⟩, h7, h8⟩
  dsimp only at hi hmi0 h5 h6 h6b h7 h8 ⊢
  have hcl : cs.length = ms.length := by have := congrArg List.length h5; simpa using this
  by_cases hlt : i < qs.length
  · have hlt' : (i : Int) < qs.length := by omega
    have ei := at_nat qs i hlt
    have hmq : at_ qs (i : Int) ∈ ps := hq1.mem_iff.2 (by rw [ei]; exact List.getElem_mem _)
    have hxs := hg _ hmq
    have hxl := hl _ hmq
    have hdr : qs.drop i = at_ qs (i : Int) :: qs.drop (i + 1) := by rw [ei]; exact List.drop_eq_getElem_cons hlt
    rw [hdr, List.map_cons, List.foldl_cons] at h7
    have hmx : ∀ m ∈ ms, ¬ ltL (kg (at_ qs (i : Int)).1) m.1 := fun m hm => h8 m hm _ (by rw [hdr]; exact List.mem_cons_self ..)
    have hpl := put_last (x := moP kg (at_ qs (i : Int))) h6 hmx
    have hafter : ∀ q ∈ qs.drop (i + 1), ¬ ltL (kg q.1) (kg (at_ qs (i : Int)).1) := by
      have := List.pairwise_cons.1 (hdr ▸ hq2.sublist (List.drop_sublist i qs))
      exact fun q hq => this.1 q hq
    have hris' : Ris id (putM ms (moP kg (at_ qs (i : Int)))) := putL_ris h6
    have hlen' : (putM ms (moP kg (at_ qs (i : Int)))).length ≤ ms.length + 1 := putL_len ms
    have hms' : ∀ m ∈ putM ms (moP kg (at_ qs (i : Int))), m.1.length ≤ 1000000 ∧ ∀ q ∈ qs.drop (i + 1), ¬ ltL (kg q.1) m.1 := by
      intro m hm
      rcases putL_mem m hm with e | ⟨z, hz, e⟩
      · have e : m.1 = kg (at_ qs (i : Int)).1 := e
        rw [e]; exact ⟨hxl, hafter⟩
      · have e : m.1 = z.1 := e
        rw [e]; exact ⟨h6b z hz, fun q hq => h8 z hz q (by rw [hdr]; exact List.mem_cons_of_mem _ hq)⟩
    have hfin : ∀ (cs' : List (SV × Int)), cs'.map Prod.snd = (putM ms (moP kg (at_ qs (i : Int)))).map Prod.snd → ((i + 1 ≤ qs.length ∧ (putM ms (moP kg (at_ qs (i : Int)))).length ≤ i + 1) ∧ (cs'.map Prod.snd = (putM ms (moP kg (at_ qs (i : Int)))).map Prod.snd ∧ Ris id (putM ms (moP kg (at_ qs (i : Int)))) ∧ ∀ m ∈ putM ms (moP kg (at_ qs (i : Int))), m.1.length ≤ 1000000) ∧ ((qs.drop (i + 1)).map (moP kg)).foldl putM (putM ms (moP kg (at_ qs (i : Int)))) = (qs.map (moP kg)).foldl putM [] ∧ ∀ m ∈ putM ms (moP kg (at_ qs (i : Int))), ∀ q ∈ qs.drop (i + 1), ¬ ltL (kg q.1) m.1) :=
      fun cs' h => ⟨⟨hlt, by omega⟩, ⟨h, hris', fun m hm => (hms' m hm).1⟩, h7, fun m hm => (hms' m hm).2⟩
    clear hms' hafter hris' hlen' h7
    have hm2 : moP kg (at_ qs (i : Int)) = (kg (at_ qs (i : Int)).1, (at_ qs (i : Int)).2) := rfl
    rw [hm2] at hpl hfin
    generalize hX : at_ qs (i : Int) = x at hxs hxl hpl hfin hmx
    obtain ⟨xg, xn⟩ := x
    dsimp only at hxs hxl hpl hfin hmx
    have hxl2 : (kg xg).length ≤ 1000000000 := by omega
    by_cases hz : cs.length = 0
    · have hz0 : ¬ (0 : Int) < cs.length := by omega
      have hms0 : ms = [] := List.eq_nil_of_length_eq_zero (by omega)
      rw [dif_neg (fun h => h.1 hms0)] at hpl
      rw [hpl] at hfin
      repeat' (first | ((rw [hX]; dsimp only)) | ((first | refine WLA.m rfl rfl ?_ ?_ | refine WDQ.m rfl rfl ?_ ?_ | refine WLA.st rfl ?_ ?_ | refine WLA.x rfl rfl ?_ (fun x => ?_) | refine WLA.x0 rfl ?_ (fun x => ?_)); first | exact trivial | exact rfl | assumption | omega | (refine ⟨?_, ?_⟩ <;> omega) | (simp only [Room, List.length_set, List.length_append, List.length_cons, List.length_nil, List.length_replicate]; omega) | decide | skip) | (refine Stp.go ?_) | (guard_target =~ WLA _ _ _ _ _ (⟨_, .call ⟨.value (.func 100), _, _⟩, _, _, _, _⟩ :: _) _ _; refine WLA.cq rfl rfl (Equal_tr (by assumption)) ?_) | (guard_target =~ WLA _ _ _ _ _ (⟨_, .call ⟨.value (.func 92), _, _⟩, _, _, _, _⟩ :: _) _ _; first | (refine WLA.call rfl rfl (Clone_tr (by assumption)) ?_; rintro g') | (refine WLA.call0 rfl (Clone_tr (by assumption)) ?_; rintro g')) | (refine WPA.ifT ?_) | (refine WPA.ifF ?_) | (refine WLA.no rfl rfl ?_) | (refine WDQ.no rfl rfl ?_) | ((first | refine WPA.dec ?_ | ((fail_if_success (guard_target =~ WLA _ _ _ _ _ _ (put1 _ _ (.bool true)) _)); (fail_if_success (guard_target =~ WLA _ _ _ _ _ _ (put1 _ _ (.bool false)) _)); refine WLA.dec rfl rfl ?_) | refine WLA.pk ?_ | refine WDQ.dec rfl rfl ?_); first | refine .inl ⟨by first | assumption | omega | with_reducible rfl | (refine fun h => h ?_; assumption) | (simp only [List.length_append, List.length_cons, List.length_nil, List.length_set] <;> omega) | decide, ?_⟩ | refine .inr ⟨by first | assumption | omega | with_reducible rfl | (refine fun h => h ?_; assumption) | (simp only [List.length_append, List.length_cons, List.length_nil, List.length_set] <;> omega) | decide, ?_⟩) | ((first | refine WPA.ifBt ?_ ?_ | refine WPA.ifBnf ?_ ?_); assumption) | ((first | refine WPA.ifBnt ?_ ?_ | refine WPA.ifBf ?_ ?_); assumption) | ((first | refine WPA.ifs ?_ ?_ | refine WPA.ifB ?_ ?_) <;> intro hc) | ((fail_if_success (guard_target =~ WLA _ _ _ _ _ _ (put1 _ _ (.bool true)) _)); (fail_if_success (guard_target =~ WLA _ _ _ _ _ _ (put1 _ _ (.bool false)) _)); (first | refine WLA.both rfl rfl ?_ ?_ | refine WLA.bothB rfl rfl ?_ ?_) <;> intro hg) | (guard_target =~ WPA _ _ _ (.region 8 _ true) _ _ _; refine WPA.drawT 11 (.q 0 (.q 1 (.q 2 (.q 3 (.q 4 (.q 5 (.q 6 (.q 7 (.q 8 (.q 9 (.q 10 .fin))))))))))) mixed ?_ ?_; kernel_rfl) | (guard_target =~ WPA _ _ _ (.region 9 _ true) _ _ _; refine WPA.drawT 8 (.q 0 (.q 1 (.q 2 (.q 3 (.q 4 (.q 5 (.q 6 (.q 7 .fin)))))))) mixed ?_ ?_; kernel_rfl) | (guard_target =~ WPA _ _ _ (.region 10 _ true) _ _ _; refine WPA.drawT 8 (.q 0 (.q 1 (.q 2 (.q 4 (.q 5 (.e 3 (.q 6 (.e 7 .fin)))))))) mixed ?_ ?_; kernel_rfl) | (refine WDA.finish (tl := [⟨_, _, _, _, _, _⟩, ⟨_, _, _, _, _, _⟩]) rfl ?_) | (refine WDA.finish (tl := [⟨_, _, _, _, _, _⟩, ⟨_, _, _, _, _, _⟩, ⟨_, _, _, _, _, _⟩, ⟨_, _, _, _, _, _⟩]) rfl ?_) | (refine WDQ.see rfl ?_) | (refine WDE.see rfl ?_) | (refine WDE.alloc rfl rfl (fun w h => h) (fun x => ?_)) | (refine WDE.stE rfl ?_) | (refine WDE.x rfl rfl ?_ ?_ (fun x => ?_); rotate_left 1; (intro x w h; first | exact h | exact Ent.drop1.sl h | exact SL.unI h | exact SL.to h); rotate_left 1; first | exact trivial | exact rfl | assumption | omega | (refine ⟨?_, ?_⟩ <;> omega) | (simp only [Room, List.length_set, List.length_append, List.length_cons, List.length_nil, List.length_replicate]; omega) | decide | skip) | (guard_target =~ WDQ _ _ _ _ _ _ _ ⟨_, .call ⟨.value (.func 100), _, _⟩, _, _, _, _⟩ _ _ _; refine WDQ.cq rfl rfl (Equal_tr (by assumption)) ?_) | (guard_target =~ WDE _ _ _ _ _ _ _ ⟨_, .call ⟨.value (.func 92), _, _⟩, _, _, _, _⟩ _ _ _; refine WDE.call rfl rfl (Clone_tr (by assumption)) ?_ ?_; (intro x w h; first | exact h | exact Ent.drop1.sl h | exact SL.unI h | exact SL.to h); rintro g') | (guard_target =~ WDW _ _ _ _ _ _ _ ⟨_, .call ⟨.value (.func 92), _, _⟩, _, _, _, _⟩ _ _ _; refine WDW.call rfl rfl (Clone_tr (by assumption)) ?_; rintro g') | ((first | refine WDQ.both rfl rfl ?_ ?_) <;> intro hg))
      have hsn : (cs.map Prod.fst).length = (ms.map Prod.fst).length := by rw [List.length_map, List.length_map, hcl]
      have hcs2 : (cs ++ [(g', xn)]).map Prod.snd = (ms ++ [(kg xg, xn)]).map Prod.snd := by rw [List.map_append, List.map_append, h5]; rfl
      refine QQ.loopS ⟨i + 1, x, cs ++ [(g', xn)], ms ++ [(kg xg, xn)]⟩ ⟨rfl, rfl, rfl, rfl, trivial⟩ (hfin _ hcs2) (by dsimp only; omega) (fun w h => ?_)
      have h2 := (RowH.snoc hsn).sl ((EntC.out (L' := OwnS 3 g' (kg xg) :: RowH 3 (cs.map Prod.fst) (ms.map Prod.fst) :: OwnS 80 x (cs ++ [(g', xn)]) :: OwnS 80 own qs :: L)).sl h)
      dsimp only
      simp only [List.map_append, List.map_cons, List.map_nil]
      exact h2.to
    · have hz0 : (0 : Int) < cs.length := by omega
      have hmi : ms.length - 1 < ms.length := by omega
      have hlast : ms.getD (ms.length - 1) ([], 0) = ms[ms.length - 1] := by simp [List.getD_eq_getElem?_getD, hmi]
      have hci : (cs.length : Int) - 1 = ((ms.length - 1 : Nat) : Int) := by omega
      have hcat : at_ cs ((cs.length : Int) - 1) = cs[ms.length - 1] := by rw [hci]; exact at_nat _ _ (by omega)
      rw [hlast] at hpl
      have hlb := h6b _ (List.getElem_mem hmi)
      have hsnd : (at_ cs ((cs.length : Int) - 1)).2 = ms[ms.length - 1].2 := by
        rw [hcat]
        have := congrArg (fun l => l[ms.length - 1]?) h5
        simp only [List.getElem?_map, List.getElem?_eq_getElem hmi, List.getElem?_eq_getElem (show ms.length - 1 < cs.length by omega), Option.map_some] at this
        injection this
      have hmne : ms ≠ [] := fun e => by rw [e] at hmi; simp at hmi
      haveI hrow : IsRow (cs.map Prod.fst) (ms.map Prod.fst) (at_ cs ((cs.length : Int) - 1)).1 ms[ms.length - 1].1 := ⟨⟨ms.length - 1, by rw [List.length_map]; omega, by rw [List.length_map]; omega, by
        rw [hcat, List.getD_eq_getElem?_getD, List.getElem?_map, List.getElem?_eq_getElem (by omega)]; rfl, by
        rw [List.getD_eq_getElem?_getD, List.getElem?_map, List.getElem?_eq_getElem hmi]; rfl⟩⟩
      have hlb' : ms[ms.length - 1].1.length ≤ 1000000000 := by omega
      by_cases heq : ms[ms.length - 1].1 = kg xg
      · rw [dif_pos ⟨hmne, heq⟩] at hpl
        rw [hpl] at hfin
        have hnat : ((cs.length : Int) - 1).toNat = ms.length - 1 := by omega
        have hf1 : (cs.set ((cs.length : Int) - 1).toNat ((at_ cs ((cs.length : Int) - 1)).1, IntKind.i64.wrap ((at_ cs ((cs.length : Int) - 1)).2 + xn))).map Prod.fst = cs.map Prod.fst := map_set_fst fun y hy => by
          rw [hnat, List.getElem?_eq_getElem (by omega)] at hy; injection hy with hy; show y.1 = (at_ cs ((cs.length : Int) - 1)).1; rw [hcat, ← hy]
        have hf2 : (ms.set (ms.length - 1) (kg xg, addN ms[ms.length - 1].2 xn)).map Prod.fst = ms.map Prod.fst := map_set_fst fun y hy => by
          rw [List.getElem?_eq_getElem hmi] at hy; injection hy with hy; show y.1 = kg xg; rw [← heq, ← hy]
        have hcs2 : (cs.set ((cs.length : Int) - 1).toNat ((at_ cs ((cs.length : Int) - 1)).1, IntKind.i64.wrap ((at_ cs ((cs.length : Int) - 1)).2 + xn))).map Prod.snd = (ms.set (ms.length - 1) (kg xg, addN ms[ms.length - 1].2 xn)).map Prod.snd := by
          rw [hnat]; exact map_set_snd h5 (by rw [hsnd])
        repeat' (first | ((rw [hX]; dsimp only)) | ((first | refine WLA.m rfl rfl ?_ ?_ | refine WDQ.m rfl rfl ?_ ?_ | refine WLA.st rfl ?_ ?_ | refine WLA.x rfl rfl ?_ (fun x => ?_) | refine WLA.x0 rfl ?_ (fun x => ?_)); first | exact trivial | exact rfl | assumption | omega | (refine ⟨?_, ?_⟩ <;> omega) | (simp only [Room, List.length_set, List.length_append, List.length_cons, List.length_nil, List.length_replicate]; omega) | decide | skip) | (refine Stp.go ?_) | (guard_target =~ WLA _ _ _ _ _ (⟨_, .call ⟨.value (.func 100), _, _⟩, _, _, _, _⟩ :: _) _ _; refine WLA.cq rfl rfl (Equal_tr (by assumption)) ?_) | (refine WPA.ifT ?_) | (refine WPA.ifF ?_) | (refine WLA.no rfl rfl ?_) | (refine WDQ.no rfl rfl ?_) | ((first | refine WPA.dec ?_ | ((fail_if_success (guard_target =~ WLA _ _ _ _ _ _ (put1 _ _ (.bool true)) _)); (fail_if_success (guard_target =~ WLA _ _ _ _ _ _ (put1 _ _ (.bool false)) _)); refine WLA.dec rfl rfl ?_) | refine WLA.pk ?_ | refine WDQ.dec rfl rfl ?_); first | refine .inl ⟨by first | assumption | omega | with_reducible rfl | (refine fun h => h ?_; assumption) | (simp only [List.length_append, List.length_cons, List.length_nil, List.length_set] <;> omega) | decide, ?_⟩ | refine .inr ⟨by first | assumption | omega | with_reducible rfl | (refine fun h => h ?_; assumption) | (simp only [List.length_append, List.length_cons, List.length_nil, List.length_set] <;> omega) | decide, ?_⟩) | ((first | refine WPA.ifBt ?_ ?_ | refine WPA.ifBnf ?_ ?_); assumption) | ((first | refine WPA.ifBnt ?_ ?_ | refine WPA.ifBf ?_ ?_); assumption) | ((first | refine WPA.ifs ?_ ?_ | refine WPA.ifB ?_ ?_) <;> intro hc) | ((fail_if_success (guard_target =~ WLA _ _ _ _ _ _ (put1 _ _ (.bool true)) _)); (fail_if_success (guard_target =~ WLA _ _ _ _ _ _ (put1 _ _ (.bool false)) _)); (first | refine WLA.both rfl rfl ?_ ?_ | refine WLA.bothB rfl rfl ?_ ?_) <;> intro hg) | (guard_target =~ WPA _ _ _ (.region 8 _ true) _ _ _; refine WPA.drawT 11 (.q 0 (.q 1 (.q 2 (.q 3 (.q 4 (.q 5 (.q 6 (.q 7 (.q 8 (.q 9 (.q 10 .fin))))))))))) mixed ?_ ?_; kernel_rfl) | (refine WDA.finish (tl := [⟨_, _, _, _, _, _⟩, ⟨_, _, _, _, _, _⟩]) rfl ?_) | (refine WDQ.see rfl ?_) | (guard_target =~ WDQ _ _ _ _ _ _ _ ⟨_, .call ⟨.value (.func 100), _, _⟩, _, _, _, _⟩ _ _ _; refine WDQ.cq rfl rfl (Equal_tr (by assumption)) ?_) | ((first | refine WDQ.both rfl rfl ?_ ?_) <;> intro hg))
        repeat' ((fail_if_success (guard_target =~ WPA _ _ _ (.region 11 _ _) _ _ _)); first | (guard_target =~ WLA _ _ _ _ _ (⟨_, .binOp .add _ _ _ _, _, _, _, _⟩ :: _) _ _; refine WLA.m (h := addW) rfl rfl trivial ?_) | (guard_target =~ WDQ _ _ _ _ _ _ _ ⟨_, .binOp .add _ _ _ _, _, _, _, _⟩ _ _ _; refine WDQ.m (h := addW) rfl rfl trivial ?_) | (guard_target =~ WDP _ _ _ _ _ _ _ ⟨_, .binOp .add _ _ _ _, _, _, _, _⟩ _ _ _; refine WDP.m (h := addW) rfl rfl trivial ?_) | ((first | refine WLA.m rfl rfl ?_ ?_ | refine WDQ.m rfl rfl ?_ ?_ | refine WLA.st rfl ?_ ?_ | refine WLA.x rfl rfl ?_ (fun x => ?_) | refine WLA.x0 rfl ?_ (fun x => ?_)); first | exact trivial | exact rfl | assumption | omega | (refine ⟨?_, ?_⟩ <;> omega) | (simp only [Room, List.length_set, List.length_append, List.length_cons, List.length_nil, List.length_replicate]; omega) | decide | skip) | (refine Stp.go ?_) | (refine WPA.ifT ?_) | (refine WPA.ifF ?_) | ((first | refine WPA.dec ?_); first | refine .inl ⟨by first | assumption | omega | with_reducible rfl | (refine fun h => h ?_; assumption) | (simp only [List.length_append, List.length_cons, List.length_nil, List.length_set] <;> omega) | decide, ?_⟩ | refine .inr ⟨by first | assumption | omega | with_reducible rfl | (refine fun h => h ?_; assumption) | (simp only [List.length_append, List.length_cons, List.length_nil, List.length_set] <;> omega) | decide, ?_⟩) | ((first | refine WPA.ifBt ?_ ?_ | refine WPA.ifBnf ?_ ?_); assumption) | ((first | refine WPA.ifBnt ?_ ?_ | refine WPA.ifBf ?_ ?_); assumption) | ((first | refine WPA.ifs ?_ ?_ | refine WPA.ifB ?_ ?_) <;> intro hc) | (guard_target =~ WPA _ _ _ (.region 9 _ true) _ _ _; refine WPA.drawT 8 (.q 0 (.q 1 (.q 2 (.q 3 (.q 4 (.q 5 (.q 6 (.q 7 .fin)))))))) mixed ?_ ?_; kernel_rfl) | (refine WDA.finish (tl := [⟨_, _, _, _, _, _⟩, ⟨_, _, _, _, _, _⟩, ⟨_, _, _, _, _, _⟩, ⟨_, _, _, _, _, _⟩]) rfl ?_) | (refine WDQ.see rfl ?_))
        repeat' (first | ((first | refine WLA.m rfl rfl ?_ ?_ | refine WLA.st rfl ?_ ?_ | refine WLA.x rfl rfl ?_ (fun x => ?_) | refine WLA.x0 rfl ?_ (fun x => ?_)); first | exact trivial | exact rfl | assumption | omega | (refine ⟨?_, ?_⟩ <;> omega) | (simp only [Room, List.length_set, List.length_append, List.length_cons, List.length_nil, List.length_replicate]; omega) | decide | skip) | (refine Stp.go ?_) | (refine WPA.ifT ?_) | (refine WPA.ifF ?_) | ((first | refine WPA.dec ?_); first | refine .inl ⟨by first | assumption | omega | with_reducible rfl | (refine fun h => h ?_; assumption) | (simp only [List.length_append, List.length_cons, List.length_nil, List.length_set] <;> omega) | decide, ?_⟩ | refine .inr ⟨by first | assumption | omega | with_reducible rfl | (refine fun h => h ?_; assumption) | (simp only [List.length_append, List.length_cons, List.length_nil, List.length_set] <;> omega) | decide, ?_⟩) | ((first | refine WPA.ifBt ?_ ?_ | refine WPA.ifBnf ?_ ?_); assumption) | ((first | refine WPA.ifBnt ?_ ?_ | refine WPA.ifBf ?_ ?_); assumption) | ((first | refine WPA.ifs ?_ ?_ | refine WPA.ifB ?_ ?_) <;> intro hc))
        refine QQ.loopS ⟨i + 1, out, _, _⟩ ⟨rfl, rfl, rfl, rfl, trivial⟩ (hfin _ hcs2) (by dsimp only; omega) (fun w h => ?_)
        dsimp only
        rw [hf1, hf2]
        exact h.to
      · rw [dif_neg (fun h => heq h.2)] at hpl
        rw [hpl] at hfin
        repeat' (first | ((rw [hX]; dsimp only)) | ((first | refine WLA.m rfl rfl ?_ ?_ | refine WDQ.m rfl rfl ?_ ?_ | refine WLA.st rfl ?_ ?_ | refine WLA.x rfl rfl ?_ (fun x => ?_) | refine WLA.x0 rfl ?_ (fun x => ?_)); first | exact trivial | exact rfl | assumption | omega | (refine ⟨?_, ?_⟩ <;> omega) | (simp only [Room, List.length_set, List.length_append, List.length_cons, List.length_nil, List.length_replicate]; omega) | decide | skip) | (refine Stp.go ?_) | (guard_target =~ WLA _ _ _ _ _ (⟨_, .call ⟨.value (.func 100), _, _⟩, _, _, _, _⟩ :: _) _ _; refine WLA.cq rfl rfl (Equal_tr (by assumption)) ?_) | (guard_target =~ WLA _ _ _ _ _ (⟨_, .call ⟨.value (.func 92), _, _⟩, _, _, _, _⟩ :: _) _ _; first | (refine WLA.call rfl rfl (Clone_tr (by assumption)) ?_; rintro g') | (refine WLA.call0 rfl (Clone_tr (by assumption)) ?_; rintro g')) | (refine WPA.ifT ?_) | (refine WPA.ifF ?_) | (refine WLA.no rfl rfl ?_) | (refine WDQ.no rfl rfl ?_) | ((first | refine WPA.dec ?_ | ((fail_if_success (guard_target =~ WLA _ _ _ _ _ _ (put1 _ _ (.bool true)) _)); (fail_if_success (guard_target =~ WLA _ _ _ _ _ _ (put1 _ _ (.bool false)) _)); refine WLA.dec rfl rfl ?_) | refine WLA.pk ?_ | refine WDQ.dec rfl rfl ?_); first | refine .inl ⟨by first | assumption | omega | with_reducible rfl | (refine fun h => h ?_; assumption) | (simp only [List.length_append, List.length_cons, List.length_nil, List.length_set] <;> omega) | decide, ?_⟩ | refine .inr ⟨by first | assumption | omega | with_reducible rfl | (refine fun h => h ?_; assumption) | (simp only [List.length_append, List.length_cons, List.length_nil, List.length_set] <;> omega) | decide, ?_⟩) | ((first | refine WPA.ifBt ?_ ?_ | refine WPA.ifBnf ?_ ?_); assumption) | ((first | refine WPA.ifBnt ?_ ?_ | refine WPA.ifBf ?_ ?_); assumption) | ((first | refine WPA.ifs ?_ ?_ | refine WPA.ifB ?_ ?_) <;> intro hc) | ((fail_if_success (guard_target =~ WLA _ _ _ _ _ _ (put1 _ _ (.bool true)) _)); (fail_if_success (guard_target =~ WLA _ _ _ _ _ _ (put1 _ _ (.bool false)) _)); (first | refine WLA.both rfl rfl ?_ ?_ | refine WLA.bothB rfl rfl ?_ ?_) <;> intro hg) | (guard_target =~ WPA _ _ _ (.region 8 _ true) _ _ _; refine WPA.drawT 11 (.q 0 (.q 1 (.q 2 (.q 3 (.q 4 (.q 5 (.q 6 (.q 7 (.q 8 (.q 9 (.q 10 .fin))))))))))) mixed ?_ ?_; kernel_rfl) | (guard_target =~ WPA _ _ _ (.region 9 _ true) _ _ _; refine WPA.drawT 8 (.q 0 (.q 1 (.q 2 (.q 3 (.q 4 (.q 5 (.q 6 (.q 7 .fin)))))))) mixed ?_ ?_; kernel_rfl) | (guard_target =~ WPA _ _ _ (.region 10 _ true) _ _ _; refine WPA.drawT 8 (.q 0 (.q 1 (.q 2 (.q 4 (.q 5 (.e 3 (.q 6 (.e 7 .fin)))))))) mixed ?_ ?_; kernel_rfl) | (refine WDA.finish (tl := [⟨_, _, _, _, _, _⟩, ⟨_, _, _, _, _, _⟩]) rfl ?_) | (refine WDA.finish (tl := [⟨_, _, _, _, _, _⟩, ⟨_, _, _, _, _, _⟩, ⟨_, _, _, _, _, _⟩, ⟨_, _, _, _, _, _⟩]) rfl ?_) | (refine WDQ.see rfl ?_) | (refine WDE.see rfl ?_) | (refine WDE.alloc rfl rfl (fun w h => h) (fun x => ?_)) | (refine WDE.stE rfl ?_) | (refine WDE.x rfl rfl ?_ ?_ (fun x => ?_); rotate_left 1; (intro x w h; first | exact h | exact Ent.drop1.sl h | exact SL.unI h | exact SL.to h); rotate_left 1; first | exact trivial | exact rfl | assumption | omega | (refine ⟨?_, ?_⟩ <;> omega) | (simp only [Room, List.length_set, List.length_append, List.length_cons, List.length_nil, List.length_replicate]; omega) | decide | skip) | (guard_target =~ WDQ _ _ _ _ _ _ _ ⟨_, .call ⟨.value (.func 100), _, _⟩, _, _, _, _⟩ _ _ _; refine WDQ.cq rfl rfl (Equal_tr (by assumption)) ?_) | (guard_target =~ WDE _ _ _ _ _ _ _ ⟨_, .call ⟨.value (.func 92), _, _⟩, _, _, _, _⟩ _ _ _; refine WDE.call rfl rfl (Clone_tr (by assumption)) ?_ ?_; (intro x w h; first | exact h | exact Ent.drop1.sl h | exact SL.unI h | exact SL.to h); rintro g') | (guard_target =~ WDW _ _ _ _ _ _ _ ⟨_, .call ⟨.value (.func 92), _, _⟩, _, _, _, _⟩ _ _ _; refine WDW.call rfl rfl (Clone_tr (by assumption)) ?_; rintro g') | ((first | refine WDQ.both rfl rfl ?_ ?_) <;> intro hg))
        have hsn : (cs.map Prod.fst).length = (ms.map Prod.fst).length := by rw [List.length_map, List.length_map, hcl]
        have hcs2 : (cs ++ [(g', xn)]).map Prod.snd = (ms ++ [(kg xg, xn)]).map Prod.snd := by rw [List.map_append, List.map_append, h5]; rfl
        refine QQ.loopS ⟨i + 1, x, cs ++ [(g', xn)], ms ++ [(kg xg, xn)]⟩ ⟨rfl, rfl, rfl, rfl, trivial⟩ (hfin _ hcs2) (by dsimp only; omega) (fun w h => ?_)
        have h2 := (RowH.snoc hsn).sl ((EntC.out (L' := OwnS 3 g' (kg xg) :: RowH 3 (cs.map Prod.fst) (ms.map Prod.fst) :: OwnS 80 x (cs ++ [(g', xn)]) :: OwnS 80 own qs :: L)).sl h)
        dsimp only
        simp only [List.map_append, List.map_cons, List.map_nil]
        exact h2.to
  · have hlt' : ¬ (i : Int) < qs.length := by omega
    rw [List.drop_of_length_le (by omega)] at h7
    repeat' (first | ((first | refine WLA.m rfl rfl ?_ ?_ | refine WLA.st rfl ?_ ?_ | refine WLA.x rfl rfl ?_ (fun x => ?_) | refine WLA.x0 rfl ?_ (fun x => ?_)); first | exact trivial | exact rfl | assumption | omega | (refine ⟨?_, ?_⟩ <;> omega) | (simp only [Room, List.length_set, List.length_append, List.length_cons, List.length_nil, List.length_replicate]; omega) | decide | skip) | (refine Stp.go ?_) | (refine WPA.ifT ?_) | (refine WPA.ifF ?_) | ((first | refine WPA.dec ?_); first | refine .inl ⟨by first | assumption | omega | with_reducible rfl | (refine fun h => h ?_; assumption) | (simp only [List.length_append, List.length_cons, List.length_nil, List.length_set] <;> omega) | decide, ?_⟩ | refine .inr ⟨by first | assumption | omega | with_reducible rfl | (refine fun h => h ?_; assumption) | (simp only [List.length_append, List.length_cons, List.length_nil, List.length_set] <;> omega) | decide, ?_⟩) | ((first | refine WPA.ifBt ?_ ?_ | refine WPA.ifBnf ?_ ?_); assumption) | ((first | refine WPA.ifBnt ?_ ?_ | refine WPA.ifBf ?_ ?_); assumption) | ((first | refine WPA.ifs ?_ ?_ | refine WPA.ifB ?_ ?_) <;> intro hc))
    refine QQ.end_ rfl (out, cs) rfl fun w h => ⟨?_, ?_⟩
    · rw [h5, ← h7]; rfl
    · rw [← h7]
      show SL w0 I (OwnS 80 out cs :: RowH 3 (cs.map Prod.fst) (ms.map Prod.fst) :: L) w
      exact h.to
end
end Go.Proofs.Ytlodbajaoadhdaa
