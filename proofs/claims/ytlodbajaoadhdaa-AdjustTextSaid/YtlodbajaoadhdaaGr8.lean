/- GramSums: the walk. Conditions: none. -/
import Derived.Test.YtlodbajaoadhdaaGr5
import Derived.Test.YtlodbajaoadhdaaGr7
namespace Go.Proofs.Ytlodbajaoadhdaa
open Go Go.Fw Go.RowKit
set_option linter.unusedVariables false
set_option linter.unusedSimpArgs false
set_option maxRecDepth 100000
set_option maxHeartbeats 16000000
set_option synthInstance.maxHeartbeats 200000
set_option synthInstance.maxSize 100000
attribute [local irreducible] WPA WLA WDA WDQ WDE QQ seqQ blockQ loopQ fnQ OpP OpT Tr TrP SL SLd OwnS LitS Bk BkE Ob
attribute [local irreducible] RowH
theorem ris_id {kg : SV → List Int} {cs : List Cn} : Ris id (cs.map (moP kg)) ↔ Ris kg cs := by unfold Ris; rw [List.pairwise_map]; rfl
theorem ris_c {kg : SV → List Int} {cs : List Cn} : Ris kg cs ↔ RisC kg cs := by unfold Ris RisC; rw [List.pairwise_map]
theorem fold_self : ∀ {l a : List Ct}, Ris id (a ++ l) → l.foldl putM a = a ++ l
  | [], a, _ => by simp
  | x :: l, a, h => by
    have h1 : Ris id a := h.sublist (List.sublist_append_left _ _)
    have h2 : ∀ y ∈ a, ltL y.1 x.1 := fun y hy => (List.pairwise_append.1 h).2.2 y hy x (List.mem_cons_self ..)
    have hp := put_last (x := x) h1 fun y hy => ltL_as (h2 y hy)
    rw [dif_neg] at hp
    · rw [List.foldl_cons, hp, fold_self (by rwa [List.append_assoc]), List.append_assoc]; rfl
    · rintro ⟨hne, he⟩
      have hl : a.length - 1 < a.length := by have := List.length_pos_iff.2 hne; omega
      rw [List.getD_eq_getElem?_getD, List.getElem?_eq_getElem hl, Option.getD_some] at he
      have := h2 _ (List.getElem_mem hl)
      rw [he] at this
      exact ltL_irr _ this
theorem fold_len {kg : SV → List Int} : ∀ (ps a : List Cn), (ps.foldl (putL kg) a).length ≤ a.length + ps.length
  | [], a => by simp
  | x :: ps, a => by rw [List.foldl_cons, List.length_cons]; have := fold_len (kg := kg) ps (putL kg a x); have := putL_len (f := kg) (x := x) a; omega
theorem fold_in {kg : SV → List Int} {G : SV → Prop} : ∀ {ps a : List Cn}, (∀ p ∈ ps, G p.1) → (∀ p ∈ a, G p.1) → ∀ p ∈ ps.foldl (putL kg) a, G p.1
  | [], a, _, ha => ha
  | x :: ps, a, h, ha => by
    rw [List.foldl_cons]
    exact fold_in (fun p hp => h p (List.mem_cons_of_mem _ hp)) (putL_grg ha (h x (List.mem_cons_self ..)))
theorem fold_risL {kg : SV → List Int} : ∀ {ps a : List Cn}, Ris kg a → Ris kg (ps.foldl (putL kg) a)
  | [], a, h => h
  | x :: ps, a, h => by
    rw [List.foldl_cons]
    exact fold_risL (putL_ris h)
theorem row_atI {kg : SV → List Int} {cs o : List Cn} {R J : Foot} {e : TypeId} (hR : RowH e (cs.map Prod.fst) ((o.map (moP kg)).map Prod.fst) R) [hs : SubI J R] (hl : cs.map Prod.snd = (o.map (moP kg)).map Prod.snd) : ∀ i : { i : Nat // i < cs.length }, SlI J (at_ cs (i.1 : Int)).1 Int inferInstance ((o.map (moP kg)).getD i.1 ([], 0)).1 := by
  rintro ⟨i, hi⟩
  have e1 : cs.length = o.length := by have := congrArg List.length hl; simpa using this
  have h := RowH.frozen hR i (by rw [List.length_map]; exact hi) (by rw [List.length_map, List.length_map]; omega)
  rw [List.getD_eq_getElem?_getD, List.getD_eq_getElem?_getD, List.getElem?_map, List.getElem?_map, List.getElem?_eq_getElem hi, List.getElem?_map, List.getElem?_eq_getElem (by omega)] at h
  dsimp only
  rw [at_nat cs i hi, List.getD_eq_getElem?_getD, List.getElem?_map, List.getElem?_eq_getElem (by omega)]
  exact h.sub
theorem GramSums_tr {kg : SV → List Int} {w0 : World} {I : Foot} {s g : SV} {ps : List Cn} {gs : List Int} [hr : SlI I s Cn inferInstance ps] [hgs : SlI I g Int inferInstance gs] (hG : GrG I kg ps) :
    Tr Try.prog 10 #[.slice s.a s.n s.cap, .slice g.a g.n g.cap] (SL w0 I []) (fun _ : Unit => .bool true) (fun _ => SL w0 I []) := by
  refine Tr.intro Try.func10 rfl Try.ntmps10 rfl ?_
  by_cases hsm' : ¬ (ps.length ≤ 60 ∧ ∀ p ∈ ps, (kg p.1).length ≤ 12)
  · skip
    repeat' ((fail_if_success (guard_target =~ WPA _ _ _ (.region 3 _ _) _ _ _)); first | ((first | refine WLA.m rfl rfl ?_ ?_ | refine WLA.st rfl ?_ ?_ | refine WLA.x rfl rfl ?_ (fun x => ?_) | refine WLA.x0 rfl ?_ (fun x => ?_)); first | exact trivial | exact rfl | assumption | omega | (refine ⟨?_, ?_⟩ <;> omega) | (simp only [Room, List.length_set, List.length_append, List.length_cons, List.length_nil, List.length_replicate]; omega) | decide | skip) | (refine Stp.go ?_) | (guard_target =~ WLA _ _ _ _ _ (⟨_, .call ⟨.value (.func 44), _, _⟩, _, _, _, _⟩ :: _) _ _; refine WLA.cq rfl rfl (Small_tr (most := 60) (long := 12) hG (by decide)) ?_) | (guard_target =~ WLA _ _ _ _ _ (⟨_, .call ⟨.value (.func 29), _, _⟩, _, _, _, _⟩ :: _) _ _; first | (refine WLA.call rfl rfl (live_tr18 _ _ _) ?_; rintro ⟨⟩) | (refine WLA.call0 rfl (live_tr18 _ _ _) ?_; rintro ⟨⟩)) | (refine WPA.ifT ?_) | (refine WPA.ifF ?_) | (refine WLA.no rfl rfl ?_) | ((first | refine WPA.dec ?_ | ((fail_if_success (guard_target =~ WLA _ _ _ _ _ _ (put1 _ _ (.bool true)) _)); (fail_if_success (guard_target =~ WLA _ _ _ _ _ _ (put1 _ _ (.bool false)) _)); refine WLA.dec rfl rfl ?_) | refine WLA.pk ?_); first | refine .inl ⟨by first | assumption | omega | with_reducible rfl | (refine fun h => h ?_; first | assumption | with_reducible rfl) | (simp only [List.length_append, List.length_cons, List.length_nil, List.length_set] <;> omega) | decide, ?_⟩ | refine .inr ⟨by first | assumption | omega | with_reducible rfl | (refine fun h => h ?_; first | assumption | with_reducible rfl) | (simp only [List.length_append, List.length_cons, List.length_nil, List.length_set] <;> omega) | decide, ?_⟩) | ((first | refine WPA.ifBt ?_ ?_ | refine WPA.ifBnf ?_ ?_); assumption) | ((first | refine WPA.ifBnt ?_ ?_ | refine WPA.ifBf ?_ ?_); assumption) | ((first | refine WPA.ifs ?_ ?_ | refine WPA.ifB ?_ ?_) <;> intro hc) | ((fail_if_success (guard_target =~ WLA _ _ _ _ _ _ (put1 _ _ (.bool true)) _)); (fail_if_success (guard_target =~ WLA _ _ _ _ _ _ (put1 _ _ (.bool false)) _)); (first | refine WLA.both rfl rfl ?_ ?_ | refine WLA.bothB rfl rfl ?_ ?_) <;> intro hg))
    exact QQ.end_ rfl () rfl fun w h => h.to
  by_cases h2 : (1000 : Int) < gs.length
  · have hsm := Classical.byContradiction hsm'
    repeat' ((fail_if_success (guard_target =~ WPA _ _ _ (.region 3 _ _) _ _ _)); first | ((first | refine WLA.m rfl rfl ?_ ?_ | refine WLA.st rfl ?_ ?_ | refine WLA.x rfl rfl ?_ (fun x => ?_) | refine WLA.x0 rfl ?_ (fun x => ?_)); first | exact trivial | exact rfl | assumption | omega | (refine ⟨?_, ?_⟩ <;> omega) | (simp only [Room, List.length_set, List.length_append, List.length_cons, List.length_nil, List.length_replicate]; omega) | decide | skip) | (refine Stp.go ?_) | (guard_target =~ WLA _ _ _ _ _ (⟨_, .call ⟨.value (.func 44), _, _⟩, _, _, _, _⟩ :: _) _ _; refine WLA.cq rfl rfl (Small_tr (most := 60) (long := 12) hG (by decide)) ?_) | (guard_target =~ WLA _ _ _ _ _ (⟨_, .call ⟨.value (.func 29), _, _⟩, _, _, _, _⟩ :: _) _ _; first | (refine WLA.call rfl rfl (live_tr18 _ _ _) ?_; rintro ⟨⟩) | (refine WLA.call0 rfl (live_tr18 _ _ _) ?_; rintro ⟨⟩)) | (refine WPA.ifT ?_) | (refine WPA.ifF ?_) | (refine WLA.no rfl rfl ?_) | ((first | refine WPA.dec ?_ | ((fail_if_success (guard_target =~ WLA _ _ _ _ _ _ (put1 _ _ (.bool true)) _)); (fail_if_success (guard_target =~ WLA _ _ _ _ _ _ (put1 _ _ (.bool false)) _)); refine WLA.dec rfl rfl ?_) | refine WLA.pk ?_); first | refine .inl ⟨by first | assumption | omega | with_reducible rfl | (refine fun h => h ?_; first | assumption | with_reducible rfl) | (simp only [List.length_append, List.length_cons, List.length_nil, List.length_set] <;> omega) | decide, ?_⟩ | refine .inr ⟨by first | assumption | omega | with_reducible rfl | (refine fun h => h ?_; first | assumption | with_reducible rfl) | (simp only [List.length_append, List.length_cons, List.length_nil, List.length_set] <;> omega) | decide, ?_⟩) | ((first | refine WPA.ifBt ?_ ?_ | refine WPA.ifBnf ?_ ?_); assumption) | ((first | refine WPA.ifBnt ?_ ?_ | refine WPA.ifBf ?_ ?_); assumption) | ((first | refine WPA.ifs ?_ ?_ | refine WPA.ifB ?_ ?_) <;> intro hc) | ((fail_if_success (guard_target =~ WLA _ _ _ _ _ _ (put1 _ _ (.bool true)) _)); (fail_if_success (guard_target =~ WLA _ _ _ _ _ _ (put1 _ _ (.bool false)) _)); (first | refine WLA.both rfl rfl ?_ ?_ | refine WLA.bothB rfl rfl ?_ ?_) <;> intro hg))
    exact QQ.end_ rfl () rfl fun w h => h.to
  have hsm := Classical.byContradiction hsm'
  have hl2 : gs.length ≤ 1000000000 := by omega
  have hln : ps.length ≤ 60 := hsm.1
  have hkl : ∀ p ∈ ps, (kg p.1).length ≤ 1000000 := fun p hp => by have := hsm.2 p hp; omega
  have hSum : ∀ {J : Foot} {L : List HP} {s : SV} {kg : SV → List Int} {ps : List Cn} [RdS J L s Cn inferInstance ps], GrG J kg ps → (∀ p ∈ ps, (kg p.1).length ≤ 1000000) → ps.length ≤ 100000 → Tr Try.prog 45 #[.slice s.a s.n s.cap] (SL w0 J L) (fun x : SV × List (SV × Int) => .slice x.1.a x.1.n x.1.cap)
      (fun x w => x.2.map Prod.snd = (((ps.foldl (putL kg) []).map (moP kg)).map Prod.snd) ∧ SL w0 J (OwnS 80 x.1 x.2 :: RowH 3 (x.2.map Prod.fst) ((((ps.foldl (putL kg) []).map (moP kg))).map Prod.fst) :: L) w) := by
    intro J L s kg ps _ h1 h2 h3
    have := gSum_tr (s := s) (L := L) (w0 := w0) h1 h2 h3
    rw [fold_cell]
    exact this
  repeat' ((fail_if_success (guard_target =~ WPA _ _ _ (.region 4 _ _) _ _ _)); first | ((first | refine WLA.m rfl rfl ?_ ?_ | refine WLA.st rfl ?_ ?_ | refine WLA.x rfl rfl ?_ (fun x => ?_) | refine WLA.x0 rfl ?_ (fun x => ?_)); first | exact trivial | exact rfl | assumption | omega | (refine ⟨?_, ?_⟩ <;> omega) | (simp only [Room, List.length_set, List.length_append, List.length_cons, List.length_nil, List.length_replicate]; omega) | decide | skip) | (refine Stp.go ?_) | (guard_target =~ WLA _ _ _ _ _ (⟨_, .call ⟨.value (.func 44), _, _⟩, _, _, _, _⟩ :: _) _ _; refine WLA.cq rfl rfl (Small_tr (most := 60) (long := 12) hG (by decide)) ?_) | (guard_target =~ WLA _ _ _ _ _ (⟨_, .call ⟨.value (.func 45), _, _⟩, _, _, _, _⟩ :: _) _ _; first | (refine WLA.call rfl rfl (hSum hG hkl (by omega)) ?_; rintro ⟨r, cs⟩; refine WLA.pure fun hcs => ?_; dsimp only at hcs ⊢; refine WLA.ent Ent.swap ?_; refine WLA.freeze fun R hR => ?_) | (refine WLA.call0 rfl (hSum hG hkl (by omega)) ?_; rintro ⟨r, cs⟩; refine WLA.pure fun hcs => ?_; dsimp only at hcs ⊢; refine WLA.ent Ent.swap ?_; refine WLA.freeze fun R hR => ?_)) | (refine WPA.ifT ?_) | (refine WPA.ifF ?_) | (refine WLA.no rfl rfl ?_) | ((first | refine WPA.dec ?_ | ((fail_if_success (guard_target =~ WLA _ _ _ _ _ _ (put1 _ _ (.bool true)) _)); (fail_if_success (guard_target =~ WLA _ _ _ _ _ _ (put1 _ _ (.bool false)) _)); refine WLA.dec rfl rfl ?_) | refine WLA.pk ?_); first | refine .inl ⟨by first | assumption | omega | with_reducible rfl | (refine fun h => h ?_; first | assumption | with_reducible rfl) | (simp only [List.length_append, List.length_cons, List.length_nil, List.length_set] <;> omega) | decide, ?_⟩ | refine .inr ⟨by first | assumption | omega | with_reducible rfl | (refine fun h => h ?_; first | assumption | with_reducible rfl) | (simp only [List.length_append, List.length_cons, List.length_nil, List.length_set] <;> omega) | decide, ?_⟩) | ((first | refine WPA.ifBt ?_ ?_ | refine WPA.ifBnf ?_ ?_); assumption) | ((first | refine WPA.ifBnt ?_ ?_ | refine WPA.ifBf ?_ ?_); assumption) | ((first | refine WPA.ifs ?_ ?_ | refine WPA.ifB ?_ ?_) <;> intro hc) | ((fail_if_success (guard_target =~ WLA _ _ _ _ _ _ (put1 _ _ (.bool true)) _)); (fail_if_success (guard_target =~ WLA _ _ _ _ _ _ (put1 _ _ (.bool false)) _)); (first | refine WLA.both rfl rfl ?_ ?_ | refine WLA.bothB rfl rfl ?_ ?_) <;> intro hg))
  have hsI : SubI (R ++ I) I := inferInstance
  have hsR : SubI (R ++ I) R := SubI.here
  have hr2 : SlI (R ++ I) s Cn inferInstance ps := hr.sub
  have hg2 : SlI (R ++ I) g Int inferInstance gs := hgs.sub
  have hGJ : GrG (R ++ I) kg ps := fun p hp => (hG p hp).sub
  have hol : (ps.foldl (putL kg) []).length ≤ 60 := by have := fold_len (kg := kg) ps []; simp only [List.length_nil] at this; omega
  have hoin := fold_in (kg := kg) (G := fun x => SlI (R ++ I) x Int inferInstance (kg x) ∧ (kg x).length ≤ 12) (ps := ps) (a := []) (fun p hp => ⟨hGJ p hp, hsm.2 p hp⟩) (by simp)
  have horis := fold_risL (kg := kg) (ps := ps) (a := []) List.Pairwise.nil
  have hRS : ∀ {L : List HP}, Tr Try.prog 46 #[.slice s.a s.n s.cap] (SL w0 (R ++ I) L) (fun r : SV => .slice r.a r.n r.cap) (fun r => SL w0 (R ++ I) (OwnS 80 r (ps.foldl (putL kg) []) :: L)) := fun {L} => rSum_tr hGJ hkl (by omega)
  generalize ps.foldl (putL kg) [] = o at hR hcs hol hoin horis hRS
  generalize R ++ I = J at hsI hsR hr2 hg2 hGJ hoin hRS
  have hk1 := row_atI (J := J) hR hcs
  refine WPA.rds (ι := { i : Nat // i < cs.length }) hk1 fun e1 => ?_
  have hcl : cs.length = o.length := by have := congrArg List.length hcs; simpa using this
  have hcm : cs.map (moP (rd Int J)) = o.map (moP kg) := by
    refine List.ext_getElem (by simp [hcl]) fun i h1 h2 => ?_
    rw [List.length_map] at h1
    have ho : i < o.length := by omega
    have k1 := e1 ⟨i, h1⟩
    dsimp only at k1
    rw [at_nat cs i h1, List.getD_eq_getElem?_getD, List.getElem?_map, List.getElem?_eq_getElem ho] at k1
    have k2 := congrArg (fun l => l[i]?) hcs
    simp only [List.getElem?_map, List.getElem?_eq_getElem h1, List.getElem?_eq_getElem ho, Option.map_some] at k2
    rw [List.getElem_map, List.getElem_map]
    unfold moP at k1 k2 ⊢
    exact Prod.ext k1 (by injection k2)
  have hat : ∀ p ∈ cs, ∃ i : { i : Nat // i < cs.length }, at_ cs (i.1 : Int) = p := fun p hp => by
    obtain ⟨i, hi, e⟩ := List.getElem_of_mem hp
    exact ⟨⟨i, hi⟩, by rw [at_nat cs i hi]; exact e⟩
  have hGc : GrG J (rd Int J) cs := fun p hp => by
    obtain ⟨i, rfl⟩ := hat p hp
    exact (hk1 i).rd
  have hkeys : ∀ x ∈ o.map (moP kg), x.1.length ≤ 12 := fun x hx => by
    obtain ⟨p, hp, rfl⟩ := List.mem_map.1 hx
    exact (hoin p hp).2
  have hkc : ∀ p ∈ cs, (rd Int J p.1).length ≤ 1000000 := fun p hp => by
    have := hkeys (moP (rd Int J) p) (by rw [← hcm]; exact List.mem_map_of_mem hp)
    have e : (moP (rd Int J) p).1 = rd Int J p.1 := rfl
    rw [e] at this
    omega
  have hkc2 : ∀ p ∈ cs, (rd Int J p.1).length ≤ 1000000000 := fun p hp => by have := hkc p hp; omega
  have hcl2 : cs.length ≤ 1000000000 := by omega
  have hcris : Ris (rd Int J) cs := by rw [← ris_id, hcm, ris_id]; exact horis
  have hcrisC : RisC (rd Int J) cs := ris_c.1 hcris
  have hfold2 : (cs.foldl (putL (rd Int J)) []).map (moP (rd Int J)) = o.map (moP kg) := by
    have := fold_cell (kg := rd Int J) cs []
    rw [this, List.map_nil, hcm]
    exact fold_self (a := []) (by rw [List.nil_append, ris_id]; exact horis)
  have hplc : cs.map (fun p => rd Int J p.1) = o.map (fun p => kg p.1) := by
    have := congrArg (List.map Prod.fst) hcm
    simpa [List.map_map, Function.comp_def, moP] using this
  have ho1 : o.map Prod.snd = (o.map (moP kg)).map Prod.snd := by rw [List.map_map]; rfl
  have hoG : GrG J kg o := fun p hp => (hoin p hp).1
  have hok2 : ∀ p ∈ o, (kg p.1).length ≤ 1000000000 := fun p hp => by have := (hoin p hp).2; omega
  have ho2 : ∀ {K : Foot} {L : List HP} [SubI K J], ∀ i : Nat, i < o.length → RdS K L (at_ o (i : Int)).1 Int inferInstance ((o.map (moP kg)).getD i ([], 0)).1 := by
    intro K L hs i hi
    have hm : at_ o (i : Int) ∈ o := by rw [at_nat o i hi]; exact List.getElem_mem _
    have h1 := (hoin _ hm).1.sub (I' := K)
    have e : ((o.map (moP kg)).getD i ([], 0)).1 = kg (at_ o (i : Int)).1 := by
      rw [List.getD_eq_getElem?_getD, List.getElem?_map, List.getElem?_eq_getElem hi, at_nat o i hi]; rfl
    rw [e]
    exact RdS.imm (h := h1)
  have hl1 : ∀ m ∈ o.map (moP kg), m.1.length ≤ 1000000000 := fun m hm => by have := hkeys m hm; omega
  have hl2' : (o.map (moP kg)).length ≤ 1000000 := by rw [List.length_map]; omega
  have hpl1 : ps.length ≤ 1000000 := by omega
  have hpl2 : cs.length ≤ 1000000 := by omega
  have hreq : Ris kg ps = Ris kg ps := rfl
  have hpq : ∀ p ∈ ps, RdS J [OwnS 80 r cs] p.1 Int inferInstance (kg p.1) := fun p hp => RdS.imm (h := hGJ p hp)
  repeat' (first | ((first | refine WLA.m rfl rfl ?_ ?_ | refine WLA.st rfl ?_ ?_ | refine WLA.x rfl rfl ?_ (fun x => ?_) | refine WLA.x0 rfl ?_ (fun x => ?_)); first | exact trivial | exact rfl | assumption | omega | (refine ⟨?_, ?_⟩ <;> omega) | (simp only [Room, List.length_set, List.length_append, List.length_cons, List.length_nil, List.length_replicate]; omega) | decide | skip) | (refine Stp.go ?_) | (guard_target =~ WLA _ _ _ _ _ (⟨_, .call ⟨.value (.func 46), _, _⟩, _, _, _, _⟩ :: _) _ _; first | (refine WLA.call rfl rfl (hRS) ?_; rintro r2) | (refine WLA.call0 rfl (hRS) ?_; rintro r2)) | (guard_target =~ WLA _ _ _ _ _ (⟨_, .call ⟨.value (.func 47), _, _⟩, _, _, _, _⟩ :: _) _ _; refine WLA.cq rfl rfl (Same_tr hcs ho1 (row_at hR hcs) ho2 hl1 hl2') ?_) | (guard_target =~ WLA _ _ _ _ _ (⟨_, .call ⟨.value (.func 48), _, _⟩, _, _, _, _⟩ :: _) _ _; refine WLA.cq rfl rfl (gRises_tr (s := s) (kg := kg) (fun p hp ↦ RdS.imm (h := hGJ p hp)) hkl hpl1) ?_) | (guard_target =~ WLA _ _ _ _ _ (⟨_, .call ⟨.value (.func 48), _, _⟩, _, _, _, _⟩ :: _) _ _; refine WLA.cq rfl rfl (gRises_tr (s := r) (kg := rd Int J) (fun p hp ↦ RdS.imm (h := hGc p hp)) hkc hpl2) ?_) | (guard_target =~ WLA _ _ _ _ _ (⟨_, .call ⟨.value (.func 49), _, _⟩, _, _, _, _⟩ :: _) _ _; refine WLA.cq rfl rfl (Rises_tr hGJ hkl (by omega)) ?_) | (guard_target =~ WLA _ _ _ _ _ (⟨_, .call ⟨.value (.func 50), _, _⟩, _, _, _, _⟩ :: _) _ _; first | (refine WLA.call rfl rfl (gFind_tr hGc hcrisC hcl2 hkc2 hl2) ?_; rintro ⟨⟩; rw [hplc]) | (refine WLA.call0 rfl (gFind_tr hGc hcrisC hcl2 hkc2 hl2) ?_; rintro ⟨⟩; rw [hplc])) | (guard_target =~ WLA _ _ _ _ _ (⟨_, .call ⟨.value (.func 51), _, _⟩, _, _, _, _⟩ :: _) _ _; refine WLA.cq rfl rfl (rFindC_tr hoG (by omega) hok2 hl2) ?_) | (refine WPA.ifT ?_) | (refine WPA.ifF ?_) | (refine WLA.no rfl rfl ?_) | ((first | refine WPA.dec ?_ | ((fail_if_success (guard_target =~ WLA _ _ _ _ _ _ (put1 _ _ (.bool true)) _)); (fail_if_success (guard_target =~ WLA _ _ _ _ _ _ (put1 _ _ (.bool false)) _)); refine WLA.dec rfl rfl ?_) | refine WLA.pk ?_); first | refine .inl ⟨by first | assumption | omega | with_reducible rfl | (refine fun h => h ?_; first | assumption | with_reducible rfl) | (simp only [List.length_append, List.length_cons, List.length_nil, List.length_set] <;> omega) | decide, ?_⟩ | refine .inr ⟨by first | assumption | omega | with_reducible rfl | (refine fun h => h ?_; first | assumption | with_reducible rfl) | (simp only [List.length_append, List.length_cons, List.length_nil, List.length_set] <;> omega) | decide, ?_⟩) | ((first | refine WPA.ifBt ?_ ?_ | refine WPA.ifBnf ?_ ?_); assumption) | ((first | refine WPA.ifBnt ?_ ?_ | refine WPA.ifBf ?_ ?_); assumption) | ((first | refine WPA.ifs ?_ ?_ | refine WPA.ifB ?_ ?_) <;> intro hc) | ((fail_if_success (guard_target =~ WLA _ _ _ _ _ _ (put1 _ _ (.bool true)) _)); (fail_if_success (guard_target =~ WLA _ _ _ _ _ _ (put1 _ _ (.bool false)) _)); (first | refine WLA.both rfl rfl ?_ ?_ | refine WLA.bothB rfl rfl ?_ ?_) <;> intro hg))
  · skip
    repeat' (first | ((first | refine WLA.m rfl rfl ?_ ?_ | refine WLA.st rfl ?_ ?_ | refine WLA.x rfl rfl ?_ (fun x => ?_) | refine WLA.x0 rfl ?_ (fun x => ?_)); first | exact trivial | exact rfl | assumption | omega | (refine ⟨?_, ?_⟩ <;> omega) | (simp only [Room, List.length_set, List.length_append, List.length_cons, List.length_nil, List.length_replicate]; omega) | decide | skip) | (refine Stp.go ?_) | (guard_target =~ WLA _ _ _ _ _ (⟨_, .call ⟨.value (.func 45), _, _⟩, _, _, _, _⟩ :: _) _ _; first | (refine WLA.call rfl rfl (hSum hGc hkc (by omega)) ?_; rintro ⟨r3, cs3⟩; dsimp only; rw [hfold2]; refine WLA.pure fun hcs3 => ?_; refine WLA.ent Ent.swap ?_; refine WLA.freeze fun R3 hR3 => ?_) | (refine WLA.call0 rfl (hSum hGc hkc (by omega)) ?_; rintro ⟨r3, cs3⟩; dsimp only; rw [hfold2]; refine WLA.pure fun hcs3 => ?_; refine WLA.ent Ent.swap ?_; refine WLA.freeze fun R3 hR3 => ?_)) | (guard_target =~ WLA _ _ _ _ _ (⟨_, .call ⟨.value (.func 47), _, _⟩, _, _, _, _⟩ :: _) _ _; refine WLA.cq rfl rfl (Same_tr hcs3 ho1 (row_at hR3 hcs3) ho2 hl1 hl2') ?_) | (guard_target =~ WLA _ _ _ _ _ (⟨_, .call ⟨.value (.func 29), _, _⟩, _, _, _, _⟩ :: _) _ _; first | (refine WLA.call rfl rfl (live_tr18 _ _ _) ?_; rintro ⟨⟩) | (refine WLA.call0 rfl (live_tr18 _ _ _) ?_; rintro ⟨⟩)) | (refine WPA.ifT ?_) | (refine WPA.ifF ?_) | (refine WLA.no rfl rfl ?_) | ((first | refine WPA.dec ?_ | ((fail_if_success (guard_target =~ WLA _ _ _ _ _ _ (put1 _ _ (.bool true)) _)); (fail_if_success (guard_target =~ WLA _ _ _ _ _ _ (put1 _ _ (.bool false)) _)); refine WLA.dec rfl rfl ?_) | refine WLA.pk ?_); first | refine .inl ⟨by first | assumption | omega | with_reducible rfl | (refine fun h => h ?_; first | assumption | with_reducible rfl) | (simp only [List.length_append, List.length_cons, List.length_nil, List.length_set] <;> omega) | decide, ?_⟩ | refine .inr ⟨by first | assumption | omega | with_reducible rfl | (refine fun h => h ?_; first | assumption | with_reducible rfl) | (simp only [List.length_append, List.length_cons, List.length_nil, List.length_set] <;> omega) | decide, ?_⟩) | ((first | refine WPA.ifBt ?_ ?_ | refine WPA.ifBnf ?_ ?_); assumption) | ((first | refine WPA.ifBnt ?_ ?_ | refine WPA.ifBf ?_ ?_); assumption) | ((first | refine WPA.ifs ?_ ?_ | refine WPA.ifB ?_ ?_) <;> intro hc) | ((fail_if_success (guard_target =~ WLA _ _ _ _ _ _ (put1 _ _ (.bool true)) _)); (fail_if_success (guard_target =~ WLA _ _ _ _ _ _ (put1 _ _ (.bool false)) _)); (first | refine WLA.both rfl rfl ?_ ?_ | refine WLA.bothB rfl rfl ?_ ?_) <;> intro hg))
    exact QQ.end_ rfl () rfl fun w h => (h.unI.sub hsI.out).to
  · cases hg
theorem GramSums_law (W : World) (s : SV) (h : gSl (gPair (gSl gInt 8) gInt) 32 W s) (g : SV) (h2 : gSl gInt 8 W g) : Calls Try.prog 10 #[.slice s.a s.n s.cap, .slice g.a g.n g.cap] W fun e w' => e = .returned (.bool true) ∧ Below W.heap.size W w' := by
  obtain ⟨ps, k1, k2, _⟩ := h
  obtain ⟨gs, q2, _, _⟩ := h2
  haveI := SlI.all k1
  haveI := SlI.all q2
  refine Calls.below (GramSums_tr (kg := rd Int (allB W)) (ps := ps) fun p hp => ?_)
  obtain ⟨xs, m1, _, _⟩ := (k2 p hp).1
  exact (SlI.all m1).rd
end Go.Proofs.Ytlodbajaoadhdaa
