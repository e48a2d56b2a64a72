/- How many n-grams end so: the walk. Conditions: none. -/
import Derived.Test.YtlodbajaoadhdaaAd2
namespace Go.Proofs.Ytlodbajaoadhdaa
open Go Go.Fw Go.RowKit
set_option linter.unusedVariables false
set_option linter.unusedSimpArgs false
set_option maxRecDepth 100000
set_option maxHeartbeats 16000000
set_option synthInstance.maxHeartbeats 200000
set_option synthInstance.maxSize 100000
attribute [local irreducible] WPA WLA WDA WDQ WDE QQ seqQ blockQ loopQ fnQ OpP OpT Tr TrP SL SLd OwnS LitS Bk BkE Ob
attribute [local irreducible] RowH
abbrev ltR (a b : Ct) : Prop := ltL a.1.reverse b.1.reverse
theorem runs_new {ms : List Ct} {k : List Int} {n : Int} (hP : ms.Pairwise ltR) (hB : ∀ m ∈ ms, ¬ ltL k.reverse m.1.reverse) (hne : ∀ m0 l, ms = m0 ++ [l] → l.1 ≠ k) : (ms ++ [(k, n)]).Pairwise ltR := by
  refine List.pairwise_append.2 ⟨hP, List.pairwise_singleton .., fun a ha b hb => ?_⟩
  rw [List.mem_singleton] at hb
  subst hb
  rcases List.eq_nil_or_concat ms with e | ⟨m0, l, e⟩
  · rw [e] at ha; simp at ha
  · rw [List.concat_eq_append] at e
    have hl : l ∈ ms := by rw [e]; simp
    have hlk : ltL l.1.reverse k.reverse := Classical.byContradiction fun h => hne m0 l e (by
      have := ltL_tri h (hB l hl)
      simpa using congrArg List.reverse this)
    rw [e] at ha hP
    rcases List.mem_append.1 ha with h | h
    · exact ltL_tt ((List.pairwise_append.1 hP).2.2 a h l (by simp)) hlk
    · rw [List.mem_singleton.1 h]; exact hlk
theorem ends_done {ms ms2 T : List Ct} (hP : ms.Pairwise ltR) (hT : ms.foldl putM [] = T) (hp : ms2.Perm ms) (hs : ms2.Pairwise fun a b => ¬ ltL b.1 a.1) : ms2 = T := by
  have h1 : ms2.Pairwise fun a b => a.1 ≠ b.1 := by
    refine (hp.pairwise_iff (fun h => Ne.symm h)).2 (hP.imp fun h e => ?_)
    unfold ltR at h
    rw [e] at h
    exact ltL_irr _ h
  have h2 : Ris id ms2 := (hs.and h1).imp fun h => Classical.byContradiction fun k => h.2 (ltL_tri k h.1)
  rw [← hT, ← foldl_perm hp List.Pairwise.nil, fold_self (a := []) (by rw [List.nil_append]; exact h2), List.nil_append]
theorem take_rep {α : Type} {β : Type} (f : β → α) (d : α) (ps : List β) (i : Nat) (h : i < ps.length) : ((ps.take i).map f ++ List.replicate (ps.length - i) d).set i (f ps[i]) = (ps.take (i + 1)).map f ++ List.replicate (ps.length - (i + 1)) d := by
  have hk : ps.length - i = (ps.length - (i + 1)) + 1 := by omega
  have hl : ((ps.take i).map f).length = i := by rw [List.length_map, List.length_take]; omega
  rw [hk, List.replicate_succ, List.set_append_right _ _ (by omega), hl, Nat.sub_self, List.set_cons_zero, List.take_add_one, List.getElem?_eq_getElem h, List.map_append]
  simp
section
variable {kg : SV → List Int} {L : List HP} {w0 : World} {I : Foot}
theorem Ends_tr {s : SV} {ps : List Cn} [hr : RdS I L s Cn inferInstance ps] (hg : GrG I kg ps) (hl : ∀ p ∈ ps, 1 ≤ (kg p.1).length ∧ (kg p.1).length ≤ 1000000) (hn : ps.length ≤ 100000) (he : ∀ p ∈ ps, rd Int I (tl kg p.1) = (kg p.1).drop 1) :
    Tr Try.prog 67 #[.slice s.a s.n s.cap] (SL w0 I L) (fun x : SV × List Cn => .slice x.1.a x.1.n x.1.cap)
      (fun x w => x.2.map Prod.snd = (endsT (ps.map fun p => kg p.1)).map Prod.snd ∧ SL w0 I (OwnS 80 x.1 x.2 :: RowH 3 (x.2.map Prod.fst) ((endsT (ps.map fun p => kg p.1)).map Prod.fst) :: L) w) := by
  refine Tr.intro Try.func67 rfl Try.ntmps67 rfl ?_
  have hvT : ((ps.map fun p => tl kg p.1).map fun v => (rd Int I v, (1 : Int))).foldl putM [] = endsT (ps.map fun p => kg p.1) := by
    unfold endsT
    congr 1
    rw [List.map_map, List.map_map]
    exact List.map_congr_left fun p hp => by simp only [Function.comp_def]; rw [he p hp]
  have hvg : ∀ v ∈ ps.map (fun p => tl kg p.1), SlI I v Int inferInstance (rd Int I v) := fun v hv => by
    obtain ⟨p, hp, rfl⟩ := List.mem_map.1 hv
    exact (tl_at (hg p hp) (hl p hp).1).rd
  have hvl : ∀ v ∈ ps.map (fun p => tl kg p.1), (rd Int I v).length ≤ 1000000 := fun v hv => by
    obtain ⟨p, hp, rfl⟩ := List.mem_map.1 hv
    rw [he p hp, List.length_drop]; have := (hl p hp).2; omega
  have hvn : (ps.map fun p => tl kg p.1).length = ps.length := List.length_map ..
  repeat' (first | ((first | refine WLA.m rfl rfl ?_ ?_ | refine WLA.st rfl ?_ ?_ | refine WLA.x rfl rfl ?_ (fun x => ?_) | refine WLA.x0 rfl ?_ (fun x => ?_)); first | exact trivial | exact rfl | assumption | omega | (refine ⟨?_, ?_⟩ <;> omega) | (simp only [Room, List.length_set, List.length_append, List.length_cons, List.length_nil, List.length_replicate]; omega) | decide | skip) | (refine Stp.go ?_) | (refine WPA.ifT ?_) | (refine WPA.ifF ?_) | ((first | refine WPA.dec ?_); first | refine .inl ⟨by first | assumption | omega | with_reducible rfl | (refine fun h => h ?_; first | assumption | with_reducible rfl) | (simp only [List.length_append, List.length_cons, List.length_nil, List.length_set] <;> omega) | decide, ?_⟩ | refine .inr ⟨by first | assumption | omega | with_reducible rfl | (refine fun h => h ?_; first | assumption | with_reducible rfl) | (simp only [List.length_append, List.length_cons, List.length_nil, List.length_set] <;> omega) | decide, ?_⟩) | ((first | refine WPA.ifBt ?_ ?_ | refine WPA.ifBnf ?_ ?_); assumption) | ((first | refine WPA.ifBnt ?_ ?_ | refine WPA.ifBf ?_ ?_); assumption) | ((first | refine WPA.ifs ?_ ?_ | refine WPA.ifB ?_ ?_) <;> intro hc))
  revert x; intro t
  refine WPA.loopS (σ := Nat) (fun i => [(3, .slice t.a t.n t.cap), (13, .slice s.a s.n s.cap), (14, .int .i64 ps.length), (15, .int .i64 i)]) (fun i => i ≤ ps.length)
    (fun i => SL w0 I (OwnS 30 t ((ps.take i).map (fun p => tl kg p.1) ++ List.replicate (ps.length - i) SV.nil) :: L)) (fun i => ps.length - i) 0 ⟨rfl, rfl, rfl, rfl, trivial⟩ (Nat.zero_le _) (fun w h => ?_) ?_
  · have e : List.replicate (Int.toNat (ps.length : Int)) SV.nil = (ps.take 0).map (fun p => tl kg p.1) ++ List.replicate (ps.length - 0) SV.nil := by rw [List.take_zero, Int.toNat_natCast, Nat.sub_zero]; rfl
    rw [← e]
    exact h.to
  rintro i ρ hi
  by_cases hlt : i < ps.length
  · have hlt' : (i : Int) < ps.length := by omega
    have ei := at_nat ps i hlt
    have hm : at_ ps (i : Int) ∈ ps := by rw [ei]; exact List.getElem_mem _
    have hgi := hg _ hm
    have hli := (hl _ hm).1
    have hli' : (1 : Int) ≤ (kg (at_ ps (i : Int)).1).length := by omega
    have hrep := take_rep (fun p : Cn => tl kg p.1) SV.nil ps i hlt
    rw [← ei] at hrep
    have hll : i < ((ps.take i).map (fun p => tl kg p.1) ++ List.replicate (ps.length - i) SV.nil).length := by rw [List.length_append, List.length_map, List.length_take, List.length_replicate]; omega
    generalize (ps.take i).map (fun p => tl kg p.1) ++ List.replicate (ps.length - i) SV.nil = lv at hrep hll
    repeat' (first | ((first | refine WLA.m rfl rfl ?_ ?_ | refine WLA.st rfl ?_ ?_ | refine WLA.x rfl rfl ?_ (fun x => ?_) | refine WLA.x0 rfl ?_ (fun x => ?_)); first | exact trivial | exact rfl | assumption | omega | (refine ⟨?_, ?_⟩ <;> omega) | (simp only [Room, List.length_set, List.length_append, List.length_cons, List.length_nil, List.length_replicate]; omega) | decide | skip) | (refine Stp.go ?_) | (refine WPA.ifT ?_) | (refine WPA.ifF ?_) | ((first | refine WPA.dec ?_); first | refine .inl ⟨by first | assumption | omega | with_reducible rfl | (refine fun h => h ?_; first | assumption | with_reducible rfl) | (simp only [List.length_append, List.length_cons, List.length_nil, List.length_set] <;> omega) | decide, ?_⟩ | refine .inr ⟨by first | assumption | omega | with_reducible rfl | (refine fun h => h ?_; first | assumption | with_reducible rfl) | (simp only [List.length_append, List.length_cons, List.length_nil, List.length_set] <;> omega) | decide, ?_⟩) | ((first | refine WPA.ifBt ?_ ?_ | refine WPA.ifBnf ?_ ?_); assumption) | ((first | refine WPA.ifBnt ?_ ?_ | refine WPA.ifBf ?_ ?_); assumption) | ((first | refine WPA.ifs ?_ ?_ | refine WPA.ifB ?_ ?_) <;> intro hc))
    refine QQ.loopS (i + 1) ⟨rfl, rfl, rfl, rfl, trivial⟩ hlt (by omega) (fun w h => ?_)
    rw [← hrep]
    rw [Int.toNat_natCast] at h
    exact h.to
  · have hlt' : ¬ (i : Int) < ps.length := by omega
    rw [List.take_of_length_le (by omega), show ps.length - i = 0 by omega, List.replicate_zero, List.append_nil]
    generalize (ps.map fun p => tl kg p.1) = vs at hvT hvg hvl hvn
    repeat' (first | ((first | refine WLA.m rfl rfl ?_ ?_ | refine WLA.st rfl ?_ ?_ | refine WLA.x rfl rfl ?_ (fun x => ?_) | refine WLA.x0 rfl ?_ (fun x => ?_)); first | exact trivial | exact rfl | assumption | omega | (refine ⟨?_, ?_⟩ <;> omega) | (simp only [Room, List.length_set, List.length_append, List.length_cons, List.length_nil, List.length_replicate]; omega) | decide | skip) | (refine Stp.go ?_) | (guard_target =~ WLA _ _ _ _ _ (⟨_, .call ⟨.value (.func 107), _, _⟩, _, _, _, _⟩ :: _) _ _; first | (refine WLA.call rfl rfl (sortG_tr hvg hvl (by omega)) ?_; rintro ⟨qs, hq1, hq2⟩; have hql := hq1.length_eq; dsimp only) | (refine WLA.call0 rfl (sortG_tr hvg hvl (by omega)) ?_; rintro ⟨qs, hq1, hq2⟩; have hql := hq1.length_eq; dsimp only)) | (refine WPA.ifT ?_) | (refine WPA.ifF ?_) | ((first | refine WPA.dec ?_); first | refine .inl ⟨by first | assumption | omega | with_reducible rfl | (refine fun h => h ?_; first | assumption | with_reducible rfl) | (simp only [List.length_append, List.length_cons, List.length_nil, List.length_set] <;> omega) | decide, ?_⟩ | refine .inr ⟨by first | assumption | omega | with_reducible rfl | (refine fun h => h ?_; first | assumption | with_reducible rfl) | (simp only [List.length_append, List.length_cons, List.length_nil, List.length_set] <;> omega) | decide, ?_⟩) | ((first | refine WPA.ifBt ?_ ?_ | refine WPA.ifBnf ?_ ?_); assumption) | ((first | refine WPA.ifBnt ?_ ?_ | refine WPA.ifBf ?_ ?_); assumption) | ((first | refine WPA.ifs ?_ ?_ | refine WPA.ifB ?_ ?_) <;> intro hc))
    revert x; intro out0
    have hqT : (qs.map fun v => (rd Int I v, (1 : Int))).foldl putM [] = endsT (ps.map fun p => kg p.1) := by rw [← hvT]; exact (foldl_perm (hq1.map _) List.Pairwise.nil).symm
    generalize endsT (ps.map fun p => kg p.1) = T at hqT
    have hqg : ∀ v ∈ qs, SlI I v Int inferInstance (rd Int I v) := fun v hv => hvg v (hq1.mem_iff.2 hv)
    have hqk : ∀ v ∈ qs, (rd Int I v).length ≤ 1000000 := fun v hv => hvl v (hq1.mem_iff.2 hv)
    clear hvT hvg hvl
    refine WPA.loopS (σ := GS) (fun y => [(6, .slice y.out.a y.out.n y.out.cap), (32, .slice t.a t.n t.cap), (33, .int .i64 qs.length), (34, .int .i64 y.i)])
      (fun y => (y.i ≤ qs.length ∧ y.ms.length ≤ y.i) ∧ (y.cs.map Prod.snd = y.ms.map Prod.snd ∧ ∀ m ∈ y.ms, m.1.length ≤ 1000000) ∧ (y.ms ++ (qs.drop y.i).map (fun v => (rd Int I v, (1 : Int)))).foldl putM [] = T ∧ y.ms.Pairwise ltR ∧ ∀ m ∈ y.ms, ∀ q ∈ qs.drop y.i, ¬ ltL (rd Int I q).reverse m.1.reverse)
      (fun y => SL w0 I (OwnS 80 y.out y.cs :: RowH 3 (y.cs.map Prod.fst) (y.ms.map Prod.fst) :: OwnS 30 t qs :: L)) (fun y => qs.length - y.i) ⟨0, out0, [], []⟩ ⟨rfl, rfl, rfl, rfl, trivial⟩ ⟨⟨Nat.zero_le _, Nat.le_refl _⟩, ⟨rfl, by simp⟩, hqT, List.Pairwise.nil, by simp⟩ (fun w h => ?_) ?_
    · have e : List.replicate (Int.toNat 0) ((SV.nil, 0) : SV × Int) = [] := rfl
      rw [e] at h
      have h2 := (RowH.nil (α := Int) (e := 3)).sl h
      show SL w0 I (OwnS 80 out0 ([] : List (SV × Int)) :: RowH 3 [] ([] : List (List Int)) :: OwnS 30 t qs :: L) w
      exact h2.to
    rintro ⟨i, out, cs, ms⟩ ρ ⟨⟨hi, hmi0⟩, ⟨h5, h6⟩, h7, h8, h9⟩
    dsimp only at hi hmi0 h5 h6 h7 h8 h9 ⊢
    have hcl : cs.length = ms.length := by have := congrArg List.length h5; simpa using this
    have hcb : cs.length ≤ 100000 := by omega
    by_cases hlt : i < qs.length
    · have hlt' : (i : Int) < qs.length := by omega
      have ei := at_nat qs i hlt
      have hmq : at_ qs (i : Int) ∈ qs := by rw [ei]; exact List.getElem_mem _
      have hxs := hqg _ hmq
      have hxl := hqk _ hmq
      have hdr : qs.drop i = at_ qs (i : Int) :: qs.drop (i + 1) := by rw [ei]; exact List.drop_eq_getElem_cons hlt
      have hafter : ∀ q ∈ qs.drop (i + 1), ¬ ltL (rd Int I q).reverse (rd Int I (at_ qs (i : Int))).reverse := by
        have := List.pairwise_cons.1 (hdr ▸ hq2.sublist (List.drop_sublist i qs))
        exact fun q hq => this.1 q hq
      rw [hdr, List.map_cons] at h7
      rw [hdr] at h9
      have h9a : ∀ m ∈ ms, ¬ ltL (rd Int I (at_ qs (i : Int))).reverse m.1.reverse := fun m hm => h9 m hm _ (List.mem_cons_self ..)
      have h9b : ∀ m ∈ ms, ∀ q ∈ qs.drop (i + 1), ¬ ltL (rd Int I q).reverse m.1.reverse := fun m hm q hq => h9 m hm q (List.mem_cons_of_mem _ hq)
      have hxl2 : (rd Int I (at_ qs (i : Int))).length ≤ 1000000000 := by omega
      have hfin : ∀ ms' : List Ct, (ms'.map Prod.fst = ms.map Prod.fst ∨ ms' = ms ++ [(rd Int I (at_ qs (i : Int)), 1)]) → (∀ m ∈ ms', m.1.length ≤ 1000000) ∧ ∀ m ∈ ms', ∀ q ∈ qs.drop (i + 1), ¬ ltL (rd Int I q).reverse m.1.reverse := by
        intro ms' h
        have : ∀ m ∈ ms', (∃ z ∈ ms, m.1 = z.1) ∨ m.1 = rd Int I (at_ qs (i : Int)) := fun m hm => by
          rcases h with h | h
          · have := h ▸ List.mem_map_of_mem (f := Prod.fst) hm
            obtain ⟨z, hz, e⟩ := List.mem_map.1 this
            exact .inl ⟨z, hz, e.symm⟩
          · rw [h] at hm
            rcases List.mem_append.1 hm with hm | hm
            · exact .inl ⟨m, hm, rfl⟩
            · rw [List.mem_singleton.1 hm]; exact .inr rfl
        constructor
        · intro m hm
          rcases this m hm with ⟨z, hz, e⟩ | e <;> rw [e]
          · exact h6 z hz
          · exact hxl
        · intro m hm
          rcases this m hm with ⟨z, hz, e⟩ | e <;> rw [e]
          · exact h9b z hz
          · exact hafter
      clear hafter h9 h9b
      generalize hX : at_ qs (i : Int) = xg at hxs hxl h7 h9a hxl2 hfin
      by_cases heq : ∃ m0 n, ms = m0 ++ [(rd Int I xg, n)]
      · obtain ⟨m0, n, rfl⟩ := heq
        rw [List.length_append, List.length_singleton] at hcl
        have hz0 : (0 : Int) < cs.length := by omega
        have hci : (cs.length : Int) - 1 = (m0.length : Int) := by omega
        have hcat : at_ cs ((cs.length : Int) - 1) = cs[m0.length] := by rw [hci]; exact at_nat _ _ (by omega)
        have hnat : ((cs.length : Int) - 1).toNat = m0.length := by omega
        have hsnd : (at_ cs ((cs.length : Int) - 1)).2 = n := by
          rw [hcat]
          have := congrArg (fun l => l[m0.length]?) h5
          simp only [List.getElem?_map, List.getElem?_eq_getElem (show m0.length < cs.length by omega), Option.map_some, List.map_append] at this
          rw [List.getElem?_append_right (by simp)] at this
          simp at this
          exact this
        haveI hrow : IsRow (cs.map Prod.fst) ((m0 ++ [(rd Int I xg, n)]).map Prod.fst) (at_ cs ((cs.length : Int) - 1)).1 (rd Int I xg) := ⟨⟨m0.length, by rw [List.length_map]; omega, by simp, by
          rw [hcat, List.getD_eq_getElem?_getD, List.getElem?_map, List.getElem?_eq_getElem (by omega)]; rfl, by
          rw [List.getD_eq_getElem?_getD, List.getElem?_map, List.getElem?_append_right (Nat.le_refl _), Nat.sub_self]; rfl⟩⟩
        have hf1 : (cs.set ((cs.length : Int) - 1).toNat ((at_ cs ((cs.length : Int) - 1)).1, IntKind.i64.wrap ((at_ cs ((cs.length : Int) - 1)).2 + 1))).map Prod.fst = cs.map Prod.fst := map_set_fst fun y hy => by
          rw [hnat, List.getElem?_eq_getElem (by omega)] at hy; injection hy with hy; show y.1 = (at_ cs ((cs.length : Int) - 1)).1; rw [hcat, ← hy]
        have hf2 : (m0 ++ [(rd Int I xg, addN n 1)]).map Prod.fst = (m0 ++ [(rd Int I xg, n)]).map Prod.fst := by rw [List.map_append, List.map_append]; rfl
        have hset : (m0 ++ [(rd Int I xg, n)]).set m0.length (rd Int I xg, addN n 1) = m0 ++ [(rd Int I xg, addN n 1)] := by rw [List.set_append_right _ _ (Nat.le_refl _), Nat.sub_self]; rfl
        have hcs2 : (cs.set ((cs.length : Int) - 1).toNat ((at_ cs ((cs.length : Int) - 1)).1, IntKind.i64.wrap ((at_ cs ((cs.length : Int) - 1)).2 + 1))).map Prod.snd = (m0 ++ [(rd Int I xg, addN n 1)]).map Prod.snd := by
          rw [hnat, ← hset]; exact map_set_snd h5 (by rw [hsnd])
        have hfin := hfin (m0 ++ [(rd Int I xg, addN n 1)]) (.inl hf2)
        have hP' : (m0 ++ [(rd Int I xg, addN n 1)]).Pairwise ltR := by
          have := List.pairwise_map (f := Prod.fst) (R := fun a b : List Int => ltL a.reverse b.reverse) (l := m0 ++ [(rd Int I xg, addN n 1)])
          rw [hf2, List.pairwise_map] at this
          exact this.1 h8
        have h7' : ((m0 ++ [(rd Int I xg, addN n 1)]) ++ (qs.drop (i + 1)).map (fun v => (rd Int I v, (1 : Int)))).foldl putM [] = T := by
          have hr : ∀ rest : List Ct, ((m0 ++ [(rd Int I xg, addN n 1)]) ++ rest).foldl putM [] = ((m0 ++ [(rd Int I xg, n)]) ++ (rd Int I xg, 1) :: rest).foldl putM [] := fun rest => by
            rw [List.append_assoc, List.foldl_append, List.append_assoc, List.foldl_append (l := m0)]
            show rest.foldl putM (putM (m0.foldl putM []) (rd Int I xg, addN n 1)) = rest.foldl putM (putM (putM (m0.foldl putM []) (rd Int I xg, n)) (rd Int I xg, 1))
            rw [put_twice (fold_ris List.Pairwise.nil)]
          rw [hr]; exact h7
        have heqn : rd Int I xg = rd Int I xg := rfl
        repeat' ((fail_if_success (guard_target =~ WPA _ _ _ (.region 14 _ _) _ _ _)); first | ((rw [hX])) | ((first | refine WLA.m rfl rfl ?_ ?_ | refine WLA.st rfl ?_ ?_ | refine WLA.x rfl rfl ?_ (fun x => ?_) | refine WLA.x0 rfl ?_ (fun x => ?_)); first | exact trivial | exact rfl | assumption | omega | (refine ⟨?_, ?_⟩ <;> omega) | (simp only [Room, List.length_set, List.length_append, List.length_cons, List.length_nil, List.length_replicate]; omega) | decide | skip) | (refine Stp.go ?_) | (guard_target =~ WLA _ _ _ _ _ (⟨_, .call ⟨.value (.func 100), _, _⟩, _, _, _, _⟩ :: _) _ _; refine WLA.cq rfl rfl (Equal_tr (by assumption)) ?_) | (refine WPA.ifT ?_) | (refine WPA.ifF ?_) | (refine WLA.no rfl rfl ?_) | ((first | refine WPA.dec ?_ | ((fail_if_success (guard_target =~ WLA _ _ _ _ _ _ (put1 _ _ (.bool true)) _)); (fail_if_success (guard_target =~ WLA _ _ _ _ _ _ (put1 _ _ (.bool false)) _)); refine WLA.dec rfl rfl ?_) | refine WLA.pk ?_); first | refine .inl ⟨by first | assumption | omega | with_reducible rfl | (refine fun h => h ?_; first | assumption | with_reducible rfl) | (simp only [List.length_append, List.length_cons, List.length_nil, List.length_set] <;> omega) | decide, ?_⟩ | refine .inr ⟨by first | assumption | omega | with_reducible rfl | (refine fun h => h ?_; first | assumption | with_reducible rfl) | (simp only [List.length_append, List.length_cons, List.length_nil, List.length_set] <;> omega) | decide, ?_⟩) | ((first | refine WPA.ifBt ?_ ?_ | refine WPA.ifBnf ?_ ?_); assumption) | ((first | refine WPA.ifBnt ?_ ?_ | refine WPA.ifBf ?_ ?_); assumption) | ((first | refine WPA.ifs ?_ ?_ | refine WPA.ifB ?_ ?_) <;> intro hc) | ((fail_if_success (guard_target =~ WLA _ _ _ _ _ _ (put1 _ _ (.bool true)) _)); (fail_if_success (guard_target =~ WLA _ _ _ _ _ _ (put1 _ _ (.bool false)) _)); (first | refine WLA.both rfl rfl ?_ ?_ | refine WLA.bothB rfl rfl ?_ ?_) <;> intro hg))
        repeat' ((fail_if_success (guard_target =~ WPA _ _ _ (.region 16 _ _) _ _ _)); first | (guard_target =~ WLA _ _ _ _ _ (⟨_, .binOp .add _ _ _ _, _, _, _, _⟩ :: _) _ _; refine WLA.m (h := addW) rfl rfl trivial ?_) | (guard_target =~ WDQ _ _ _ _ _ _ _ ⟨_, .binOp .add _ _ _ _, _, _, _, _⟩ _ _ _; refine WDQ.m (h := addW) rfl rfl trivial ?_) | (guard_target =~ WDP _ _ _ _ _ _ _ ⟨_, .binOp .add _ _ _ _, _, _, _, _⟩ _ _ _; refine WDP.m (h := addW) rfl rfl trivial ?_) | ((first | refine WLA.m rfl rfl ?_ ?_ | refine WLA.st rfl ?_ ?_ | refine WLA.x rfl rfl ?_ (fun x => ?_) | refine WLA.x0 rfl ?_ (fun x => ?_)); first | exact trivial | exact rfl | assumption | omega | (refine ⟨?_, ?_⟩ <;> omega) | (simp only [Room, List.length_set, List.length_append, List.length_cons, List.length_nil, List.length_replicate]; omega) | decide | skip) | (refine Stp.go ?_) | (refine WPA.ifT ?_) | (refine WPA.ifF ?_) | ((first | refine WPA.dec ?_); first | refine .inl ⟨by first | assumption | omega | with_reducible rfl | (refine fun h => h ?_; first | assumption | with_reducible rfl) | (simp only [List.length_append, List.length_cons, List.length_nil, List.length_set] <;> omega) | decide, ?_⟩ | refine .inr ⟨by first | assumption | omega | with_reducible rfl | (refine fun h => h ?_; first | assumption | with_reducible rfl) | (simp only [List.length_append, List.length_cons, List.length_nil, List.length_set] <;> omega) | decide, ?_⟩) | ((first | refine WPA.ifBt ?_ ?_ | refine WPA.ifBnf ?_ ?_); assumption) | ((first | refine WPA.ifBnt ?_ ?_ | refine WPA.ifBf ?_ ?_); assumption) | ((first | refine WPA.ifs ?_ ?_ | refine WPA.ifB ?_ ?_) <;> intro hc))
        repeat' (first | ((first | refine WLA.m rfl rfl ?_ ?_ | refine WLA.st rfl ?_ ?_ | refine WLA.x rfl rfl ?_ (fun x => ?_) | refine WLA.x0 rfl ?_ (fun x => ?_)); first | exact trivial | exact rfl | assumption | omega | (refine ⟨?_, ?_⟩ <;> omega) | (simp only [Room, List.length_set, List.length_append, List.length_cons, List.length_nil, List.length_replicate]; omega) | decide | skip) | (refine Stp.go ?_) | (refine WPA.ifT ?_) | (refine WPA.ifF ?_) | ((first | refine WPA.dec ?_); first | refine .inl ⟨by first | assumption | omega | with_reducible rfl | (refine fun h => h ?_; first | assumption | with_reducible rfl) | (simp only [List.length_append, List.length_cons, List.length_nil, List.length_set] <;> omega) | decide, ?_⟩ | refine .inr ⟨by first | assumption | omega | with_reducible rfl | (refine fun h => h ?_; first | assumption | with_reducible rfl) | (simp only [List.length_append, List.length_cons, List.length_nil, List.length_set] <;> omega) | decide, ?_⟩) | ((first | refine WPA.ifBt ?_ ?_ | refine WPA.ifBnf ?_ ?_); assumption) | ((first | refine WPA.ifBnt ?_ ?_ | refine WPA.ifBf ?_ ?_); assumption) | ((first | refine WPA.ifs ?_ ?_ | refine WPA.ifB ?_ ?_) <;> intro hc))
        refine QQ.loopS ⟨i + 1, out, _, m0 ++ [(rd Int I xg, addN n 1)]⟩ ⟨rfl, rfl, rfl, rfl, trivial⟩ ⟨⟨hlt, by simp at hmi0 ⊢; omega⟩, ⟨hcs2, hfin.1⟩, h7', hP', hfin.2⟩ (by dsimp only; omega) (fun w h => ?_)
        dsimp only
        rw [hf1, hf2]
        exact h.to
      · have hP' := runs_new (n := 1) h8 h9a fun m0 l e h => heq ⟨m0, l.2, by rw [e, ← h]⟩
        have hfin := hfin (ms ++ [(rd Int I xg, 1)]) (.inr rfl)
        have h7' : ((ms ++ [(rd Int I xg, 1)]) ++ (qs.drop (i + 1)).map (fun v => (rd Int I v, (1 : Int)))).foldl putM [] = T := by
          rw [← h7, List.append_assoc]; rfl
        have hsn : (cs.map Prod.fst).length = (ms.map Prod.fst).length := by rw [List.length_map, List.length_map, hcl]
        have hcs2 : ∀ g' : SV, (cs ++ [(g', 1)]).map Prod.snd = (ms ++ [(rd Int I xg, 1)]).map Prod.snd := fun g' => by rw [List.map_append, List.map_append, h5]; rfl
        rcases List.eq_nil_or_concat ms with e0 | ⟨m0, ⟨lk0, ln0⟩, e0⟩
        · have hz0 : ¬ (0 : Int) < cs.length := by rw [hcl, e0]; decide
          repeat' (first | ((rw [hX])) | ((first | refine WLA.m rfl rfl ?_ ?_ | refine WLA.st rfl ?_ ?_ | refine WLA.x rfl rfl ?_ (fun x => ?_) | refine WLA.x0 rfl ?_ (fun x => ?_)); first | exact trivial | exact rfl | assumption | omega | (refine ⟨?_, ?_⟩ <;> omega) | (simp only [Room, List.length_set, List.length_append, List.length_cons, List.length_nil, List.length_replicate]; omega) | decide | skip) | (refine Stp.go ?_) | (guard_target =~ WLA _ _ _ _ _ (⟨_, .call ⟨.value (.func 100), _, _⟩, _, _, _, _⟩ :: _) _ _; refine WLA.cq rfl rfl (Equal_tr (by assumption)) ?_) | (guard_target =~ WLA _ _ _ _ _ (⟨_, .call ⟨.value (.func 92), _, _⟩, _, _, _, _⟩ :: _) _ _; first | (refine WLA.call rfl rfl (Clone_tr (by assumption)) ?_; rintro g') | (refine WLA.call0 rfl (Clone_tr (by assumption)) ?_; rintro g')) | (refine WPA.ifT ?_) | (refine WPA.ifF ?_) | (refine WLA.no rfl rfl ?_) | ((first | refine WPA.dec ?_ | ((fail_if_success (guard_target =~ WLA _ _ _ _ _ _ (put1 _ _ (.bool true)) _)); (fail_if_success (guard_target =~ WLA _ _ _ _ _ _ (put1 _ _ (.bool false)) _)); refine WLA.dec rfl rfl ?_) | refine WLA.pk ?_); first | refine .inl ⟨by first | assumption | omega | with_reducible rfl | (refine fun h => h ?_; first | assumption | with_reducible rfl) | (simp only [List.length_append, List.length_cons, List.length_nil, List.length_set] <;> omega) | decide, ?_⟩ | refine .inr ⟨by first | assumption | omega | with_reducible rfl | (refine fun h => h ?_; first | assumption | with_reducible rfl) | (simp only [List.length_append, List.length_cons, List.length_nil, List.length_set] <;> omega) | decide, ?_⟩) | ((first | refine WPA.ifBt ?_ ?_ | refine WPA.ifBnf ?_ ?_); assumption) | ((first | refine WPA.ifBnt ?_ ?_ | refine WPA.ifBf ?_ ?_); assumption) | ((first | refine WPA.ifs ?_ ?_ | refine WPA.ifB ?_ ?_) <;> intro hc) | ((fail_if_success (guard_target =~ WLA _ _ _ _ _ _ (put1 _ _ (.bool true)) _)); (fail_if_success (guard_target =~ WLA _ _ _ _ _ _ (put1 _ _ (.bool false)) _)); (first | refine WLA.both rfl rfl ?_ ?_ | refine WLA.bothB rfl rfl ?_ ?_) <;> intro hg))
          refine QQ.loopS ⟨i + 1, x, cs ++ [(g', 1)], ms ++ [(rd Int I xg, 1)]⟩ ⟨rfl, rfl, rfl, rfl, trivial⟩ ⟨⟨hlt, by simp; omega⟩, ⟨hcs2 g', hfin.1⟩, h7', hP', hfin.2⟩ (by dsimp only; omega) (fun w h => ?_)
          have h2 := (RowH.snoc hsn).sl ((EntC.out (L' := OwnS 3 g' (rd Int I xg) :: RowH 3 (cs.map Prod.fst) (ms.map Prod.fst) :: OwnS 80 x (cs ++ [(g', 1)]) :: OwnS 30 t qs :: L)).sl h)
          dsimp only
          simp only [List.map_append, List.map_cons, List.map_nil]
          exact h2.to
        · rw [List.concat_eq_append] at e0
          have hml : ms.length = m0.length + 1 := by rw [e0]; simp
          have hz0 : (0 : Int) < cs.length := by omega
          have hci : (cs.length : Int) - 1 = (m0.length : Int) := by omega
          have hcat : at_ cs ((cs.length : Int) - 1) = cs[m0.length] := by rw [hci]; exact at_nat _ _ (by omega)
          haveI hrow : IsRow (cs.map Prod.fst) (ms.map Prod.fst) (at_ cs ((cs.length : Int) - 1)).1 lk0 := ⟨⟨m0.length, by rw [List.length_map]; omega, by rw [List.length_map]; omega, by
            rw [hcat, List.getD_eq_getElem?_getD, List.getElem?_map, List.getElem?_eq_getElem (by omega)]; rfl, by
            rw [e0, List.getD_eq_getElem?_getD, List.getElem?_map, List.getElem?_append_right (Nat.le_refl _), Nat.sub_self]; rfl⟩⟩
          have hlb : lk0.length ≤ 1000000000 := by have := h6 (lk0, ln0) (by rw [e0]; simp); dsimp only at this; omega
          have hne : ¬ lk0 = rd Int I xg := fun h => heq ⟨m0, ln0, by rw [e0, h]⟩
          repeat' (first | ((rw [hX])) | ((first | refine WLA.m rfl rfl ?_ ?_ | refine WLA.st rfl ?_ ?_ | refine WLA.x rfl rfl ?_ (fun x => ?_) | refine WLA.x0 rfl ?_ (fun x => ?_)); first | exact trivial | exact rfl | assumption | omega | (refine ⟨?_, ?_⟩ <;> omega) | (simp only [Room, List.length_set, List.length_append, List.length_cons, List.length_nil, List.length_replicate]; omega) | decide | skip) | (refine Stp.go ?_) | (guard_target =~ WLA _ _ _ _ _ (⟨_, .call ⟨.value (.func 100), _, _⟩, _, _, _, _⟩ :: _) _ _; refine WLA.cq rfl rfl (Equal_tr (by assumption)) ?_) | (guard_target =~ WLA _ _ _ _ _ (⟨_, .call ⟨.value (.func 92), _, _⟩, _, _, _, _⟩ :: _) _ _; first | (refine WLA.call rfl rfl (Clone_tr (by assumption)) ?_; rintro g') | (refine WLA.call0 rfl (Clone_tr (by assumption)) ?_; rintro g')) | (refine WPA.ifT ?_) | (refine WPA.ifF ?_) | (refine WLA.no rfl rfl ?_) | ((first | refine WPA.dec ?_ | ((fail_if_success (guard_target =~ WLA _ _ _ _ _ _ (put1 _ _ (.bool true)) _)); (fail_if_success (guard_target =~ WLA _ _ _ _ _ _ (put1 _ _ (.bool false)) _)); refine WLA.dec rfl rfl ?_) | refine WLA.pk ?_); first | refine .inl ⟨by first | assumption | omega | with_reducible rfl | (refine fun h => h ?_; first | assumption | with_reducible rfl) | (simp only [List.length_append, List.length_cons, List.length_nil, List.length_set] <;> omega) | decide, ?_⟩ | refine .inr ⟨by first | assumption | omega | with_reducible rfl | (refine fun h => h ?_; first | assumption | with_reducible rfl) | (simp only [List.length_append, List.length_cons, List.length_nil, List.length_set] <;> omega) | decide, ?_⟩) | ((first | refine WPA.ifBt ?_ ?_ | refine WPA.ifBnf ?_ ?_); assumption) | ((first | refine WPA.ifBnt ?_ ?_ | refine WPA.ifBf ?_ ?_); assumption) | ((first | refine WPA.ifs ?_ ?_ | refine WPA.ifB ?_ ?_) <;> intro hc) | ((fail_if_success (guard_target =~ WLA _ _ _ _ _ _ (put1 _ _ (.bool true)) _)); (fail_if_success (guard_target =~ WLA _ _ _ _ _ _ (put1 _ _ (.bool false)) _)); (first | refine WLA.both rfl rfl ?_ ?_ | refine WLA.bothB rfl rfl ?_ ?_) <;> intro hg))
          refine QQ.loopS ⟨i + 1, x, cs ++ [(g', 1)], ms ++ [(rd Int I xg, 1)]⟩ ⟨rfl, rfl, rfl, rfl, trivial⟩ ⟨⟨hlt, by simp; omega⟩, ⟨hcs2 g', hfin.1⟩, h7', hP', hfin.2⟩ (by dsimp only; omega) (fun w h => ?_)
          have h2 := (RowH.snoc hsn).sl ((EntC.out (L' := OwnS 3 g' (rd Int I xg) :: RowH 3 (cs.map Prod.fst) (ms.map Prod.fst) :: OwnS 80 x (cs ++ [(g', 1)]) :: OwnS 30 t qs :: L)).sl h)
          dsimp only
          simp only [List.map_append, List.map_cons, List.map_nil]
          exact h2.to
    · have hlt' : ¬ (i : Int) < qs.length := by omega
      rw [List.drop_of_length_le (by omega), List.map_nil, List.append_nil] at h7
      repeat' (first | ((first | refine WLA.m rfl rfl ?_ ?_ | refine WLA.st rfl ?_ ?_ | refine WLA.x rfl rfl ?_ (fun x => ?_) | refine WLA.x0 rfl ?_ (fun x => ?_)); first | exact trivial | exact rfl | assumption | omega | (refine ⟨?_, ?_⟩ <;> omega) | (simp only [Room, List.length_set, List.length_append, List.length_cons, List.length_nil, List.length_replicate]; omega) | decide | skip) | (refine Stp.go ?_) | (guard_target =~ WLA _ _ _ _ _ (⟨_, .call ⟨.value (.func 98), _, _⟩, _, _, _, _⟩ :: _) _ _; first | (refine WLA.call rfl rfl (sortR_tr h5 h6 (by omega)) ?_; rintro ⟨cs2, ms2⟩; refine WLA.pure fun hx => ?_; dsimp only at hx ⊢) | (refine WLA.call0 rfl (sortR_tr h5 h6 (by omega)) ?_; rintro ⟨cs2, ms2⟩; refine WLA.pure fun hx => ?_; dsimp only at hx ⊢)) | (refine WPA.ifT ?_) | (refine WPA.ifF ?_) | ((first | refine WPA.dec ?_); first | refine .inl ⟨by first | assumption | omega | with_reducible rfl | (refine fun h => h ?_; first | assumption | with_reducible rfl) | (simp only [List.length_append, List.length_cons, List.length_nil, List.length_set] <;> omega) | decide, ?_⟩ | refine .inr ⟨by first | assumption | omega | with_reducible rfl | (refine fun h => h ?_; first | assumption | with_reducible rfl) | (simp only [List.length_append, List.length_cons, List.length_nil, List.length_set] <;> omega) | decide, ?_⟩) | ((first | refine WPA.ifBt ?_ ?_ | refine WPA.ifBnf ?_ ?_); assumption) | ((first | refine WPA.ifBnt ?_ ?_ | refine WPA.ifBf ?_ ?_); assumption) | ((first | refine WPA.ifs ?_ ?_ | refine WPA.ifB ?_ ?_) <;> intro hc))
      obtain ⟨⟨hx1, hx2⟩, hx3⟩ := hx
      have hd := ends_done h8 h7 hx2 hx3
      subst hd
      exact QQ.end_ rfl (out, cs2) rfl fun w h => ⟨hx1, h.to⟩
end
end Go.Proofs.Ytlodbajaoadhdaa
