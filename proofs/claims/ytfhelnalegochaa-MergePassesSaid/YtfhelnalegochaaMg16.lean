/- MergeLists and MergePasses: the walks. Conditions: none. -/
import Derived.Test.YtfhelnalegochaaMg15
namespace Go.Proofs.Ytfhelnalegochaa
open Go Go.Fw Go.RowKit
set_option linter.unusedVariables false
set_option linter.unusedSimpArgs false
set_option maxRecDepth 100000
set_option maxHeartbeats 16000000
set_option synthInstance.maxHeartbeats 200000
set_option synthInstance.maxSize 100000
attribute [local irreducible] WPA WLA WDA WDQ WDE QQ seqQ blockQ loopQ fnQ OpP OpT Tr TrP SL SLd OwnS LitS Bk BkE Ob
attribute [local irreducible] RowH
theorem MergePasses_tr {n k : Int} {w0 : World} {I : Foot} : Tr Try.prog 4 #[.int .i64 n, .int .i64 k] (SL w0 I []) (fun _ : Unit => .bool true) (fun _ => SL w0 I []) := by
  refine Tr.intro Try.func4 rfl Try.ntmps4 rfl ?_
  by_cases hn : n ≤ 10000
  · have hn' : ¬ 10000 < n := by omega
    have hpp : passes k n = passes k n := rfl
    repeat' (first
      | (refine WLA.m rfl rfl ?_ ?_; first | exact trivial | exact rfl | assumption | omega | (refine ⟨?_, ?_⟩ <;> omega) | (simp only [Room, List.length_set, List.length_append, List.length_cons, List.length_nil, List.length_replicate]; omega) | skip)
      | (refine WLA.nil ?_)
      | (refine WPA.region ?_)
      | (refine WPA.seq ?_)
      | (refine QQ.seq_normal ?_)
      | (refine WPA.skip ?_)
      | (refine WPA.block ?_)
      | (refine WPA.ret ?_)
      | (refine WPA.exit ?_)
      | (refine QQ.seq_ret ?_)
      | (refine QQ.seq_exit ?_)
      | (refine QQ.block_normal ?_)
      | (refine QQ.block_ret ?_)
      | (refine QQ.block_hit ?_)
      | (refine QQ.block_miss rfl ?_)
      | (refine QQ.loop_ret ?_)
      | (refine QQ.loop_exit ?_)
      | (guard_target =~ WLA _ _ _ _ _ (⟨_, .call ⟨.value (.func 20), _, _⟩, _, _, _, _⟩ :: _) _ _; refine WLA.cq rfl rfl (Passes_tr hn) ?_)
      | (guard_target =~ WLA _ _ _ _ _ (⟨_, .call ⟨.value (.func 21), _, _⟩, _, _, _, _⟩ :: _) _ _; refine WLA.cq rfl rfl (rPasses_tr hn) ?_)
      | (guard_target =~ WLA _ _ _ _ _ (⟨_, .call ⟨.value (.func 16), _, _⟩, _, _, _, _⟩ :: _) _ _; first | (refine WLA.call rfl rfl (live_tr21 _ _ _) ?_; rintro ⟨⟩) | (refine WLA.call0 rfl (live_tr21 _ _ _) ?_; rintro ⟨⟩))
      | (refine WLA.st rfl ?_ ?_; first | exact trivial | exact rfl | assumption | omega | (refine ⟨?_, ?_⟩ <;> omega) | (simp only [Room, List.length_set, List.length_append, List.length_cons, List.length_nil, List.length_replicate]; omega) | skip)
      | (refine WLA.x rfl rfl ?_ (fun x => ?_); first | exact trivial | exact rfl | assumption | omega | (refine ⟨?_, ?_⟩ <;> omega) | (simp only [Room, List.length_set, List.length_append, List.length_cons, List.length_nil, List.length_replicate]; omega) | skip)
      | (refine WLA.x0 rfl ?_ (fun x => ?_); first | exact trivial | exact rfl | assumption | omega | (refine ⟨?_, ?_⟩ <;> omega) | (simp only [Room, List.length_set, List.length_append, List.length_cons, List.length_nil, List.length_replicate]; omega) | skip)
      | (guard_target =~ WPA _ _ _ (.cond _ _ _) _ _ _; first | (refine WPA.ifT ?_) | (refine WPA.ifF ?_) | (refine WPA.ifYes ?_ ?_; (first | assumption | omega | (refine fun h => h ?_; assumption) | (simp only [List.length_append, List.length_cons, List.length_nil, List.length_set] <;> omega))) | (refine WPA.ifNo ?_ ?_; (first | assumption | omega | (refine fun h => h ?_; assumption) | (simp only [List.length_append, List.length_cons, List.length_nil, List.length_set] <;> omega))) | (refine WPA.ifBt ?_ ?_; assumption) | (refine WPA.ifBf ?_ ?_; assumption) | (refine WPA.ifBnt ?_ ?_; assumption) | (refine WPA.ifBnf ?_ ?_; assumption) | (refine WPA.ifs ?_ ?_ <;> intro hc) | (refine WPA.ifB ?_ ?_ <;> intro hc))
      | (guard_target =~ WLA _ _ _ _ _ (⟨_, _, _, _, _, some _⟩ :: _) _ _; first | (refine WLA.no rfl rfl ?_) | (refine WLA.yes rfl rfl ?_ ?_; (first | assumption | omega | (refine fun h => h ?_; assumption) | (simp only [List.length_append, List.length_cons, List.length_nil, List.length_set] <;> omega))) | (refine WLA.nay rfl rfl ?_ ?_; (first | assumption | omega | (refine fun h => h ?_; assumption) | (simp only [List.length_append, List.length_cons, List.length_nil, List.length_set] <;> omega))) | (refine WLA.both rfl rfl ?_ ?_ <;> intro hg) | (refine WLA.bothB rfl rfl ?_ ?_ <;> intro hg)))
    exact QQ.end_ rfl () rfl fun w h => h
  · have hn' : 10000 < n := by omega
    repeat' ((fail_if_success (guard_target =~ WPA _ _ _ (.region 3 _ _) _ _ _)); first
      | (refine WLA.m rfl rfl ?_ ?_; first | exact trivial | exact rfl | assumption | omega | (refine ⟨?_, ?_⟩ <;> omega) | (simp only [Room, List.length_set, List.length_append, List.length_cons, List.length_nil, List.length_replicate]; omega) | skip)
      | (refine WLA.nil ?_)
      | (refine WPA.region ?_)
      | (refine WPA.seq ?_)
      | (refine QQ.seq_normal ?_)
      | (refine WPA.skip ?_)
      | (refine WPA.block ?_)
      | (refine WPA.ret ?_)
      | (refine WPA.exit ?_)
      | (refine QQ.seq_ret ?_)
      | (refine QQ.seq_exit ?_)
      | (refine QQ.block_normal ?_)
      | (refine QQ.block_ret ?_)
      | (refine QQ.block_hit ?_)
      | (refine QQ.block_miss rfl ?_)
      | (refine QQ.loop_ret ?_)
      | (refine QQ.loop_exit ?_)
      | (guard_target =~ WLA _ _ _ _ _ (⟨_, .call ⟨.value (.func 16), _, _⟩, _, _, _, _⟩ :: _) _ _; first | (refine WLA.call rfl rfl (live_tr21 _ _ _) ?_; rintro ⟨⟩) | (refine WLA.call0 rfl (live_tr21 _ _ _) ?_; rintro ⟨⟩))
      | (refine WLA.st rfl ?_ ?_; first | exact trivial | exact rfl | assumption | omega | (refine ⟨?_, ?_⟩ <;> omega) | (simp only [Room, List.length_set, List.length_append, List.length_cons, List.length_nil, List.length_replicate]; omega) | skip)
      | (refine WLA.x rfl rfl ?_ (fun x => ?_); first | exact trivial | exact rfl | assumption | omega | (refine ⟨?_, ?_⟩ <;> omega) | (simp only [Room, List.length_set, List.length_append, List.length_cons, List.length_nil, List.length_replicate]; omega) | skip)
      | (refine WLA.x0 rfl ?_ (fun x => ?_); first | exact trivial | exact rfl | assumption | omega | (refine ⟨?_, ?_⟩ <;> omega) | (simp only [Room, List.length_set, List.length_append, List.length_cons, List.length_nil, List.length_replicate]; omega) | skip)
      | (guard_target =~ WPA _ _ _ (.cond _ _ _) _ _ _; first | (refine WPA.ifT ?_) | (refine WPA.ifF ?_) | (refine WPA.ifYes ?_ ?_; (first | assumption | omega | (refine fun h => h ?_; assumption) | (simp only [List.length_append, List.length_cons, List.length_nil, List.length_set] <;> omega))) | (refine WPA.ifNo ?_ ?_; (first | assumption | omega | (refine fun h => h ?_; assumption) | (simp only [List.length_append, List.length_cons, List.length_nil, List.length_set] <;> omega))) | (refine WPA.ifBt ?_ ?_; assumption) | (refine WPA.ifBf ?_ ?_; assumption) | (refine WPA.ifBnt ?_ ?_; assumption) | (refine WPA.ifBnf ?_ ?_; assumption) | (refine WPA.ifs ?_ ?_ <;> intro hc) | (refine WPA.ifB ?_ ?_ <;> intro hc))
      | (guard_target =~ WLA _ _ _ _ _ (⟨_, _, _, _, _, some _⟩ :: _) _ _; first | (refine WLA.no rfl rfl ?_) | (refine WLA.yes rfl rfl ?_ ?_; (first | assumption | omega | (refine fun h => h ?_; assumption) | (simp only [List.length_append, List.length_cons, List.length_nil, List.length_set] <;> omega))) | (refine WLA.nay rfl rfl ?_ ?_; (first | assumption | omega | (refine fun h => h ?_; assumption) | (simp only [List.length_append, List.length_cons, List.length_nil, List.length_set] <;> omega))) | (refine WLA.both rfl rfl ?_ ?_ <;> intro hg) | (refine WLA.bothB rfl rfl ?_ ?_ <;> intro hg)))
    exact QQ.end_ rfl () rfl fun w h => h
theorem MergePasses_law (W : World) (n : Int) (h1 : gInt W n) (k : Int) (h2 : gInt W k) : Calls Try.prog 4 #[.int .i64 n, .int .i64 k] W fun e w' => e = .returned (.bool true) ∧ Below W.heap.size W w' := by
  exact Calls.below MergePasses_tr
theorem remL_start {kg : SV → List Int} {tp : SV → List (SV × Int)} : ∀ hs : List SV, remL kg tp (hs.map fun h => (h, 0)) = (hs.flatMap tp).map (moP kg)
  | [] => rfl
  | h :: hs => by
    have e : remL kg tp ((h :: hs).map fun h => (h, 0)) = remC kg tp (h, 0) ++ remL kg tp (hs.map fun h => (h, 0)) := rfl
    rw [e, remL_start hs, List.flatMap_cons, List.map_append]; rfl
theorem fold_fst {kg : SV → List Int} {G : SV → Prop} : ∀ {ps a : List (SV × Int)}, (∀ p ∈ ps, G p.1) → (∀ p ∈ a, G p.1) → ∀ p ∈ ps.foldl (putL kg) a, G p.1
  | [], a, _, ha => ha
  | x :: ps, a, hp, ha => by
    rw [List.foldl_cons]
    exact fold_fst (fun p h => hp p (List.mem_cons_of_mem _ h)) (putL_grg ha (hp x (List.mem_cons_self ..)))
theorem flat_len_le {tp : SV → List (SV × Int)} : ∀ {hs : List SV}, (∀ h ∈ hs, (tp h).length ≤ 20) → (hs.flatMap tp).length ≤ 20 * hs.length
  | [], _ => by simp
  | h :: hs, hh => by
    have h1 := hh h (List.mem_cons_self ..)
    have h2 := flat_len_le (tp := tp) (hs := hs) fun x hx => hh x (List.mem_cons_of_mem _ hx)
    rw [List.flatMap_cons, List.length_append, List.length_cons]; omega
theorem MergeLists_tr {kg : SV → List Int} {tp : SV → List (SV × Int)} {s : SV} {hs : List SV} {w0 : World} {I : Foot} [hr : SlI I s SV inferInstance hs] (hG : ∀ h ∈ hs, RawL I kg tp h) : Tr Try.prog 3 #[.slice s.a s.n s.cap] (SL w0 I []) (fun _ : Unit => .bool true) (fun _ => SL w0 I []) := by
  refine Tr.intro Try.func3 rfl Try.ntmps3 rfl ?_
  by_cases hp : hs.length ≤ 12 ∧ ∀ h ∈ hs, SmallP kg tp h
  · have hp' : ¬ ¬ (hs.length ≤ 12 ∧ ∀ h ∈ hs, SmallP kg tp h) := fun h => h hp
    obtain ⟨p1, p2⟩ := hp
    have hGL : ∀ h ∈ hs, GoodL I kg tp h := fun h hh => ⟨(hG h hh).sl, fun p hp => ⟨(hG h hh).el p hp, by have := (p2 h hh).1.2 p hp; omega⟩, (p2 h hh).2⟩
    have hfl := flat_len_le (tp := tp) fun h hh => (p2 h hh).1.1
    have hall : ∀ p ∈ hs.flatMap tp, SlI I p.1 Int inferInstance (kg p.1) ∧ (kg p.1).length ≤ 1000000 := fun p hp => by
      obtain ⟨h, hh, hp⟩ := List.mem_flatMap.1 hp
      exact (hGL h hh).el p hp
    have hL : ∀ {L : List HP}, Tr Try.prog 18 #[.slice s.a s.n s.cap] (SL w0 I L) (fun x : SV × List (SV × Int) => .slice x.1.a x.1.n x.1.cap)
        (fun x w => x.2.map Prod.snd = (((hs.flatMap tp).foldl (putL kg) []).map (moP kg)).map Prod.snd ∧ SL w0 I (OwnS 89 x.1 x.2 :: RowH 3 (x.2.map Prod.fst) ((((hs.flatMap tp).foldl (putL kg) []).map (moP kg)).map Prod.fst) :: L) w) := by
      intro L
      have := Lists_tr (s := s) (L := L) (w0 := w0) hGL (by rw [remL_start, List.length_map]; omega)
      rw [remL_start] at this
      rw [fold_cell]
      exact this
    have hRL : ∀ {J : Foot} {L : List HP} [SubI J I], Tr Try.prog 19 #[.slice s.a s.n s.cap] (SL w0 J L) (fun r : SV => .slice r.a r.n r.cap) (fun r => SL w0 J (OwnS 89 r ((hs.flatMap tp).foldl (putL kg) []) :: L)) := by
      intro J L hs
      haveI := hr.sub (I' := J)
      exact rLists_tr (fun h hh => ⟨(hGL h hh).sl.sub, fun p hp => ⟨((hGL h hh).el p hp).1.sub, ((hGL h hh).el p hp).2⟩, (hGL h hh).ris⟩) (by omega) (by omega)
    have hfo := fold_fst (kg := kg) (G := fun g => SlI I g Int inferInstance (kg g) ∧ (kg g).length ≤ 1000000) (a := []) hall (by simp)
    have hlen : ∀ (ps a : List (SV × Int)), (ps.foldl (putL kg) a).length ≤ a.length + ps.length := by
      intro ps
      induction ps with
      | nil => intro a; simp
      | cons x ps ih => intro a; rw [List.foldl_cons, List.length_cons]; have := ih (putL kg a x); have := putL_len (f := kg) (x := x) a; omega
    have hlen := hlen (hs.flatMap tp) []
    generalize (hs.flatMap tp).foldl (putL kg) [] = o at hL hRL hfo hlen
    have ho1 : o.map Prod.snd = (o.map (moP kg)).map Prod.snd := by rw [List.map_map]; rfl
    have ho2 : ∀ {J : Foot} {L : List HP} [SubI J I], ∀ i : Nat, i < o.length → RdS J L (at_ o (i : Int)).1 Int inferInstance ((o.map (moP kg)).getD i ([], 0)).1 := by
      intro J L hs i hi
      have hm : at_ o (i : Int) ∈ o := by rw [at_nat o i hi]; exact List.getElem_mem _
      have h1 := (hfo _ hm).1.sub (I' := J)
      have e : ((o.map (moP kg)).getD i ([], 0)).1 = kg (at_ o (i : Int)).1 := by
        rw [List.getD_eq_getElem?_getD, List.getElem?_map, List.getElem?_eq_getElem hi, at_nat o i hi]; rfl
      rw [e]
      exact RdS.imm (h := h1)
    have hl1 : ∀ m ∈ o.map (moP kg), m.1.length ≤ 1000000000 := by
      intro m hm
      obtain ⟨p, hp, rfl⟩ := List.mem_map.1 hm
      have := (hfo p hp).2
      show (kg p.1).length ≤ _
      omega
    have hl2 : (o.map (moP kg)).length ≤ 1000000 := by rw [List.length_map]; simp only [List.length_nil] at hlen; omega
    have heq : o.map (moP kg) = o.map (moP kg) := rfl
    repeat' (first
      | (refine WLA.m rfl rfl ?_ ?_; first | exact trivial | exact rfl | assumption | omega | (refine ⟨?_, ?_⟩ <;> omega) | (simp only [Room, List.length_set, List.length_append, List.length_cons, List.length_nil, List.length_replicate]; omega) | skip)
      | (refine WLA.nil ?_)
      | (refine WPA.region ?_)
      | (refine WPA.seq ?_)
      | (refine QQ.seq_normal ?_)
      | (refine WPA.skip ?_)
      | (refine WPA.block ?_)
      | (refine WPA.ret ?_)
      | (refine WPA.exit ?_)
      | (refine QQ.seq_ret ?_)
      | (refine QQ.seq_exit ?_)
      | (refine QQ.block_normal ?_)
      | (refine QQ.block_ret ?_)
      | (refine QQ.block_hit ?_)
      | (refine QQ.block_miss rfl ?_)
      | (refine QQ.loop_ret ?_)
      | (refine QQ.loop_exit ?_)
      | (guard_target =~ WLA _ _ _ _ _ (⟨_, .call ⟨.value (.func 15), _, _⟩, _, _, _, _⟩ :: _) _ _; refine WLA.cq rfl rfl (small_tr hG) ?_)
      | (guard_target =~ WLA _ _ _ _ _ (⟨_, .call ⟨.value (.func 18), _, _⟩, _, _, _, _⟩ :: _) _ _; first | (refine WLA.call rfl rfl (hL) ?_; rintro ⟨r, cs⟩; refine WLA.pure fun hcs => ?_; dsimp only at hcs ⊢; refine WLA.ent Ent.swap ?_; refine WLA.freeze fun R hR => ?_) | (refine WLA.call0 rfl (hL) ?_; rintro ⟨r, cs⟩; refine WLA.pure fun hcs => ?_; dsimp only at hcs ⊢; refine WLA.ent Ent.swap ?_; refine WLA.freeze fun R hR => ?_))
      | (guard_target =~ WLA _ _ _ _ _ (⟨_, .call ⟨.value (.func 19), _, _⟩, _, _, _, _⟩ :: _) _ _; first | (refine WLA.call rfl rfl (hRL) ?_; rintro r2) | (refine WLA.call0 rfl (hRL) ?_; rintro r2))
      | (guard_target =~ WLA _ _ _ _ _ (⟨_, .call ⟨.value (.func 17), _, _⟩, _, _, _, _⟩ :: _) _ _; refine WLA.cq rfl rfl (Same_tr hcs ho1 (row_at hR hcs) ho2 hl1 hl2) ?_)
      | (guard_target =~ WLA _ _ _ _ _ (⟨_, .call ⟨.value (.func 16), _, _⟩, _, _, _, _⟩ :: _) _ _; first | (refine WLA.call rfl rfl (live_tr21 _ _ _) ?_; rintro ⟨⟩) | (refine WLA.call0 rfl (live_tr21 _ _ _) ?_; rintro ⟨⟩))
      | (refine WLA.st rfl ?_ ?_; first | exact trivial | exact rfl | assumption | omega | (refine ⟨?_, ?_⟩ <;> omega) | (simp only [Room, List.length_set, List.length_append, List.length_cons, List.length_nil, List.length_replicate]; omega) | skip)
      | (refine WLA.x rfl rfl ?_ (fun x => ?_); first | exact trivial | exact rfl | assumption | omega | (refine ⟨?_, ?_⟩ <;> omega) | (simp only [Room, List.length_set, List.length_append, List.length_cons, List.length_nil, List.length_replicate]; omega) | skip)
      | (refine WLA.x0 rfl ?_ (fun x => ?_); first | exact trivial | exact rfl | assumption | omega | (refine ⟨?_, ?_⟩ <;> omega) | (simp only [Room, List.length_set, List.length_append, List.length_cons, List.length_nil, List.length_replicate]; omega) | skip)
      | (guard_target =~ WPA _ _ _ (.cond _ _ _) _ _ _; first | (refine WPA.ifT ?_) | (refine WPA.ifF ?_) | (refine WPA.ifYes ?_ ?_; (first | assumption | omega | (refine fun h => h ?_; assumption) | (simp only [List.length_append, List.length_cons, List.length_nil, List.length_set] <;> omega))) | (refine WPA.ifNo ?_ ?_; (first | assumption | omega | (refine fun h => h ?_; assumption) | (simp only [List.length_append, List.length_cons, List.length_nil, List.length_set] <;> omega))) | (refine WPA.ifBt ?_ ?_; assumption) | (refine WPA.ifBf ?_ ?_; assumption) | (refine WPA.ifBnt ?_ ?_; assumption) | (refine WPA.ifBnf ?_ ?_; assumption) | (refine WPA.ifs ?_ ?_ <;> intro hc) | (refine WPA.ifB ?_ ?_ <;> intro hc))
      | (guard_target =~ WLA _ _ _ _ _ (⟨_, _, _, _, _, some _⟩ :: _) _ _; first | (refine WLA.no rfl rfl ?_) | (refine WLA.yes rfl rfl ?_ ?_; (first | assumption | omega | (refine fun h => h ?_; assumption) | (simp only [List.length_append, List.length_cons, List.length_nil, List.length_set] <;> omega))) | (refine WLA.nay rfl rfl ?_ ?_; (first | assumption | omega | (refine fun h => h ?_; assumption) | (simp only [List.length_append, List.length_cons, List.length_nil, List.length_set] <;> omega))) | (refine WLA.both rfl rfl ?_ ?_ <;> intro hg) | (refine WLA.bothB rfl rfl ?_ ?_ <;> intro hg)))
    exact QQ.end_ rfl () rfl fun w h => h.unI.to
  · skip
    repeat' ((fail_if_success (guard_target =~ WPA _ _ _ (.region 3 _ _) _ _ _)); first
      | (refine WLA.m rfl rfl ?_ ?_; first | exact trivial | exact rfl | assumption | omega | (refine ⟨?_, ?_⟩ <;> omega) | (simp only [Room, List.length_set, List.length_append, List.length_cons, List.length_nil, List.length_replicate]; omega) | skip)
      | (refine WLA.nil ?_)
      | (refine WPA.region ?_)
      | (refine WPA.seq ?_)
      | (refine QQ.seq_normal ?_)
      | (refine WPA.skip ?_)
      | (refine WPA.block ?_)
      | (refine WPA.ret ?_)
      | (refine WPA.exit ?_)
      | (refine QQ.seq_ret ?_)
      | (refine QQ.seq_exit ?_)
      | (refine QQ.block_normal ?_)
      | (refine QQ.block_ret ?_)
      | (refine QQ.block_hit ?_)
      | (refine QQ.block_miss rfl ?_)
      | (refine QQ.loop_ret ?_)
      | (refine QQ.loop_exit ?_)
      | (guard_target =~ WLA _ _ _ _ _ (⟨_, .call ⟨.value (.func 15), _, _⟩, _, _, _, _⟩ :: _) _ _; refine WLA.cq rfl rfl (small_tr hG) ?_)
      | (guard_target =~ WLA _ _ _ _ _ (⟨_, .call ⟨.value (.func 16), _, _⟩, _, _, _, _⟩ :: _) _ _; first | (refine WLA.call rfl rfl (live_tr21 _ _ _) ?_; rintro ⟨⟩) | (refine WLA.call0 rfl (live_tr21 _ _ _) ?_; rintro ⟨⟩))
      | (refine WLA.st rfl ?_ ?_; first | exact trivial | exact rfl | assumption | omega | (refine ⟨?_, ?_⟩ <;> omega) | (simp only [Room, List.length_set, List.length_append, List.length_cons, List.length_nil, List.length_replicate]; omega) | skip)
      | (refine WLA.x rfl rfl ?_ (fun x => ?_); first | exact trivial | exact rfl | assumption | omega | (refine ⟨?_, ?_⟩ <;> omega) | (simp only [Room, List.length_set, List.length_append, List.length_cons, List.length_nil, List.length_replicate]; omega) | skip)
      | (refine WLA.x0 rfl ?_ (fun x => ?_); first | exact trivial | exact rfl | assumption | omega | (refine ⟨?_, ?_⟩ <;> omega) | (simp only [Room, List.length_set, List.length_append, List.length_cons, List.length_nil, List.length_replicate]; omega) | skip)
      | (guard_target =~ WPA _ _ _ (.cond _ _ _) _ _ _; first | (refine WPA.ifT ?_) | (refine WPA.ifF ?_) | (refine WPA.ifYes ?_ ?_; (first | assumption | omega | (refine fun h => h ?_; assumption) | (simp only [List.length_append, List.length_cons, List.length_nil, List.length_set] <;> omega))) | (refine WPA.ifNo ?_ ?_; (first | assumption | omega | (refine fun h => h ?_; assumption) | (simp only [List.length_append, List.length_cons, List.length_nil, List.length_set] <;> omega))) | (refine WPA.ifBt ?_ ?_; assumption) | (refine WPA.ifBf ?_ ?_; assumption) | (refine WPA.ifBnt ?_ ?_; assumption) | (refine WPA.ifBnf ?_ ?_; assumption) | (refine WPA.ifs ?_ ?_ <;> intro hc) | (refine WPA.ifB ?_ ?_ <;> intro hc))
      | (guard_target =~ WLA _ _ _ _ _ (⟨_, _, _, _, _, some _⟩ :: _) _ _; first | (refine WLA.no rfl rfl ?_) | (refine WLA.yes rfl rfl ?_ ?_; (first | assumption | omega | (refine fun h => h ?_; assumption) | (simp only [List.length_append, List.length_cons, List.length_nil, List.length_set] <;> omega))) | (refine WLA.nay rfl rfl ?_ ?_; (first | assumption | omega | (refine fun h => h ?_; assumption) | (simp only [List.length_append, List.length_cons, List.length_nil, List.length_set] <;> omega))) | (refine WLA.both rfl rfl ?_ ?_ <;> intro hg) | (refine WLA.bothB rfl rfl ?_ ?_ <;> intro hg)))
    exact QQ.end_ rfl () rfl fun w h => h.to
theorem MergeLists_law (W : World) (s : SV) (h : gSl (gSl (gPair (gSl gInt 8) gInt) 32) 24 W s) : Calls Try.prog 3 #[.slice s.a s.n s.cap] W fun e w' => e = .returned (.bool true) ∧ Below W.heap.size W w' := by
  obtain ⟨hs, h1, h2, h3⟩ := h
  haveI := SlI.all h1
  refine Calls.below (MergeLists_tr (kg := rd Int (allB W)) (tp := rd (SV × Int) (allB W)) fun g hg => ?_)
  obtain ⟨ps, k1, k2, k3⟩ := h2 g hg
  have j1 := SlI.all k1
  have e : rd (SV × Int) (allB W) g = ps := j1.rd.det j1 (SL.all W)
  refine ⟨j1.rd, fun p hp => ?_⟩
  rw [e] at hp
  obtain ⟨xs, m1, m2, m3⟩ := (k2 p hp).1
  exact (SlI.all m1).rd
end Go.Proofs.Ytfhelnalegochaa
