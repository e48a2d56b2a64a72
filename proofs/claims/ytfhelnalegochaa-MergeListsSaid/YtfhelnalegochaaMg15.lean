/- The chapter's example. Conditions: none. -/
import Derived.Test.YtfhelnalegochaaMg14
import Derived.Test.YtfhelnalegochaaMg1
namespace Go.Proofs.Ytfhelnalegochaa
open Go Go.Fw Go.RowKit
set_option linter.unusedVariables false
set_option linter.unusedSimpArgs false
set_option maxRecDepth 100000
set_option maxHeartbeats 16000000
set_option synthInstance.maxHeartbeats 200000
set_option synthInstance.maxSize 100000
attribute [local irreducible] WPA WLA WDA WDQ WDE QQ seqQ blockQ loopQ fnQ OpP OpT Tr TrP SL SLd OwnS LitS Bk BkE Ob
attribute [local irreducible] RowH

theorem live_tr21 (w0 : World) (I : Foot) (L : List HP) : Tr Try.prog 16 #[] (SL w0 I L) (fun _ : Unit => .bool true) (fun _ => SL w0 I L) := by
  refine Tr.intro Try.func16 rfl Try.ntmps16 rfl ?_
  repeat' ((fail_if_success (guard_target =~ WPA _ _ _ (.region 3 _ _) _ _ _)); first
    | (guard_target =~ WLA _ _ _ _ _ (⟨_, .build _ _, _, _, _, _⟩ :: _) _ _; refine WLA.freeze fun R hR => ?_; have hs := SlI.ofLit hR; clear hR; refine WLA.m rfl rfl trivial ?_)
    | (refine WLA.m rfl rfl ?_ ?_; first | exact trivial | exact rfl | assumption | omega | (refine ⟨?_, ?_⟩ <;> omega) | (simp only [Room, List.length_set, List.length_append, List.length_cons, List.length_nil, List.length_replicate]; omega) | skip)
    | (refine WLA.nil ?_)
    | (refine WPA.region ?_)
    | (refine WPA.seq ?_)
    | (refine QQ.seq_normal ?_)
    | (refine WPA.skip ?_)
    | (refine WPA.block ?_)
    | (refine WPA.ret ?_)
    | (refine WPA.exit ?_)
    | (refine QQ.seq_ret ?_)
    | (refine QQ.seq_exit ?_)
    | (refine QQ.block_normal ?_)
    | (refine QQ.block_ret ?_)
    | (refine QQ.block_hit ?_)
    | (refine QQ.block_miss rfl ?_)
    | (refine QQ.loop_ret ?_)
    | (refine QQ.loop_exit ?_)
    | (refine WLA.st rfl ?_ ?_; first | exact trivial | exact rfl | assumption | omega | (refine ⟨?_, ?_⟩ <;> omega) | (simp only [Room, List.length_set, List.length_append, List.length_cons, List.length_nil, List.length_replicate]; omega) | skip)
    | (refine WLA.x rfl rfl ?_ (fun x => ?_); first | exact trivial | exact rfl | assumption | omega | (refine ⟨?_, ?_⟩ <;> omega) | (simp only [Room, List.length_set, List.length_append, List.length_cons, List.length_nil, List.length_replicate]; omega) | skip)
    | (refine WLA.x0 rfl ?_ (fun x => ?_); first | exact trivial | exact rfl | assumption | omega | (refine ⟨?_, ?_⟩ <;> omega) | (simp only [Room, List.length_set, List.length_append, List.length_cons, List.length_nil, List.length_replicate]; omega) | skip)
    | (guard_target =~ WPA _ _ _ (.cond _ _ _) _ _ _; first | (refine WPA.ifT ?_) | (refine WPA.ifF ?_) | (refine WPA.ifYes ?_ ?_; (first | assumption | omega | (refine fun h => h ?_; assumption) | (simp only [List.length_append, List.length_cons, List.length_nil, List.length_set] <;> omega))) | (refine WPA.ifNo ?_ ?_; (first | assumption | omega | (refine fun h => h ?_; assumption) | (simp only [List.length_append, List.length_cons, List.length_nil, List.length_set] <;> omega))) | (refine WPA.ifBt ?_ ?_; assumption) | (refine WPA.ifBf ?_ ?_; assumption) | (refine WPA.ifBnt ?_ ?_; assumption) | (refine WPA.ifBnf ?_ ?_; assumption) | (refine WPA.ifs ?_ ?_ <;> intro hc) | (refine WPA.ifB ?_ ?_ <;> intro hc)))
  rename_i g1 R1 k1 g3 R2 k3 sa g5 R3 k5 g2
  refine WPA.freeze fun RB hB => ?_
  have gB := SlI.ofLit hB
  refine WPA.freeze fun RA hA => ?_
  have gA := SlI.ofLit hA
  have hsub : SubI (RA ++ (RB ++ (R ++ (R3 ++ (R2 ++ (R1 ++ I)))))) I := inferInstance
  have j1 : SlI (RA ++ (RB ++ (R ++ (R3 ++ (R2 ++ (R1 ++ I)))))) g1 Int inferInstance [1] := inferInstance
  have j3 : SlI (RA ++ (RB ++ (R ++ (R3 ++ (R2 ++ (R1 ++ I)))))) g3 Int inferInstance [3] := inferInstance
  have j5 : SlI (RA ++ (RB ++ (R ++ (R3 ++ (R2 ++ (R1 ++ I)))))) g5 Int inferInstance [1] := inferInstance
  have j2 : SlI (RA ++ (RB ++ (R ++ (R3 ++ (R2 ++ (R1 ++ I)))))) g2 Int inferInstance [2] := inferInstance
  have ja : SlI (RA ++ (RB ++ (R ++ (R3 ++ (R2 ++ (R1 ++ I)))))) sa (SV × Int) inferInstance [(g1, 2), (g3, 1)] := inferInstance
  have jb : SlI (RA ++ (RB ++ (R ++ (R3 ++ (R2 ++ (R1 ++ I)))))) x (SV × Int) inferInstance [(g5, 5), (g2, 1)] := inferInstance
  generalize RA ++ (RB ++ (R ++ (R3 ++ (R2 ++ (R1 ++ I))))) = J at hsub j1 j3 j5 j2 ja jb
  refine WPA.rd j1 fun e1 => WPA.rd j3 fun e3 => WPA.rd j5 fun e5 => WPA.rd j2 fun e2 => WPA.rd ja fun ea => WPA.rd jb fun eb => ?_
  have hG : ∀ h ∈ [sa, x], GoodL J (rd Int J) (rd (SV × Int) J) h := by
    intro h hm
    simp only [List.mem_cons, List.not_mem_nil, or_false] at hm
    rcases hm with rfl | rfl
    · refine goodL_rd ja ea (fun p hp => ?_) ?_
      · simp only [List.mem_cons, List.not_mem_nil, or_false] at hp
        rcases hp with rfl | rfl
        · dsimp only; rw [e1]; exact ⟨j1, by decide⟩
        · dsimp only; rw [e3]; exact ⟨j3, by decide⟩
      · unfold Ris; simp only [List.pairwise_cons, List.mem_cons, List.not_mem_nil, or_false, forall_eq, e1, e3]; simp [ltL, cmpL]
    · refine goodL_rd jb eb (fun p hp => ?_) ?_
      · simp only [List.mem_cons, List.not_mem_nil, or_false] at hp
        rcases hp with rfl | rfl
        · dsimp only; rw [e5]; exact ⟨j5, by decide⟩
        · dsimp only; rw [e2]; exact ⟨j2, by decide⟩
      · unfold Ris; simp only [List.pairwise_cons, List.mem_cons, List.not_mem_nil, or_false, forall_eq, e5, e2]; simp [ltL, cmpL]
  have hrem : remL (rd Int J) (rd (SV × Int) J) ([sa, x].map fun h => (h, 0)) = [([1], 2), ([3], 1), ([1], 5), ([2], 1)] := by simp [remL, remC, moP, ea, eb, e1, e3, e5, e2]
  have hL : ∀ {s : SV} {L : List HP} [RdS J L s SV inferInstance [sa, x]], Tr Try.prog 18 #[.slice s.a s.n s.cap] (SL w0 J L) (fun x : SV × List (SV × Int) => .slice x.1.a x.1.n x.1.cap)
      (fun x w => x.2.map Prod.snd = ([([1], 7), ([2], 1), ([3], 1)] : List Ct).map Prod.snd ∧ SL w0 J (OwnS 89 x.1 x.2 :: RowH 3 (x.2.map Prod.fst) (([([1], 7), ([2], 1), ([3], 1)] : List Ct).map Prod.fst) :: L) w) := by
    intro s L _
    have := Lists_tr (s := s) (L := L) (w0 := w0) hG (by rw [hrem]; simp)
    rw [hrem, show ([([1], 2), ([3], 1), ([1], 5), ([2], 1)] : List Ct).foldl putM [] = [([1], 7), ([2], 1), ([3], 1)] from by decide +kernel] at this
    exact this
  have p1 : passes 2 5 = 3 := by rw [passes, dif_pos (by decide), show cd 5 2 = 3 from by decide, passes, dif_pos (by decide), show cd 3 2 = 2 from by decide, passes, dif_pos (by decide), show cd 2 2 = 1 from by decide, passes, dif_neg (by decide)]; rfl
  have p2 : passes 3 9 = 2 := by rw [passes, dif_pos (by decide), show cd 9 3 = 3 from by decide, passes, dif_pos (by decide), show cd 3 3 = 1 from by decide, passes, dif_neg (by decide)]; rfl
  have q1 : passes 2 5 = 3 := p1
  repeat' (first
    | (refine WLA.m rfl rfl ?_ ?_; first | exact trivial | exact rfl | assumption | omega | (refine ⟨?_, ?_⟩ <;> omega) | (simp only [Room, List.length_set, List.length_append, List.length_cons, List.length_nil, List.length_replicate]; omega) | skip)
    | (refine WLA.nil ?_)
    | (refine WPA.region ?_)
    | (refine WPA.seq ?_)
    | (refine QQ.seq_normal ?_)
    | (refine WPA.skip ?_)
    | (refine WPA.block ?_)
    | (refine WPA.ret ?_)
    | (refine WPA.exit ?_)
    | (refine QQ.seq_ret ?_)
    | (refine QQ.seq_exit ?_)
    | (refine QQ.block_normal ?_)
    | (refine QQ.block_ret ?_)
    | (refine QQ.block_hit ?_)
    | (refine QQ.block_miss rfl ?_)
    | (refine QQ.loop_ret ?_)
    | (refine QQ.loop_exit ?_)
    | (guard_target =~ WLA _ _ _ _ _ (⟨_, .call ⟨.value (.func 18), _, _⟩, _, _, _, _⟩ :: _) _ _; first | (refine WLA.call rfl rfl (hL) ?_; rintro ⟨r, cs⟩; refine WLA.pure fun hcs => ?_; dsimp only at hcs ⊢; refine WLA.ent Ent.swap ?_; refine WLA.freeze fun R hR => ?_) | (refine WLA.call0 rfl (hL) ?_; rintro ⟨r, cs⟩; refine WLA.pure fun hcs => ?_; dsimp only at hcs ⊢; refine WLA.ent Ent.swap ?_; refine WLA.freeze fun R hR => ?_))
    | (guard_target =~ WLA _ _ _ _ _ (⟨_, .call ⟨.value (.func 20), _, _⟩, _, _, _, _⟩ :: _) _ _; refine WLA.cq rfl rfl (Passes_tr (by decide)) ?_)
    | (guard_target =~ WLA _ _ _ _ _ (⟨_, .call ⟨.value (.func 17), _, _⟩, _, _, _, _⟩ :: _) _ _; refine WLA.cq rfl rfl (Same_trC hcs (row_at hR hcs) (by decide) (by decide)) ?_)
    | (refine WLA.st rfl ?_ ?_; first | exact trivial | exact rfl | assumption | omega | (refine ⟨?_, ?_⟩ <;> omega) | (simp only [Room, List.length_set, List.length_append, List.length_cons, List.length_nil, List.length_replicate]; omega) | skip)
    | (refine WLA.x rfl rfl ?_ (fun x => ?_); first | exact trivial | exact rfl | assumption | omega | (refine ⟨?_, ?_⟩ <;> omega) | (simp only [Room, List.length_set, List.length_append, List.length_cons, List.length_nil, List.length_replicate]; omega) | skip)
    | (refine WLA.x0 rfl ?_ (fun x => ?_); first | exact trivial | exact rfl | assumption | omega | (refine ⟨?_, ?_⟩ <;> omega) | (simp only [Room, List.length_set, List.length_append, List.length_cons, List.length_nil, List.length_replicate]; omega) | skip)
    | (guard_target =~ WPA _ _ _ (.cond _ _ _) _ _ _; first | (refine WPA.ifT ?_) | (refine WPA.ifF ?_) | (refine WPA.ifYes ?_ ?_; (first | assumption | omega | (refine fun h => h ?_; assumption) | (simp only [List.length_append, List.length_cons, List.length_nil, List.length_set] <;> omega))) | (refine WPA.ifNo ?_ ?_; (first | assumption | omega | (refine fun h => h ?_; assumption) | (simp only [List.length_append, List.length_cons, List.length_nil, List.length_set] <;> omega))) | (refine WPA.ifBt ?_ ?_; assumption) | (refine WPA.ifBf ?_ ?_; assumption) | (refine WPA.ifBnt ?_ ?_; assumption) | (refine WPA.ifBnf ?_ ?_; assumption) | (refine WPA.ifs ?_ ?_ <;> intro hc) | (refine WPA.ifB ?_ ?_ <;> intro hc))
    | (guard_target =~ WLA _ _ _ _ _ (⟨_, _, _, _, _, some _⟩ :: _) _ _; first | (refine WLA.no rfl rfl ?_) | (refine WLA.yes rfl rfl ?_ ?_; (first | assumption | omega | (refine fun h => h ?_; assumption) | (simp only [List.length_append, List.length_cons, List.length_nil, List.length_set] <;> omega))) | (refine WLA.nay rfl rfl ?_ ?_; (first | assumption | omega | (refine fun h => h ?_; assumption) | (simp only [List.length_append, List.length_cons, List.length_nil, List.length_set] <;> omega))) | (refine WLA.both rfl rfl ?_ ?_ <;> intro hg) | (refine WLA.bothB rfl rfl ?_ ?_ <;> intro hg)))
  exact QQ.end_ rfl () (congrArg Value.bool (by decide)) fun w h => (h.unI.sub hsub.out).to
end Go.Proofs.Ytfhelnalegochaa
