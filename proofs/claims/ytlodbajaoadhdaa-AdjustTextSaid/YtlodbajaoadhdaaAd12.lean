/- AdjustText: the walk. Conditions: none. -/
import Derived.Test.YtlodbajaoadhdaaAd9
import Derived.Test.YtlodbajaoadhdaaAd11
import Derived.Test.YtlodbajaoadhdaaTx2
namespace Go.Proofs.Ytlodbajaoadhdaa
open Go Go.Fw Go.RowKit
set_option linter.unusedVariables false
set_option linter.unusedSimpArgs false
set_option maxRecDepth 100000
set_option maxHeartbeats 16000000
set_option synthInstance.maxHeartbeats 200000
set_option synthInstance.maxSize 100000
attribute [local irreducible] WPA WLA WDA WDQ WDE QQ seqQ blockQ loopQ fnQ OpP OpT Tr TrP SL SLd OwnS LitS Bk BkE Ob
attribute [local irreducible] RowH
theorem pad_sent {texts row : List ByteArray} (h : 3 ≤ texts.length) : Sent1 texts.length (padL texts row) := by
  refine ⟨⟨idsL texts row ++ [2], rfl⟩, fun x hx => ?_⟩
  unfold padL at hx
  simp only [List.mem_append, List.mem_singleton] at hx
  rcases hx with (hx | hx) | hx
  · omega
  · unfold idsL at hx
    obtain ⟨w, hw, rfl⟩ := List.mem_map.1 hx
    have := findT_range texts w
    omega
  · omega
theorem learn_three (s : ByteArray) : 3 ≤ (learnL s).length := by
  rw [learn_rows]
  exact rows_len (allL s) mk3
theorem AdjustText_tr {w0 : World} {I : Foot} {s : ByteArray} {bits : Int} (hbit : 0 ≤ bits ∧ bits ≤ 255) :
    Tr Try.prog 14 #[.string s, .int .u8 bits] (SL w0 I []) (fun _ : Unit => .bool true) (fun _ => SL w0 I []) := by
  refine Tr.intro Try.func14 rfl Try.ntmps14 rfl ?_
  by_cases c1 : (200 : Int) < s.size
  · skip
    repeat' ((fail_if_success (guard_target =~ WPA _ _ _ (.region 3 _ _) _ _ _)); first | ((first | refine WLA.m rfl rfl ?_ ?_ | refine WLA.st rfl ?_ ?_ | refine WLA.x rfl rfl ?_ (fun x => ?_) | refine WLA.x0 rfl ?_ (fun x => ?_)); first | exact trivial | exact rfl | assumption | omega | (refine ⟨?_, ?_⟩ <;> omega) | (simp only [Room, List.length_set, List.length_append, List.length_cons, List.length_nil, List.length_replicate]; omega) | decide | skip) | (refine Stp.go ?_) | (guard_target =~ WLA _ _ _ _ _ (⟨_, .call ⟨.value (.func 61), _, _⟩, _, _, _, _⟩ :: _) _ _; first | (refine WLA.call rfl rfl (live_tr23 _ _ _) ?_; rintro ⟨⟩) | (refine WLA.call0 rfl (live_tr23 _ _ _) ?_; rintro ⟨⟩)) | (refine WPA.ifT ?_) | (refine WPA.ifF ?_) | ((first | refine WPA.dec ?_); first | refine .inl ⟨by first | assumption | omega | with_reducible rfl | (refine fun h => h ?_; first | assumption | with_reducible rfl) | (simp only [List.length_append, List.length_cons, List.length_nil, List.length_set] <;> omega) | decide, ?_⟩ | refine .inr ⟨by first | assumption | omega | with_reducible rfl | (refine fun h => h ?_; first | assumption | with_reducible rfl) | (simp only [List.length_append, List.length_cons, List.length_nil, List.length_set] <;> omega) | decide, ?_⟩) | ((first | refine WPA.ifBt ?_ ?_ | refine WPA.ifBnf ?_ ?_); assumption) | ((first | refine WPA.ifBnt ?_ ?_ | refine WPA.ifBf ?_ ?_); assumption) | ((first | refine WPA.ifs ?_ ?_ | refine WPA.ifB ?_ ?_) <;> intro hc))
    exact QQ.end_ rfl () rfl fun w h => h.to
  obtain ⟨M, hM⟩ : ∃ M : Nat, 1 + bits % 4 = (M : Int) := ⟨(1 + bits % 4).toNat, by omega⟩
  have hMb : 1 ≤ M ∧ M ≤ 4 := by omega
  have hs : s.size ≤ 200 := by omega
  have hlm := learn_max s
  have hl3 := learn_three s
  have hal := allL_len s
  have hrow : ∀ p ∈ (allL s).map (padL (learnL s)), p.length ≤ 203 := fun p hp => by
    obtain ⟨r, hr, rfl⟩ := List.mem_map.1 hp
    have := (all_right (s := s) r hr).2.1
    have e : (padL (learnL s) r).length = r.length + 2 := by unfold padL idsL; simp
    omega
  have hgn : ((allL s).map (padL (learnL s))).length ≤ 201 := by rw [List.length_map]; omega
  have hS : ∀ p ∈ (allL s).map (padL (learnL s)), Sent1 (learnL s).length p := fun p hp => by
    obtain ⟨r, hr, rfl⟩ := List.mem_map.1 hp
    exact pad_sent hl3
  have hrl : (allL s).length = ((allL s).map (padL (learnL s))).length := by rw [List.length_map]
  have hR : ∀ {L : List HP} {v : SV} [RdS I L v ByteArray inferInstance (learnL s)], Tr Try.prog 23 #[.slice v.a v.n v.cap, .string s] (SL w0 I L) (fun x : { y : SV × List SV // y.2.length = (allL s).length } => .slice x.1.1.a x.1.1.n x.1.1.cap) (fun x => SL w0 I (OwnS 30 x.1.1 x.1.2 :: RowH 3 x.1.2 ((allL s).map (padL (learnL s))) :: L)) := fun {L v} _ => rAll_trW (by omega) (by omega)
  have hLe : ∀ {L : List HP}, Tr Try.prog 69 #[.string s] (SL w0 I L) (fun r : SV => .slice r.a r.n r.cap) (fun r => SL w0 I (OwnS 9 r (learnL s) :: L)) := fun {L} => rLearn_tr (by omega) (by omega)
  rw [hrl] at hR
  generalize (allL s).map (padL (learnL s)) = gs at hrow hgn hS hR
  generalize learnL s = words at hlm hl3 hS hR hLe
  have hE : ∀ n : Int, (eachL gs n).length ≤ 100000 := fun n => by
    have := eachL_le (n := n) hrow
    have h2 : gs.length * 203 ≤ 201 * 203 := Nat.mul_le_mul_right _ hgn
    omega
  have hg1000 : ∀ g ∈ gs, g.length ≤ 1000 := fun g hg => by have := hrow g hg; omega
  have hO : ∀ n, n < (ordA gs M).length → OkP n ((ordA gs M).getD n []) := fun n hn => by
    rw [ordA_len] at hn
    rw [ordA_at hn]
    exact ord_ok (hE _)
  have hTn : ∀ n : Int, (ordN gs n).length ≤ 100000 := fun n => by
    have := endsT_len ((eachL gs n).map fun g => 0 :: g)
    rw [← ord_ends, List.length_map] at this
    have := hE n; omega
  have hAl : 0 < (ordA gs M).length ∧ (ordA gs M).length ≤ 8 := by rw [ordA_len]; omega
  have hAb : ∀ l ∈ ordA gs M, l.length ≤ 100000 := fun l hl => by
    unfold ordA at hl
    obtain ⟨j, hj, rfl⟩ := List.mem_map.1 hl
    exact hTn _
  repeat' ((fail_if_success (guard_target =~ WPA _ _ _ (.region 4 _ _) _ _ _)); first | ((first | refine WLA.m rfl rfl ?_ ?_ | refine WLA.st rfl ?_ ?_ | refine WLA.x rfl rfl ?_ (fun x => ?_) | refine WLA.x0 rfl ?_ (fun x => ?_)); first | exact trivial | exact rfl | assumption | omega | (refine ⟨?_, ?_⟩ <;> omega) | (simp only [Room, List.length_set, List.length_append, List.length_cons, List.length_nil, List.length_replicate]; omega) | decide | skip) | (refine Stp.go ?_) | (guard_target =~ WLA _ _ _ _ _ (⟨_, .call ⟨.value (.func 69), _, _⟩, _, _, _, _⟩ :: _) _ _; first | (refine WLA.call rfl rfl (hLe) ?_; rintro w) | (refine WLA.call0 rfl (hLe) ?_; rintro w)) | (refine WPA.ifT ?_) | (refine WPA.ifF ?_) | ((first | refine WPA.dec ?_); first | refine .inl ⟨by first | assumption | omega | with_reducible rfl | (refine fun h => h ?_; first | assumption | with_reducible rfl) | (simp only [List.length_append, List.length_cons, List.length_nil, List.length_set] <;> omega) | decide, ?_⟩ | refine .inr ⟨by first | assumption | omega | with_reducible rfl | (refine fun h => h ?_; first | assumption | with_reducible rfl) | (simp only [List.length_append, List.length_cons, List.length_nil, List.length_set] <;> omega) | decide, ?_⟩) | ((first | refine WPA.ifBt ?_ ?_ | refine WPA.ifBnf ?_ ?_); assumption) | ((first | refine WPA.ifBnt ?_ ?_ | refine WPA.ifBf ?_ ?_); assumption) | ((first | refine WPA.ifs ?_ ?_ | refine WPA.ifB ?_ ?_) <;> intro hc))
  repeat' ((fail_if_success (guard_target =~ WPA _ _ _ (.region 5 _ _) _ _ _)); first | ((first | refine WLA.m rfl rfl ?_ ?_ | refine WLA.st rfl ?_ ?_ | refine WLA.x rfl rfl ?_ (fun x => ?_) | refine WLA.x0 rfl ?_ (fun x => ?_)); first | exact trivial | exact rfl | assumption | omega | (refine ⟨?_, ?_⟩ <;> omega) | (simp only [Room, List.length_set, List.length_append, List.length_cons, List.length_nil, List.length_replicate]; omega) | decide | skip) | (refine Stp.go ?_) | (guard_target =~ WLA _ _ _ _ _ (⟨_, .call ⟨.value (.func 23), _, _⟩, _, _, _, _⟩ :: _) _ _; first | (refine WLA.call rfl rfl (hR) ?_; rintro ⟨⟨r, ss⟩, hl⟩; dsimp only at hl ⊢; refine WLA.freeze fun R1 h1 => ?_; refine WLA.freeze fun R2 h2 => ?_; have g1 : SlI (R2 ++ (R1 ++ I)) r SV inferInstance ss := (SlI.ofOwn h1).sub; have g2 : GsI (R2 ++ (R1 ++ I)) ss gs := GsI.row h2 hl; have g3 : SubI (R2 ++ (R1 ++ I)) I := inferInstance) | (refine WLA.call0 rfl (hR) ?_; rintro ⟨⟨r, ss⟩, hl⟩; dsimp only at hl ⊢; refine WLA.freeze fun R1 h1 => ?_; refine WLA.freeze fun R2 h2 => ?_; have g1 : SlI (R2 ++ (R1 ++ I)) r SV inferInstance ss := (SlI.ofOwn h1).sub; have g2 : GsI (R2 ++ (R1 ++ I)) ss gs := GsI.row h2 hl; have g3 : SubI (R2 ++ (R1 ++ I)) I := inferInstance)) | (guard_target =~ WLA _ _ _ _ _ (⟨_, .call ⟨.value (.func 70), _, _⟩, _, _, _, _⟩ :: _) _ _; first | (refine WLA.call rfl rfl (Orders_tr (most := M) hM g2 (by omega) hg1000 (fun j _ ↦ hE _) (by omega)) ?_; rintro ⟨l, J⟩; refine WLA.pure fun hx => ?_; dsimp only at hx ⊢) | (refine WLA.call0 rfl (Orders_tr (most := M) hM g2 (by omega) hg1000 (fun j _ ↦ hE _) (by omega)) ?_; rintro ⟨l, J⟩; refine WLA.pure fun hx => ?_; dsimp only at hx ⊢)) | (refine WPA.ifT ?_) | (refine WPA.ifF ?_) | ((first | refine WPA.dec ?_); first | refine .inl ⟨by first | assumption | omega | with_reducible rfl | (refine fun h => h ?_; first | assumption | with_reducible rfl) | (simp only [List.length_append, List.length_cons, List.length_nil, List.length_set] <;> omega) | decide, ?_⟩ | refine .inr ⟨by first | assumption | omega | with_reducible rfl | (refine fun h => h ?_; first | assumption | with_reducible rfl) | (simp only [List.length_append, List.length_cons, List.length_nil, List.length_set] <;> omega) | decide, ?_⟩) | ((first | refine WPA.ifBt ?_ ?_ | refine WPA.ifBnf ?_ ?_); assumption) | ((first | refine WPA.ifBnt ?_ ?_ | refine WPA.ifBf ?_ ?_); assumption) | ((first | refine WPA.ifs ?_ ?_ | refine WPA.ifB ?_ ?_) <;> intro hc))
  obtain ⟨k1, k2⟩ := hx
  have hJI : SubI J I := ⟨fun z hz => k1.out (g3.out hz)⟩
  clear h1 h2 g1 g2 g3 k1
  repeat' ((fail_if_success (guard_target =~ WPA _ _ _ (.region 6 _ _) _ _ _)); first | ((first | refine WLA.m rfl rfl ?_ ?_ | refine WLA.st rfl ?_ ?_ | refine WLA.x rfl rfl ?_ (fun x => ?_) | refine WLA.x0 rfl ?_ (fun x => ?_)); first | exact trivial | exact rfl | assumption | omega | (refine ⟨?_, ?_⟩ <;> omega) | (simp only [Room, List.length_set, List.length_append, List.length_cons, List.length_nil, List.length_replicate]; omega) | decide | skip) | (refine Stp.go ?_) | (guard_target =~ WLA _ _ _ _ _ (⟨_, .call ⟨.value (.func 63), _, _⟩, _, _, _, _⟩ :: _) _ _; first | (refine WLA.call rfl rfl (Counts_trA k2 hAl hO hAb) ?_; rintro ⟨x, K⟩; refine WLA.pure fun hy => ?_; dsimp only at hy ⊢) | (refine WLA.call0 rfl (Counts_trA k2 hAl hO hAb) ?_; rintro ⟨x, K⟩; refine WLA.pure fun hy => ?_; dsimp only at hy ⊢)) | (refine WPA.ifT ?_) | (refine WPA.ifF ?_) | ((first | refine WPA.dec ?_); first | refine .inl ⟨by first | assumption | omega | with_reducible rfl | (refine fun h => h ?_; first | assumption | with_reducible rfl) | (simp only [List.length_append, List.length_cons, List.length_nil, List.length_set] <;> omega) | decide, ?_⟩ | refine .inr ⟨by first | assumption | omega | with_reducible rfl | (refine fun h => h ?_; first | assumption | with_reducible rfl) | (simp only [List.length_append, List.length_cons, List.length_nil, List.length_set] <;> omega) | decide, ?_⟩) | ((first | refine WPA.ifBt ?_ ?_ | refine WPA.ifBnf ?_ ?_); assumption) | ((first | refine WPA.ifBnt ?_ ?_ | refine WPA.ifBf ?_ ?_); assumption) | ((first | refine WPA.ifs ?_ ?_ | refine WPA.ifB ?_ ?_) <;> intro hc))
  obtain ⟨q1, q2⟩ := hy
  have k2 := k2.sub q1
  have hKI : SubI K I := ⟨fun z hz => q1.out (hJI.out hz)⟩
  obtain ⟨us, u1, u2, u3⟩ := k2
  obtain ⟨vs, v1, v2, v3⟩ := q2
  rw [ordA_len] at u2 u3
  have e2 : (adjsP (ordA gs M)).length = M := by unfold adjsP; rw [List.length_map, List.length_range, ordA_len]
  rw [e2] at v2 v3
  have hvu : ¬ (vs.length : Int) ≠ us.length := by omega
  repeat' (first | ((first | refine WLA.m rfl rfl ?_ ?_ | refine WLA.st rfl ?_ ?_ | refine WLA.x rfl rfl ?_ (fun x => ?_) | refine WLA.x0 rfl ?_ (fun x => ?_)); first | exact trivial | exact rfl | assumption | omega | (refine ⟨?_, ?_⟩ <;> omega) | (simp only [Room, List.length_set, List.length_append, List.length_cons, List.length_nil, List.length_replicate]; omega) | decide | skip) | (refine Stp.go ?_) | (refine WPA.ifT ?_) | (refine WPA.ifF ?_) | (refine WLA.no rfl rfl ?_) | ((first | refine WPA.dec ?_ | ((fail_if_success (guard_target =~ WLA _ _ _ _ _ _ (put1 _ _ (.bool true)) _)); (fail_if_success (guard_target =~ WLA _ _ _ _ _ _ (put1 _ _ (.bool false)) _)); refine WLA.dec rfl rfl ?_) | refine WLA.pk ?_); first | refine .inl ⟨by first | assumption | omega | with_reducible rfl | (refine fun h => h ?_; first | assumption | with_reducible rfl) | (simp only [List.length_append, List.length_cons, List.length_nil, List.length_set] <;> omega) | decide, ?_⟩ | refine .inr ⟨by first | assumption | omega | with_reducible rfl | (refine fun h => h ?_; first | assumption | with_reducible rfl) | (simp only [List.length_append, List.length_cons, List.length_nil, List.length_set] <;> omega) | decide, ?_⟩) | ((first | refine WPA.ifBt ?_ ?_ | refine WPA.ifBnf ?_ ?_); assumption) | ((first | refine WPA.ifBnt ?_ ?_ | refine WPA.ifBf ?_ ?_); assumption) | ((first | refine WPA.ifs ?_ ?_ | refine WPA.ifB ?_ ?_) <;> intro hc) | ((fail_if_success (guard_target =~ WLA _ _ _ _ _ _ (put1 _ _ (.bool true)) _)); (fail_if_success (guard_target =~ WLA _ _ _ _ _ _ (put1 _ _ (.bool false)) _)); (first | refine WLA.both rfl rfl ?_ ?_ | refine WLA.bothB rfl rfl ?_ ?_) <;> intro hg))
  refine WPA.loopS (σ := Nat) (fun n => [(5, .slice w.a w.n w.cap), (6, .slice l.a l.n l.cap), (7, .slice x.a x.n x.cap), (9, .int .i64 n)]) (fun n => n ≤ M)
    (fun _ => SL w0 K [OwnS 9 w words]) (fun n => M - n) 0 ⟨rfl, rfl, rfl, rfl, trivial⟩ (Nat.zero_le _) (fun w h => h.to) ?_
  rintro n ρ hn
  by_cases hlt : n < M
  · have hlt' : (n : Int) < us.length := by omega
    have hb2 : (n : Int) < vs.length := by omega
    obtain ⟨ds, d1, d2, d3⟩ := u3 n hlt
    obtain ⟨cs, e1, e2, e3⟩ := v3 n hlt
    have ea : (adjsP (ordA gs M)).getD n [] = (ordN gs ((n : Int) + 1)).map fun c => (c.1, adjV gs M n c) := by
      rw [← adjP_at hlt]
      unfold adjsP
      rw [List.getD_eq_getElem?_getD, List.getElem?_map, ordA_len, List.getElem?_range hlt]; rfl
    rw [ordA_at hlt] at d2 d3
    rw [ea] at e2 e3
    have hgood := fun c (hc : c ∈ ordN gs ((n : Int) + 1)) => adjV_good (most := M) (N := words.length) hS hE hc
    have hlen : ∀ c ∈ ordN gs ((n : Int) + 1), c.1.length = n + 1 := fun c hc => each_len _ (ord_mem (hE _) hc).1
    have hTb := hTn ((n : Int) + 1)
    generalize ordN gs ((n : Int) + 1) = T at d2 d3 e2 e3 hgood hlen hTb
    have dl : ds.length = T.length := by have := congrArg List.length d2; simpa using this
    have cl : cs.length = T.length := by have := congrArg List.length e2; simpa using this
    have hcd : ¬ (cs.length : Int) ≠ ds.length := by omega
    repeat' (first | ((first | refine WLA.m rfl rfl ?_ ?_ | refine WDQ.m rfl rfl ?_ ?_ | refine WLA.st rfl ?_ ?_ | refine WLA.x rfl rfl ?_ (fun x => ?_) | refine WLA.x0 rfl ?_ (fun x => ?_)); first | exact trivial | exact rfl | assumption | omega | (refine ⟨?_, ?_⟩ <;> omega) | (simp only [Room, List.length_set, List.length_append, List.length_cons, List.length_nil, List.length_replicate]; omega) | decide | skip) | (refine Stp.go ?_) | (refine WPA.ifT ?_) | (refine WPA.ifF ?_) | ((first | refine WPA.dec ?_); first | refine .inl ⟨by first | assumption | omega | with_reducible rfl | (refine fun h => h ?_; first | assumption | with_reducible rfl) | (simp only [List.length_append, List.length_cons, List.length_nil, List.length_set] <;> omega) | decide, ?_⟩ | refine .inr ⟨by first | assumption | omega | with_reducible rfl | (refine fun h => h ?_; first | assumption | with_reducible rfl) | (simp only [List.length_append, List.length_cons, List.length_nil, List.length_set] <;> omega) | decide, ?_⟩) | ((first | refine WPA.ifBt ?_ ?_ | refine WPA.ifBnf ?_ ?_); assumption) | ((first | refine WPA.ifBnt ?_ ?_ | refine WPA.ifBf ?_ ?_); assumption) | ((first | refine WPA.ifs ?_ ?_ | refine WPA.ifB ?_ ?_) <;> intro hc) | (guard_target =~ WPA _ _ _ (.region 11 _ true) _ _ _; refine WPA.drawT 10 (.q 0 (.q 1 (.q 2 (.q 3 (.q 4 (.q 5 (.q 6 (.q 7 (.q 8 (.q 9 .fin)))))))))) mixed ?_ ?_; kernel_rfl) | (refine WDA.finish (tl := [⟨_, _, _, _, _, _⟩]) rfl ?_) | (refine WDQ.see rfl ?_))
    refine WPA.loopS (σ := Nat) (fun i => [(5, .slice w.a w.n w.cap), (6, .slice l.a l.n l.cap), (7, .slice x.a x.n x.cap), (9, .int .i64 n), (10, .int .i64 i)]) (fun i => i ≤ cs.length)
      (fun _ => SL w0 K [OwnS 9 w words]) (fun i => cs.length - i) 0 ⟨rfl, rfl, rfl, rfl, rfl, trivial⟩ (Nat.zero_le _) (fun w h => h.to) ?_
    rintro i ρ hi
    by_cases hli : i < cs.length
    · have hli' : (i : Int) < cs.length := by omega
      have hli2 : (i : Int) < ds.length := by omega
      have hiT : i < T.length := by omega
      have p1 := e3 i hli
      have ec : (T.map fun c => (c.1, adjV gs M n c)).getD i ([], 0) = (T[i].1, adjV gs M n T[i]) := by
        rw [List.getD_eq_getElem?_getD, List.getElem?_map, List.getElem?_eq_getElem hiT]; rfl
      rw [ec] at p1
      have s1 : (at_ cs (i : Int)).2 = adjV gs M n T[i] := by
        have := congrArg (fun l => l[i]?) e2
        simp only [List.getElem?_map, List.getElem?_eq_getElem hiT, List.getElem?_eq_getElem hli, Option.map_some] at this
        rw [at_nat cs i hli]; injection this
      have s2 : (at_ ds (i : Int)).2 = T[i].2 := by
        have := congrArg (fun l => l[i]?) d2
        simp only [List.getElem?_map, List.getElem?_eq_getElem hiT, List.getElem?_eq_getElem (show i < ds.length by omega), Option.map_some] at this
        rw [at_nat ds i (by omega)]; injection this
      have hg := hgood _ (List.getElem_mem hiT)
      have hgl := hlen _ (List.getElem_mem hiT)
      rw [← s1, ← s2] at hg
      generalize T[i].1 = g at p1 hg hgl
      obtain ⟨⟨f1, f2⟩, f3⟩ := hg
      have f1' : ¬ (at_ cs (i : Int)).2 < 1 := by omega
      have f2' : ¬ (at_ ds (i : Int)).2 < (at_ cs (i : Int)).2 := by omega
      have f4 : (0 : Int) < g.length := by omega
      by_cases b1 : (n : Int) < (us.length : Int) - 1
      · by_cases b2 : at_ g 0 ≠ 1
        · have f5 := f3 (by omega) b2
          have f5' : ¬ (words.length : Int) < (at_ cs (i : Int)).2 := by omega
          repeat' (first | ((first | refine WLA.m rfl rfl ?_ ?_ | refine WLA.st rfl ?_ ?_ | refine WLA.x rfl rfl ?_ (fun x => ?_) | refine WLA.x0 rfl ?_ (fun x => ?_)); first | exact trivial | exact rfl | assumption | omega | (refine ⟨?_, ?_⟩ <;> omega) | (simp only [Room, List.length_set, List.length_append, List.length_cons, List.length_nil, List.length_replicate]; omega) | decide | skip) | (refine Stp.go ?_) | (refine WPA.ifT ?_) | (refine WPA.ifF ?_) | (refine WLA.no rfl rfl ?_) | ((first | refine WPA.dec ?_ | ((fail_if_success (guard_target =~ WLA _ _ _ _ _ _ (put1 _ _ (.bool true)) _)); (fail_if_success (guard_target =~ WLA _ _ _ _ _ _ (put1 _ _ (.bool false)) _)); refine WLA.dec rfl rfl ?_) | refine WLA.pk ?_); first | refine .inl ⟨by first | assumption | omega | with_reducible rfl | (refine fun h => h ?_; first | assumption | with_reducible rfl) | (simp only [List.length_append, List.length_cons, List.length_nil, List.length_set] <;> omega) | decide, ?_⟩ | refine .inr ⟨by first | assumption | omega | with_reducible rfl | (refine fun h => h ?_; first | assumption | with_reducible rfl) | (simp only [List.length_append, List.length_cons, List.length_nil, List.length_set] <;> omega) | decide, ?_⟩) | ((first | refine WPA.ifBt ?_ ?_ | refine WPA.ifBnf ?_ ?_); assumption) | ((first | refine WPA.ifBnt ?_ ?_ | refine WPA.ifBf ?_ ?_); assumption) | ((first | refine WPA.ifs ?_ ?_ | refine WPA.ifB ?_ ?_) <;> intro hc) | ((fail_if_success (guard_target =~ WLA _ _ _ _ _ _ (put1 _ _ (.bool true)) _)); (fail_if_success (guard_target =~ WLA _ _ _ _ _ _ (put1 _ _ (.bool false)) _)); (first | refine WLA.both rfl rfl ?_ ?_ | refine WLA.bothB rfl rfl ?_ ?_) <;> intro hg))
          exact QQ.loopS (i + 1) ⟨rfl, rfl, rfl, rfl, rfl, trivial⟩ hli (by omega) (fun w h => h.to)
        · skip
          repeat' (first | ((first | refine WLA.m rfl rfl ?_ ?_ | refine WLA.st rfl ?_ ?_ | refine WLA.x rfl rfl ?_ (fun x => ?_) | refine WLA.x0 rfl ?_ (fun x => ?_)); first | exact trivial | exact rfl | assumption | omega | (refine ⟨?_, ?_⟩ <;> omega) | (simp only [Room, List.length_set, List.length_append, List.length_cons, List.length_nil, List.length_replicate]; omega) | decide | skip) | (refine Stp.go ?_) | (refine WPA.ifT ?_) | (refine WPA.ifF ?_) | (refine WLA.no rfl rfl ?_) | ((first | refine WPA.dec ?_ | ((fail_if_success (guard_target =~ WLA _ _ _ _ _ _ (put1 _ _ (.bool true)) _)); (fail_if_success (guard_target =~ WLA _ _ _ _ _ _ (put1 _ _ (.bool false)) _)); refine WLA.dec rfl rfl ?_) | refine WLA.pk ?_); first | refine .inl ⟨by first | assumption | omega | with_reducible rfl | (refine fun h => h ?_; first | assumption | with_reducible rfl) | (simp only [List.length_append, List.length_cons, List.length_nil, List.length_set] <;> omega) | decide, ?_⟩ | refine .inr ⟨by first | assumption | omega | with_reducible rfl | (refine fun h => h ?_; first | assumption | with_reducible rfl) | (simp only [List.length_append, List.length_cons, List.length_nil, List.length_set] <;> omega) | decide, ?_⟩) | ((first | refine WPA.ifBt ?_ ?_ | refine WPA.ifBnf ?_ ?_); assumption) | ((first | refine WPA.ifBnt ?_ ?_ | refine WPA.ifBf ?_ ?_); assumption) | ((first | refine WPA.ifs ?_ ?_ | refine WPA.ifB ?_ ?_) <;> intro hc) | ((fail_if_success (guard_target =~ WLA _ _ _ _ _ _ (put1 _ _ (.bool true)) _)); (fail_if_success (guard_target =~ WLA _ _ _ _ _ _ (put1 _ _ (.bool false)) _)); (first | refine WLA.both rfl rfl ?_ ?_ | refine WLA.bothB rfl rfl ?_ ?_) <;> intro hg))
          exact QQ.loopS (i + 1) ⟨rfl, rfl, rfl, rfl, rfl, trivial⟩ hli (by omega) (fun w h => h.to)
      · skip
        repeat' (first | ((first | refine WLA.m rfl rfl ?_ ?_ | refine WLA.st rfl ?_ ?_ | refine WLA.x rfl rfl ?_ (fun x => ?_) | refine WLA.x0 rfl ?_ (fun x => ?_)); first | exact trivial | exact rfl | assumption | omega | (refine ⟨?_, ?_⟩ <;> omega) | (simp only [Room, List.length_set, List.length_append, List.length_cons, List.length_nil, List.length_replicate]; omega) | decide | skip) | (refine Stp.go ?_) | (refine WPA.ifT ?_) | (refine WPA.ifF ?_) | (refine WLA.no rfl rfl ?_) | ((first | refine WPA.dec ?_ | ((fail_if_success (guard_target =~ WLA _ _ _ _ _ _ (put1 _ _ (.bool true)) _)); (fail_if_success (guard_target =~ WLA _ _ _ _ _ _ (put1 _ _ (.bool false)) _)); refine WLA.dec rfl rfl ?_) | refine WLA.pk ?_); first | refine .inl ⟨by first | assumption | omega | with_reducible rfl | (refine fun h => h ?_; first | assumption | with_reducible rfl) | (simp only [List.length_append, List.length_cons, List.length_nil, List.length_set] <;> omega) | decide, ?_⟩ | refine .inr ⟨by first | assumption | omega | with_reducible rfl | (refine fun h => h ?_; first | assumption | with_reducible rfl) | (simp only [List.length_append, List.length_cons, List.length_nil, List.length_set] <;> omega) | decide, ?_⟩) | ((first | refine WPA.ifBt ?_ ?_ | refine WPA.ifBnf ?_ ?_); assumption) | ((first | refine WPA.ifBnt ?_ ?_ | refine WPA.ifBf ?_ ?_); assumption) | ((first | refine WPA.ifs ?_ ?_ | refine WPA.ifB ?_ ?_) <;> intro hc) | ((fail_if_success (guard_target =~ WLA _ _ _ _ _ _ (put1 _ _ (.bool true)) _)); (fail_if_success (guard_target =~ WLA _ _ _ _ _ _ (put1 _ _ (.bool false)) _)); (first | refine WLA.both rfl rfl ?_ ?_ | refine WLA.bothB rfl rfl ?_ ?_) <;> intro hg))
        exact QQ.loopS (i + 1) ⟨rfl, rfl, rfl, rfl, rfl, trivial⟩ hli (by omega) (fun w h => h.to)
    · have hli' : ¬ (i : Int) < cs.length := by omega
      repeat' (first | ((first | refine WLA.m rfl rfl ?_ ?_ | refine WLA.st rfl ?_ ?_ | refine WLA.x rfl rfl ?_ (fun x => ?_) | refine WLA.x0 rfl ?_ (fun x => ?_)); first | exact trivial | exact rfl | assumption | omega | (refine ⟨?_, ?_⟩ <;> omega) | (simp only [Room, List.length_set, List.length_append, List.length_cons, List.length_nil, List.length_replicate]; omega) | decide | skip) | (refine Stp.go ?_) | (refine WPA.ifT ?_) | (refine WPA.ifF ?_) | ((first | refine WPA.dec ?_); first | refine .inl ⟨by first | assumption | omega | with_reducible rfl | (refine fun h => h ?_; first | assumption | with_reducible rfl) | (simp only [List.length_append, List.length_cons, List.length_nil, List.length_set] <;> omega) | decide, ?_⟩ | refine .inr ⟨by first | assumption | omega | with_reducible rfl | (refine fun h => h ?_; first | assumption | with_reducible rfl) | (simp only [List.length_append, List.length_cons, List.length_nil, List.length_set] <;> omega) | decide, ?_⟩) | ((first | refine WPA.ifBt ?_ ?_ | refine WPA.ifBnf ?_ ?_); assumption) | ((first | refine WPA.ifBnt ?_ ?_ | refine WPA.ifBf ?_ ?_); assumption) | ((first | refine WPA.ifs ?_ ?_ | refine WPA.ifB ?_ ?_) <;> intro hc))
      exact QQ.loopS (n + 1) ⟨rfl, rfl, rfl, rfl, trivial⟩ hlt (by omega) (fun w h => h.to)
  · have hlt' : ¬ (n : Int) < us.length := by omega
    repeat' (first | ((first | refine WLA.m rfl rfl ?_ ?_ | refine WLA.st rfl ?_ ?_ | refine WLA.x rfl rfl ?_ (fun x => ?_) | refine WLA.x0 rfl ?_ (fun x => ?_)); first | exact trivial | exact rfl | assumption | omega | (refine ⟨?_, ?_⟩ <;> omega) | (simp only [Room, List.length_set, List.length_append, List.length_cons, List.length_nil, List.length_replicate]; omega) | decide | skip) | (refine Stp.go ?_) | (guard_target =~ WLA _ _ _ _ _ (⟨_, .call ⟨.value (.func 61), _, _⟩, _, _, _, _⟩ :: _) _ _; first | (refine WLA.call rfl rfl (live_tr23 _ _ _) ?_; rintro ⟨⟩) | (refine WLA.call0 rfl (live_tr23 _ _ _) ?_; rintro ⟨⟩)) | (refine WPA.ifT ?_) | (refine WPA.ifF ?_) | ((first | refine WPA.dec ?_); first | refine .inl ⟨by first | assumption | omega | with_reducible rfl | (refine fun h => h ?_; first | assumption | with_reducible rfl) | (simp only [List.length_append, List.length_cons, List.length_nil, List.length_set] <;> omega) | decide, ?_⟩ | refine .inr ⟨by first | assumption | omega | with_reducible rfl | (refine fun h => h ?_; first | assumption | with_reducible rfl) | (simp only [List.length_append, List.length_cons, List.length_nil, List.length_set] <;> omega) | decide, ?_⟩) | ((first | refine WPA.ifBt ?_ ?_ | refine WPA.ifBnf ?_ ?_); assumption) | ((first | refine WPA.ifBnt ?_ ?_ | refine WPA.ifBf ?_ ?_); assumption) | ((first | refine WPA.ifs ?_ ?_ | refine WPA.ifB ?_ ?_) <;> intro hc))
    exact QQ.end_ rfl () rfl fun w h => (h.sub hKI.out).to
theorem u8_rng {c : Int} (h : (Lit.int .u8 c).wf = true) : 0 ≤ c ∧ c ≤ 255 := by
  unfold Lit.wf at h
  rw [Bool.and_eq_true] at h
  exact ⟨of_decide_eq_true h.1, of_decide_eq_true h.2⟩
theorem AdjustText_law (W : World) (s : ByteArray) (hs : gStr W s) (c : KInt .u8) (hc : gKInt .u8 W c) : Calls Try.prog 14 #[.string s, .int .u8 c] W fun e w' => e = .returned (.bool true) ∧ Below W.heap.size W w' := Calls.below (AdjustText_tr (u8_rng hc))
end Go.Proofs.Ytlodbajaoadhdaa
