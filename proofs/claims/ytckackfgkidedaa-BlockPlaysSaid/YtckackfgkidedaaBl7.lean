/- BlockPlays: the walk. Conditions: none. -/
import Derived.Test.YtckackfgkidedaaBl6
namespace Go.Proofs.Ytckackfgkidedaa
open Go Go.Fw Go.RowKit
set_option linter.unusedVariables false
set_option linter.unusedSimpArgs false
set_option maxRecDepth 100000
set_option maxHeartbeats 16000000
set_option synthInstance.maxHeartbeats 200000
set_option synthInstance.maxSize 100000
attribute [local irreducible] WPA WLA WDA WDQ WDE QQ seqQ blockQ loopQ fnQ OpP OpT Tr TrP SL SLd OwnS LitS Bk BkE Ob

/-- The two stores agree. -/
structure Rel (m : BS) (r : RS) : Prop where
  size : r.size = m.size
  most : r.most = m.most
  tk : r.tk = m.tk
  peak : r.peak = m.peak
  len : r.ts.length = m.ts.length
  ts : ∀ i : Nat, m.tk[i]? = some true → r.ts[i]? = m.ts[i]?
def RS.alloc' (r : RS) : RS := if r.most ≤ firstFree r.tk then r else r.alloc
def RS.write' (r : RS) (id : Int) (t : ByteArray) : RS := if Has r.tk id then (if (t.size : Int) ≤ r.size then { r with ts := r.ts.set id.toNat t } else r) else r
def RS.free' (r : RS) (id : Int) : RS := if Has r.tk id then { r with tk := r.tk.set id.toNat false } else r
section
variable {S : Nat} {m : RS} {id : Int} {L L' : List HP} {w0 : World} {I : Foot} {t : ByteArray}
theorem rWrite_k [h : FindK L RefR S m L'] (hs : m.size ≤ 65536) : Tr Try.prog 73 #[.pointer (some ⟨S, 0, none⟩), .int .i64 id, .string t] (SL w0 I L) (fun _ : Unit => .int .i64 (if Has m.tk id then (if (t.size : Int) ≤ m.size then 0 else 5) else 7)) (fun _ => SL w0 I (RefR S (m.write' id t) :: L')) := by
  unfold RS.write'
  by_cases hh : Has m.tk id
  · simp only [if_pos hh]; exact rWrite_tr hh hs
  · simp only [if_neg hh]; exact rWrite_no hh
theorem rFree_k [h : FindK L RefR S m L'] : Tr Try.prog 74 #[.pointer (some ⟨S, 0, none⟩), .int .i64 id] (SL w0 I L) (fun _ : Unit => .int .i64 (if Has m.tk id then 0 else 7)) (fun _ => SL w0 I (RefR S (m.free' id) :: L')) := by
  unfold RS.free'
  by_cases hh : Has m.tk id
  · simp only [if_pos hh]; exact rFree_tr hh
  · simp only [if_neg hh]; exact rFree_no hh
end
theorem Rel.alloc {m : BS} {r : RS} (ok : m.Ok) (h : Rel m r) : Rel m.alloc' r.alloc' := by
  have hf := ok.full
  unfold BS.alloc' RS.alloc'
  rw [h.most, h.tk]
  by_cases hu : m.used = m.most
  · rw [if_pos hu, if_pos (hf.1 hu)]; exact h
  · rw [if_neg hu, if_neg (fun e => hu (hf.2 e))]
    refine ⟨h.size, h.most, by simp only [RS.alloc, BS.alloc, h.tk], ?_, ?_, ?_⟩
    · simp only [RS.alloc, BS.alloc, h.tk, h.peak]
      rw [count_set_t _ _ (padB_at m.tk), padB_cnt, ok.used]
      rfl
    · simp only [RS.alloc, BS.alloc, h.tk, List.length_set]
      unfold padT; split
      · exact h.len
      · rw [List.length_append, List.length_append, h.len]
    · intro i hi
      have hl := ok.lens
      simp only [RS.alloc, BS.alloc, h.tk] at hi ⊢
      have hpl := padB_len m.tk m.ts hl
      have hpl2 := padB_len m.tk r.ts (by rw [h.len]; exact hl)
      have hfp := firstFree_padB m.tk
      by_cases e : firstFree m.tk = i
      · subst e
        rw [List.getElem?_set_self (by omega)]
        unfold padT
        split
        · exact (ok.empty _ (firstFree_false _ ‹_›)).symm
        · have : firstFree m.tk = m.ts.length := by have := firstFree_le m.tk; omega
          rw [this]; simp
      · rw [List.getElem?_set_ne e] at hi ⊢
        rw [padB_ne _ _ (Ne.symm e)] at hi
        have h1 := (List.getElem?_eq_some_iff.1 hi).1
        rw [padT_at _ _ _ (by rw [h.len]; omega), padT_at _ _ _ (by omega)]
        exact h.ts i hi
theorem Rel.write {m : BS} {r : RS} {id : Int} {t : ByteArray} (ok : m.Ok) (h : Rel m r) : Rel (m.write' id t) (r.write' id t) := by
  unfold BS.write' RS.write'
  rw [h.tk, h.size]
  by_cases hh : Has m.tk id
  · by_cases ht : (t.size : Int) ≤ m.size
    · rw [if_pos hh, if_pos ht, if_pos ⟨hh, ht⟩]
      refine ⟨rfl, h.most, rfl, h.peak, by simp only [BS.write, List.length_set]; exact h.len, ?_⟩
      intro i hi
      simp only [BS.write] at hi ⊢
      have hl := h.len
      rw [List.getElem?_set, List.getElem?_set, hl, h.ts i hi]
    · rw [if_pos hh, if_neg ht, if_neg (fun e => ht e.2)]; exact h
  · rw [if_neg hh, if_neg (fun e => hh e.1)]; exact h
theorem Rel.free {m : BS} {r : RS} {id : Int} (ok : m.Ok) (h : Rel m r) : Rel (m.free' id) (r.free' id) := by
  unfold BS.free' RS.free'
  rw [h.tk]
  by_cases hh : Has m.tk id
  · rw [if_pos hh, if_pos hh]
    refine ⟨h.size, h.most, rfl, h.peak, by simp only [BS.free, List.length_set]; exact h.len, ?_⟩
    intro i hi
    simp only [BS.free] at hi ⊢
    by_cases e : id.toNat = i
    · subst e; rw [List.getElem?_set_self (by have := hh.1; omega)] at hi; cases hi
    · rw [List.getElem?_set_ne e] at hi ⊢
      exact h.ts i hi
  · rw [if_neg hh, if_neg hh]; exact h
theorem Rel.read {m : BS} {r : RS} {id : Int} (h : Rel m r) (hh : Has m.tk id) (hl : m.tk.length = m.ts.length) : at_ r.ts id = at_ m.ts id := by
  have := h.ts _ (has_at hh)
  unfold at_
  rw [List.getD_eq_getElem?_getD, List.getD_eq_getElem?_getD, this]
/-- What one act does. -/
def nextM (m : BS) (k id : Int) (t : ByteArray) : BS := if k = 0 ∨ k = 1 then m.alloc' else if k = 2 then m.write' id t else if k = 4 then m.free' id else m
def nextR (r : RS) (k id : Int) (t : ByteArray) : RS := if k = 0 ∨ k = 1 then r.alloc' else if k = 2 then r.write' id t else if k = 4 then r.free' id else r
section
variable {S R : Nat} {m : BS} {r : RS} {k id : Int} {L L1 L2 : List HP} {w0 : World} {I : Foot} {t : ByteArray}
theorem does_tr [h : FindK L StoreR S m L1] [h2 : FindK L1 RefR R r L2] (ok : m.Ok) (hr : Rel m r) (hl : m.tk.length ≤ 100000) : Tr Try.prog 42 #[.pointer (some ⟨S, 0, none⟩), .pointer (some ⟨R, 0, none⟩), .agg #[.int .i64 k, .int .i64 id, .string t]] (SL w0 I L) (fun _ : Unit => .bool true)
    (fun _ => SL w0 I (StoreR S (nextM m k id t) :: RefR R (nextR r k id t) :: L2)) := by
  refine Tr.at (h.out.trans (Ent.cons h2.out)) ?_
  refine Tr.intro Try.func42 rfl Try.ntmps42 rfl ?_
  have hrl : r.tk.length ≤ 100000 := by rw [hr.tk]; exact hl
  have hrm : r.most ≤ 1048576 := by rw [hr.most]; exact ok.most.2
  have hrs : r.size ≤ 65536 := by rw [hr.size]; exact ok.size.2
  by_cases h0 : k = 0 ∨ k = 1
  · have e1 : (if r.most ≤ firstFree r.tk then (0 : Int) else (firstFree r.tk : Int)) = allocId m := by
      unfold allocId; rw [hr.most, hr.tk]; simp only [ok.full]
    have e2 : (if r.most ≤ firstFree r.tk then (6 : Int) else 0) = allocErr m := by
      unfold allocErr; rw [hr.most]; rw [hr.tk]; simp only [ok.full]
    have e3 : (if r.most ≤ firstFree r.tk then r else r.alloc) = r.alloc' := rfl
    have hA : ∀ {L L'} [FindK L RefR R r L'], Tr Try.prog 72 #[.pointer (some ⟨R, 0, none⟩)] (SL w0 I L) (fun _ : Unit => .tuple #[.int .i64 (allocId m), .int .i64 (allocErr m)]) (fun _ => SL w0 I (RefR R r.alloc' :: L')) := by
      intro L L' _
      rw [← e1, ← e2, ← e3]
      exact rAlloc_tr hrl hrm
    unfold nextM nextR
    rw [if_pos h0, if_pos h0]
    repeat' (first
      | (refine WLA.m rfl rfl ?_ ?_; first | exact trivial | exact rfl | assumption | omega | (refine ⟨?_, ?_⟩ <;> omega) | (simp only [Room, List.length_set, List.length_append, List.length_cons, List.length_nil, List.length_replicate]; omega) | skip)
      | (refine WLA.nil ?_)
      | (refine WPA.region ?_)
      | (refine WPA.seq ?_)
      | (refine QQ.seq_normal ?_)
      | (refine WPA.skip ?_)
      | (refine WPA.block ?_)
      | (refine WPA.ret ?_)
      | (refine WPA.exit ?_)
      | (refine QQ.seq_ret ?_)
      | (refine QQ.seq_exit ?_)
      | (refine QQ.block_normal ?_)
      | (refine QQ.block_ret ?_)
      | (refine QQ.block_hit ?_)
      | (refine QQ.block_miss rfl ?_)
      | (refine QQ.loop_ret ?_)
      | (refine QQ.loop_exit ?_)
      | (guard_target =~ WLA _ _ _ _ _ (⟨_, .call ⟨.value (.func 37), _, _⟩, _, _, _, _⟩ :: _) _ _; first | (refine WLA.call rfl rfl (Alloc_k ok) ?_; rintro ⟨⟩) | (refine WLA.call0 rfl (Alloc_k ok) ?_; rintro ⟨⟩))
      | (guard_target =~ WLA _ _ _ _ _ (⟨_, .call ⟨.value (.func 72), _, _⟩, _, _, _, _⟩ :: _) _ _; first | (refine WLA.call rfl rfl (hA) ?_; rintro ⟨⟩) | (refine WLA.call0 rfl (hA) ?_; rintro ⟨⟩))
      | (refine WLA.st rfl ?_ ?_; first | exact trivial | exact rfl | assumption | omega | (refine ⟨?_, ?_⟩ <;> omega) | (simp only [Room, List.length_set, List.length_append, List.length_cons, List.length_nil, List.length_replicate]; omega) | skip)
      | (refine WLA.x rfl rfl ?_ (fun x => ?_); first | exact trivial | exact rfl | assumption | omega | (refine ⟨?_, ?_⟩ <;> omega) | (simp only [Room, List.length_set, List.length_append, List.length_cons, List.length_nil, List.length_replicate]; omega) | skip)
      | (refine WLA.x0 rfl ?_ (fun x => ?_); first | exact trivial | exact rfl | assumption | omega | (refine ⟨?_, ?_⟩ <;> omega) | (simp only [Room, List.length_set, List.length_append, List.length_cons, List.length_nil, List.length_replicate]; omega) | skip)
      | (guard_target =~ WPA _ _ _ (.cond _ _ _) _ _ _; first | (refine WPA.ifT ?_) | (refine WPA.ifF ?_) | (refine WPA.ifYes ?_ ?_; (first | assumption | omega | (refine fun h => h ?_; assumption) | (simp only [List.length_append, List.length_cons, List.length_nil, List.length_set] <;> omega))) | (refine WPA.ifNo ?_ ?_; (first | assumption | omega | (refine fun h => h ?_; assumption) | (simp only [List.length_append, List.length_cons, List.length_nil, List.length_set] <;> omega))) | (refine WPA.ifBt ?_ ?_; assumption) | (refine WPA.ifBf ?_ ?_; assumption) | (refine WPA.ifBnt ?_ ?_; assumption) | (refine WPA.ifBnf ?_ ?_; assumption) | (refine WPA.ifs ?_ ?_ <;> intro hc) | (refine WPA.ifB ?_ ?_ <;> intro hc))
      | (guard_target =~ WLA _ _ _ _ _ (⟨_, _, _, _, _, some _⟩ :: _) _ _; first | (refine WLA.no rfl rfl ?_) | (refine WLA.yes rfl rfl ?_ ?_; (first | assumption | omega | (refine fun h => h ?_; assumption) | (simp only [List.length_append, List.length_cons, List.length_nil, List.length_set] <;> omega))) | (refine WLA.nay rfl rfl ?_ ?_; (first | assumption | omega | (refine fun h => h ?_; assumption) | (simp only [List.length_append, List.length_cons, List.length_nil, List.length_set] <;> omega))) | (refine WLA.both rfl rfl ?_ ?_ <;> intro hg) | (refine WLA.bothB rfl rfl ?_ ?_ <;> intro hg))
      | (guard_target =~ WPA _ _ _ (.region 8 _ true) _ _ _; refine WPA.drawT 11 (.p 0 (.p 1 (.q 2 (.p 3 (.q 4 (.p 6 (.p 7 (.p 8 (.p 9 (.p 10 (.w 5 .fin))))))))))) mixed ?_ ?_; kernel_rfl)
      | (guard_target =~ WPA _ _ _ (.region 14 _ true) _ _ _; refine WPA.drawT 7 (.p 0 (.p 1 (.q 2 (.p 4 (.p 5 (.p 6 (.w 3 .fin))))))) mixed ?_ ?_; kernel_rfl)
      | (refine WDA.finish (tl := [⟨_, _, _, _, _, _⟩, ⟨_, _, _, _, _, _⟩, ⟨_, _, _, _, _, _⟩]) rfl ?_)
      | (refine WDQ.see rfl ?_)
      | (refine WDQ.m rfl rfl ?_ ?_; first | exact trivial | exact rfl | assumption | omega | (refine ⟨?_, ?_⟩ <;> omega) | (simp only [Room, List.length_set, List.length_append, List.length_cons, List.length_nil, List.length_replicate]; omega) | skip)
      | (refine WDP.see rfl ?_)
      | (refine WDP.m rfl rfl ?_ ?_; first | exact trivial | exact rfl | assumption | omega | (refine ⟨?_, ?_⟩ <;> omega) | (simp only [Room, List.length_set, List.length_append, List.length_cons, List.length_nil, List.length_replicate]; omega) | skip)
      | (refine WDP.no rfl rfl ?_)
      | (refine WDW.see rfl ?_)
      | (refine WDW.x rfl rfl ?_ (fun x => ?_); first | exact trivial | exact rfl | assumption | omega | (refine ⟨?_, ?_⟩ <;> omega) | (simp only [Room, List.length_set, List.length_append, List.length_cons, List.length_nil, List.length_replicate]; omega) | skip)
      | (refine WDW.st rfl ?_ ?_; first | exact trivial | exact rfl | assumption | omega | (refine ⟨?_, ?_⟩ <;> omega) | (simp only [Room, List.length_set, List.length_append, List.length_cons, List.length_nil, List.length_replicate]; omega) | skip)
      | (guard_target =~ WDE _ _ _ _ _ _ _ ⟨_, .call ⟨.value (.func 37), _, _⟩, _, _, _, _⟩ _ _ _; refine WDE.call rfl rfl (Alloc_k ok) ?_ ?_; (intro x w h; exact Ent.drop1.sl h); rintro ⟨⟩)
      | (guard_target =~ WDW _ _ _ _ _ _ _ ⟨_, .call ⟨.value (.func 37), _, _⟩, _, _, _, _⟩ _ _ _; refine WDW.call rfl rfl (Alloc_k ok) ?_; rintro ⟨⟩)
      | (guard_target =~ WDE _ _ _ _ _ _ _ ⟨_, .call ⟨.value (.func 72), _, _⟩, _, _, _, _⟩ _ _ _; refine WDE.call rfl rfl (hA) ?_ ?_; (intro x w h; exact Ent.drop1.sl h); rintro ⟨⟩)
      | (guard_target =~ WDW _ _ _ _ _ _ _ ⟨_, .call ⟨.value (.func 72), _, _⟩, _, _, _, _⟩ _ _ _; refine WDW.call rfl rfl (hA) ?_; rintro ⟨⟩))
    all_goals exact QQ.end_ rfl () (congrArg Value.bool (by simp)) fun w h => h.to
  · unfold nextM nextR
    rw [if_neg h0, if_neg h0]
    have h01 : ¬ k = 0 := fun e => h0 (.inl e)
    have h02 : ¬ k = 1 := fun e => h0 (.inr e)
    have e1 : (if Has r.tk id then (0 : Int) else 7) = hasErr m id := by rw [hr.tk]; rfl
    have e2 : (if Has r.tk id then (if (t.size : Int) ≤ r.size then (0 : Int) else 5) else 7) = writeErr m id t := by rw [hr.tk, hr.size]; rfl
    have e3 : (if Has r.tk id then at_ r.ts id else ⟨#[]⟩) = readT m id := by
      unfold readT; rw [hr.tk]
      by_cases hh : Has m.tk id
      · rw [if_pos hh, if_pos hh, hr.read hh ok.lens]
      · rw [if_neg hh, if_neg hh]
    have hW : ∀ {I : Foot} {L L'} [FindK L RefR R r L'], Tr Try.prog 73 #[.pointer (some ⟨R, 0, none⟩), .int .i64 id, .string t] (SL w0 I L) (fun _ : Unit => .int .i64 (writeErr m id t)) (fun _ => SL w0 I (RefR R (r.write' id t) :: L')) := by
      intro I L L' _; rw [← e2]; exact rWrite_k hrs
    have hF : ∀ {I : Foot} {L L'} [FindK L RefR R r L'], Tr Try.prog 74 #[.pointer (some ⟨R, 0, none⟩), .int .i64 id] (SL w0 I L) (fun _ : Unit => .int .i64 (hasErr m id)) (fun _ => SL w0 I (RefR R (r.free' id) :: L')) := by
      intro I L L' _; rw [← e1]; exact rFree_k
    have hR : ∀ {I : Foot} {L L'} [FindK L RefR R r L'], Tr Try.prog 47 #[.pointer (some ⟨R, 0, none⟩), .int .i64 id] (SL w0 I L) (fun _ : Unit => .tuple #[.string (readT m id), .int .i64 (hasErr m id)]) (fun _ => SL w0 I (RefR R r :: L')) := by
      intro I L L' _; rw [← e1, ← e3]; exact rRead_tr
    repeat' ((fail_if_success (guard_target =~ WPA _ _ _ (.region 1 _ _) _ _ _)); first
      | (refine WLA.m rfl rfl ?_ ?_; first | exact trivial | exact rfl | assumption | omega | (refine ⟨?_, ?_⟩ <;> omega) | (simp only [Room, List.length_set, List.length_append, List.length_cons, List.length_nil, List.length_replicate]; omega) | skip)
      | (refine WLA.nil ?_)
      | (refine WPA.region ?_)
      | (refine WPA.seq ?_)
      | (refine QQ.seq_normal ?_)
      | (refine WPA.skip ?_)
      | (refine WPA.block ?_)
      | (refine WPA.ret ?_)
      | (refine WPA.exit ?_)
      | (refine QQ.seq_ret ?_)
      | (refine QQ.seq_exit ?_)
      | (refine QQ.block_normal ?_)
      | (refine QQ.block_ret ?_)
      | (refine QQ.block_hit ?_)
      | (refine QQ.block_miss rfl ?_)
      | (refine QQ.loop_ret ?_)
      | (refine QQ.loop_exit ?_)
      | (refine WLA.st rfl ?_ ?_; first | exact trivial | exact rfl | assumption | omega | (refine ⟨?_, ?_⟩ <;> omega) | (simp only [Room, List.length_set, List.length_append, List.length_cons, List.length_nil, List.length_replicate]; omega) | skip)
      | (refine WLA.x rfl rfl ?_ (fun x => ?_); first | exact trivial | exact rfl | assumption | omega | (refine ⟨?_, ?_⟩ <;> omega) | (simp only [Room, List.length_set, List.length_append, List.length_cons, List.length_nil, List.length_replicate]; omega) | skip)
      | (refine WLA.x0 rfl ?_ (fun x => ?_); first | exact trivial | exact rfl | assumption | omega | (refine ⟨?_, ?_⟩ <;> omega) | (simp only [Room, List.length_set, List.length_append, List.length_cons, List.length_nil, List.length_replicate]; omega) | skip)
      | (guard_target =~ WPA _ _ _ (.cond _ _ _) _ _ _; first | (refine WPA.ifT ?_) | (refine WPA.ifF ?_) | (refine WPA.ifYes ?_ ?_; (first | assumption | omega | (refine fun h => h ?_; assumption) | (simp only [List.length_append, List.length_cons, List.length_nil, List.length_set] <;> omega))) | (refine WPA.ifNo ?_ ?_; (first | assumption | omega | (refine fun h => h ?_; assumption) | (simp only [List.length_append, List.length_cons, List.length_nil, List.length_set] <;> omega))) | (refine WPA.ifBt ?_ ?_; assumption) | (refine WPA.ifBf ?_ ?_; assumption) | (refine WPA.ifBnt ?_ ?_; assumption) | (refine WPA.ifBnf ?_ ?_; assumption) | (refine WPA.ifs ?_ ?_ <;> intro hc) | (refine WPA.ifB ?_ ?_ <;> intro hc))
      | (guard_target =~ WLA _ _ _ _ _ (⟨_, _, _, _, _, some _⟩ :: _) _ _; first | (refine WLA.no rfl rfl ?_) | (refine WLA.yes rfl rfl ?_ ?_; (first | assumption | omega | (refine fun h => h ?_; assumption) | (simp only [List.length_append, List.length_cons, List.length_nil, List.length_set] <;> omega))) | (refine WLA.nay rfl rfl ?_ ?_; (first | assumption | omega | (refine fun h => h ?_; assumption) | (simp only [List.length_append, List.length_cons, List.length_nil, List.length_set] <;> omega))) | (refine WLA.both rfl rfl ?_ ?_ <;> intro hg) | (refine WLA.bothB rfl rfl ?_ ?_ <;> intro hg))
      | (guard_target =~ WPA _ _ _ (.region 8 _ true) _ _ _; refine WPA.drawT 11 (.p 0 (.p 1 (.q 2 (.p 3 (.q 4 (.p 6 (.p 7 (.p 8 (.p 9 (.p 10 (.w 5 .fin))))))))))) mixed ?_ ?_; kernel_rfl)
      | (guard_target =~ WPA _ _ _ (.region 14 _ true) _ _ _; refine WPA.drawT 7 (.p 0 (.p 1 (.q 2 (.p 4 (.p 5 (.p 6 (.w 3 .fin))))))) mixed ?_ ?_; kernel_rfl)
      | (refine WDA.finish (tl := [⟨_, _, _, _, _, _⟩, ⟨_, _, _, _, _, _⟩, ⟨_, _, _, _, _, _⟩]) rfl ?_)
      | (refine WDQ.see rfl ?_)
      | (refine WDQ.m rfl rfl ?_ ?_; first | exact trivial | exact rfl | assumption | omega | (refine ⟨?_, ?_⟩ <;> omega) | (simp only [Room, List.length_set, List.length_append, List.length_cons, List.length_nil, List.length_replicate]; omega) | skip)
      | (refine WDP.see rfl ?_)
      | (refine WDP.m rfl rfl ?_ ?_; first | exact trivial | exact rfl | assumption | omega | (refine ⟨?_, ?_⟩ <;> omega) | (simp only [Room, List.length_set, List.length_append, List.length_cons, List.length_nil, List.length_replicate]; omega) | skip)
      | (refine WDP.no rfl rfl ?_)
      | (refine WDW.see rfl ?_)
      | (refine WDW.x rfl rfl ?_ (fun x => ?_); first | exact trivial | exact rfl | assumption | omega | (refine ⟨?_, ?_⟩ <;> omega) | (simp only [Room, List.length_set, List.length_append, List.length_cons, List.length_nil, List.length_replicate]; omega) | skip)
      | (refine WDW.st rfl ?_ ?_; first | exact trivial | exact rfl | assumption | omega | (refine ⟨?_, ?_⟩ <;> omega) | (simp only [Room, List.length_set, List.length_append, List.length_cons, List.length_nil, List.length_replicate]; omega) | skip))
    refine WPA.freezeBk (b := x) ?_
    repeat' (first
      | (refine WLA.m rfl rfl ?_ ?_; first | exact trivial | exact rfl | assumption | omega | (refine ⟨?_, ?_⟩ <;> omega) | (simp only [Room, List.length_set, List.length_append, List.length_cons, List.length_nil, List.length_replicate]; omega) | skip)
      | (refine WLA.nil ?_)
      | (refine WPA.region ?_)
      | (refine WPA.seq ?_)
      | (refine QQ.seq_normal ?_)
      | (refine WPA.skip ?_)
      | (refine WPA.block ?_)
      | (refine WPA.ret ?_)
      | (refine WPA.exit ?_)
      | (refine QQ.seq_ret ?_)
      | (refine QQ.seq_exit ?_)
      | (refine QQ.block_normal ?_)
      | (refine QQ.block_ret ?_)
      | (refine QQ.block_hit ?_)
      | (refine QQ.block_miss rfl ?_)
      | (refine QQ.loop_ret ?_)
      | (refine QQ.loop_exit ?_)
      | (guard_target =~ WLA _ _ _ _ _ (⟨_, .call ⟨.value (.func 38), _, _⟩, _, _, _, _⟩ :: _) _ _; first | (refine WLA.call rfl rfl (Write_k ok) ?_; rintro ⟨⟩) | (refine WLA.call0 rfl (Write_k ok) ?_; rintro ⟨⟩))
      | (guard_target =~ WLA _ _ _ _ _ (⟨_, .call ⟨.value (.func 39), _, _⟩, _, _, _, _⟩ :: _) _ _; first | (refine WLA.call rfl rfl (Free_k ok) ?_; rintro ⟨⟩) | (refine WLA.call0 rfl (Free_k ok) ?_; rintro ⟨⟩))
      | (guard_target =~ WLA _ _ _ _ _ (⟨_, .call ⟨.value (.func 40), _, _⟩, _, _, _, _⟩ :: _) _ _; first | (refine WLA.call rfl rfl (Read_k) ?_; rintro ⟨⟩) | (refine WLA.call0 rfl (Read_k) ?_; rintro ⟨⟩))
      | (guard_target =~ WLA _ _ _ _ _ (⟨_, .call ⟨.value (.func 73), _, _⟩, _, _, _, _⟩ :: _) _ _; first | (refine WLA.call rfl rfl (hW) ?_; rintro ⟨⟩) | (refine WLA.call0 rfl (hW) ?_; rintro ⟨⟩))
      | (guard_target =~ WLA _ _ _ _ _ (⟨_, .call ⟨.value (.func 74), _, _⟩, _, _, _, _⟩ :: _) _ _; first | (refine WLA.call rfl rfl (hF) ?_; rintro ⟨⟩) | (refine WLA.call0 rfl (hF) ?_; rintro ⟨⟩))
      | (guard_target =~ WLA _ _ _ _ _ (⟨_, .call ⟨.value (.func 47), _, _⟩, _, _, _, _⟩ :: _) _ _; first | (refine WLA.call rfl rfl (hR) ?_; rintro ⟨⟩) | (refine WLA.call0 rfl (hR) ?_; rintro ⟨⟩))
      | (refine WLA.st rfl ?_ ?_; first | exact trivial | exact rfl | assumption | omega | (refine ⟨?_, ?_⟩ <;> omega) | (simp only [Room, List.length_set, List.length_append, List.length_cons, List.length_nil, List.length_replicate]; omega) | skip)
      | (refine WLA.x rfl rfl ?_ (fun x => ?_); first | exact trivial | exact rfl | assumption | omega | (refine ⟨?_, ?_⟩ <;> omega) | (simp only [Room, List.length_set, List.length_append, List.length_cons, List.length_nil, List.length_replicate]; omega) | skip)
      | (refine WLA.x0 rfl ?_ (fun x => ?_); first | exact trivial | exact rfl | assumption | omega | (refine ⟨?_, ?_⟩ <;> omega) | (simp only [Room, List.length_set, List.length_append, List.length_cons, List.length_nil, List.length_replicate]; omega) | skip)
      | (guard_target =~ WPA _ _ _ (.cond _ _ _) _ _ _; first | (refine WPA.ifT ?_) | (refine WPA.ifF ?_) | (refine WPA.ifYes ?_ ?_; (first | assumption | omega | (refine fun h => h ?_; assumption) | (simp only [List.length_append, List.length_cons, List.length_nil, List.length_set] <;> omega))) | (refine WPA.ifNo ?_ ?_; (first | assumption | omega | (refine fun h => h ?_; assumption) | (simp only [List.length_append, List.length_cons, List.length_nil, List.length_set] <;> omega))) | (refine WPA.ifBt ?_ ?_; assumption) | (refine WPA.ifBf ?_ ?_; assumption) | (refine WPA.ifBnt ?_ ?_; assumption) | (refine WPA.ifBnf ?_ ?_; assumption) | (refine WPA.ifs ?_ ?_ <;> intro hc) | (refine WPA.ifB ?_ ?_ <;> intro hc))
      | (guard_target =~ WLA _ _ _ _ _ (⟨_, _, _, _, _, some _⟩ :: _) _ _; first | (refine WLA.no rfl rfl ?_) | (refine WLA.yes rfl rfl ?_ ?_; (first | assumption | omega | (refine fun h => h ?_; assumption) | (simp only [List.length_append, List.length_cons, List.length_nil, List.length_set] <;> omega))) | (refine WLA.nay rfl rfl ?_ ?_; (first | assumption | omega | (refine fun h => h ?_; assumption) | (simp only [List.length_append, List.length_cons, List.length_nil, List.length_set] <;> omega))) | (refine WLA.both rfl rfl ?_ ?_ <;> intro hg) | (refine WLA.bothB rfl rfl ?_ ?_ <;> intro hg))
      | (guard_target =~ WPA _ _ _ (.region 8 _ true) _ _ _; refine WPA.drawT 11 (.p 0 (.p 1 (.q 2 (.p 3 (.q 4 (.p 6 (.p 7 (.p 8 (.p 9 (.p 10 (.w 5 .fin))))))))))) mixed ?_ ?_; kernel_rfl)
      | (guard_target =~ WPA _ _ _ (.region 14 _ true) _ _ _; refine WPA.drawT 7 (.p 0 (.p 1 (.q 2 (.p 4 (.p 5 (.p 6 (.w 3 .fin))))))) mixed ?_ ?_; kernel_rfl)
      | (refine WDA.finish (tl := [⟨_, _, _, _, _, _⟩, ⟨_, _, _, _, _, _⟩, ⟨_, _, _, _, _, _⟩]) rfl ?_)
      | (refine WDQ.see rfl ?_)
      | (refine WDQ.m rfl rfl ?_ ?_; first | exact trivial | exact rfl | assumption | omega | (refine ⟨?_, ?_⟩ <;> omega) | (simp only [Room, List.length_set, List.length_append, List.length_cons, List.length_nil, List.length_replicate]; omega) | skip)
      | (refine WDP.see rfl ?_)
      | (refine WDP.m rfl rfl ?_ ?_; first | exact trivial | exact rfl | assumption | omega | (refine ⟨?_, ?_⟩ <;> omega) | (simp only [Room, List.length_set, List.length_append, List.length_cons, List.length_nil, List.length_replicate]; omega) | skip)
      | (refine WDP.no rfl rfl ?_)
      | (refine WDW.see rfl ?_)
      | (refine WDW.x rfl rfl ?_ (fun x => ?_); first | exact trivial | exact rfl | assumption | omega | (refine ⟨?_, ?_⟩ <;> omega) | (simp only [Room, List.length_set, List.length_append, List.length_cons, List.length_nil, List.length_replicate]; omega) | skip)
      | (refine WDW.st rfl ?_ ?_; first | exact trivial | exact rfl | assumption | omega | (refine ⟨?_, ?_⟩ <;> omega) | (simp only [Room, List.length_set, List.length_append, List.length_cons, List.length_nil, List.length_replicate]; omega) | skip)
      | (guard_target =~ WDE _ _ _ _ _ _ _ ⟨_, .call ⟨.value (.func 38), _, _⟩, _, _, _, _⟩ _ _ _; refine WDE.call rfl rfl (Write_k ok) ?_ ?_; (intro x w h; exact Ent.drop1.sl h); rintro ⟨⟩)
      | (guard_target =~ WDW _ _ _ _ _ _ _ ⟨_, .call ⟨.value (.func 38), _, _⟩, _, _, _, _⟩ _ _ _; refine WDW.call rfl rfl (Write_k ok) ?_; rintro ⟨⟩)
      | (guard_target =~ WDE _ _ _ _ _ _ _ ⟨_, .call ⟨.value (.func 39), _, _⟩, _, _, _, _⟩ _ _ _; refine WDE.call rfl rfl (Free_k ok) ?_ ?_; (intro x w h; exact Ent.drop1.sl h); rintro ⟨⟩)
      | (guard_target =~ WDW _ _ _ _ _ _ _ ⟨_, .call ⟨.value (.func 39), _, _⟩, _, _, _, _⟩ _ _ _; refine WDW.call rfl rfl (Free_k ok) ?_; rintro ⟨⟩)
      | (guard_target =~ WDE _ _ _ _ _ _ _ ⟨_, .call ⟨.value (.func 40), _, _⟩, _, _, _, _⟩ _ _ _; refine WDE.call rfl rfl (Read_k) ?_ ?_; (intro x w h; exact Ent.drop1.sl h); rintro ⟨⟩)
      | (guard_target =~ WDW _ _ _ _ _ _ _ ⟨_, .call ⟨.value (.func 40), _, _⟩, _, _, _, _⟩ _ _ _; refine WDW.call rfl rfl (Read_k) ?_; rintro ⟨⟩)
      | (guard_target =~ WDE _ _ _ _ _ _ _ ⟨_, .call ⟨.value (.func 73), _, _⟩, _, _, _, _⟩ _ _ _; refine WDE.call rfl rfl (hW) ?_ ?_; (intro x w h; exact Ent.drop1.sl h); rintro ⟨⟩)
      | (guard_target =~ WDW _ _ _ _ _ _ _ ⟨_, .call ⟨.value (.func 73), _, _⟩, _, _, _, _⟩ _ _ _; refine WDW.call rfl rfl (hW) ?_; rintro ⟨⟩)
      | (guard_target =~ WDE _ _ _ _ _ _ _ ⟨_, .call ⟨.value (.func 74), _, _⟩, _, _, _, _⟩ _ _ _; refine WDE.call rfl rfl (hF) ?_ ?_; (intro x w h; exact Ent.drop1.sl h); rintro ⟨⟩)
      | (guard_target =~ WDW _ _ _ _ _ _ _ ⟨_, .call ⟨.value (.func 74), _, _⟩, _, _, _, _⟩ _ _ _; refine WDW.call rfl rfl (hF) ?_; rintro ⟨⟩)
      | (guard_target =~ WDE _ _ _ _ _ _ _ ⟨_, .call ⟨.value (.func 47), _, _⟩, _, _, _, _⟩ _ _ _; refine WDE.call rfl rfl (hR) ?_ ?_; (intro x w h; exact Ent.drop1.sl h); rintro ⟨⟩)
      | (guard_target =~ WDW _ _ _ _ _ _ _ ⟨_, .call ⟨.value (.func 47), _, _⟩, _, _, _, _⟩ _ _ _; refine WDW.call rfl rfl (hR) ?_; rintro ⟨⟩))
    all_goals simp only [*, if_true, if_false, reduceIte, Int.reduceEq]
    all_goals exact QQ.end_ rfl () (congrArg Value.bool (by simp)) fun w h => h.unI.to
end
theorem rRead_k {S : Nat} {m : BS} {r : RS} {id : Int} {L L' : List HP} {w0 : World} {I : Foot} [h : FindK L RefR S r L'] (hr : Rel m r) (hl : m.tk.length = m.ts.length) : Tr Try.prog 47 #[.pointer (some ⟨S, 0, none⟩), .int .i64 id] (SL w0 I L) (fun _ : Unit => .tuple #[.string (readT m id), .int .i64 (hasErr m id)]) (fun _ => SL w0 I (RefR S r :: L')) := by
  have e1 : (if Has r.tk id then (0 : Int) else 7) = hasErr m id := by rw [hr.tk]; rfl
  have e3 : (if Has r.tk id then at_ r.ts id else ⟨#[]⟩) = readT m id := by
    unfold readT; rw [hr.tk]
    by_cases hh : Has m.tk id
    · rw [if_pos hh, if_pos hh, hr.read hh hl]
    · rw [if_neg hh, if_neg hh]
  rw [← e1, ← e3]; exact rRead_tr
theorem next_ok {m : BS} {k id : Int} {t : ByteArray} (ok : m.Ok) : (nextM m k id t).Ok := by
  unfold nextM; split
  · exact ok.alloc'
  · split
    · exact ok.write'
    · split
      · exact ok.free'
      · exact ok
theorem next_rel {m : BS} {r : RS} {k id : Int} {t : ByteArray} (ok : m.Ok) (h : Rel m r) : Rel (nextM m k id t) (nextR r k id t) := by
  unfold nextM nextR; split
  · exact h.alloc ok
  · split
    · exact h.write ok
    · split
      · exact h.free ok
      · exact h
theorem next_nums {m : BS} {k id : Int} {t : ByteArray} : (nextM m k id t).tk.length ≤ m.tk.length + 1 ∧ (nextM m k id t).most = m.most ∧ (nextM m k id t).size = m.size := by
  unfold nextM; split
  · unfold BS.alloc'; split
    · exact ⟨by omega, rfl, rfl⟩
    · refine ⟨?_, rfl, rfl⟩
      simp only [BS.alloc, List.length_set]
      unfold padB; split <;> simp
  · split
    · unfold BS.write'; split <;> exact ⟨by simp [BS.write], rfl, rfl⟩
    · split
      · unfold BS.free'; split <;> exact ⟨by simp [BS.free], rfl, rfl⟩
      · exact ⟨by omega, rfl, rfl⟩
instance {ρ : Env} {A : World → Prop} {ty t : TypeId} {x : Operand} {r : RS} {S : Nat} {w0 : World} {I : Foot} {L L' : List HP} [hx : Ev ρ x (.pointer (some ⟨S, 0 + 4, none⟩))] [ht : One Try.prog t] [hA : InSL A w0 I L] [hb : FindK L RefR S r L'] : OpM Try.prog ρ A (.load t x) ty (.int .i64 r.peak) True :=
  ⟨fun _ => P_load ht.out hx.out fun w hw => by
    obtain ⟨q, hq⟩ := (inferInstance : Opn (RefR S r) _ _).out _ _ _ _ (hb.out.sl (hA.out w hw))
    exact cell_of_heap hq.bk (by simp)⟩
structure PB where
  i : Nat
  m : BS
  r : RS
theorem BlockPlays_tr {size most : Int} {s : SV} {acts : List (Int × Int × ByteArray)} {w0 : World} {I : Foot} [hr : SlI I s (Int × Int × ByteArray) inferInstance acts] :
    Tr Try.prog 10 #[.int .i64 size, .int .i64 most, .slice s.a s.n s.cap] (SL w0 I []) (fun _ : Unit => .bool true) (fun _ => SL w0 I []) := by
  refine Tr.intro Try.func10 rfl Try.ntmps10 rfl ?_
  by_cases hlen : (60 : Int) < acts.length
  · skip
    repeat' ((fail_if_success (guard_target =~ WPA _ _ _ (.region 3 _ _) _ _ _)); first
      | (refine WLA.m rfl rfl ?_ ?_; first | exact trivial | exact rfl | assumption | omega | (refine ⟨?_, ?_⟩ <;> omega) | (simp only [Room, List.length_set, List.length_append, List.length_cons, List.length_nil, List.length_replicate]; omega) | skip)
      | (refine WLA.nil ?_)
      | (refine WPA.region ?_)
      | (refine WPA.seq ?_)
      | (refine QQ.seq_normal ?_)
      | (refine WPA.skip ?_)
      | (refine WPA.block ?_)
      | (refine WPA.ret ?_)
      | (refine WPA.exit ?_)
      | (refine QQ.seq_ret ?_)
      | (refine QQ.seq_exit ?_)
      | (refine QQ.block_normal ?_)
      | (refine QQ.block_ret ?_)
      | (refine QQ.block_hit ?_)
      | (refine QQ.block_miss rfl ?_)
      | (refine QQ.loop_ret ?_)
      | (refine QQ.loop_exit ?_)
      | (guard_target =~ WLA _ _ _ _ _ (⟨_, .call ⟨.value (.func 35), _, _⟩, _, _, _, _⟩ :: _) _ _; first | (refine WLA.call rfl rfl (live_tr _ _ _) ?_; rintro ⟨⟩) | (refine WLA.call0 rfl (live_tr _ _ _) ?_; rintro ⟨⟩))
      | (refine WLA.st rfl ?_ ?_; first | exact trivial | exact rfl | assumption | omega | (refine ⟨?_, ?_⟩ <;> omega) | (simp only [Room, List.length_set, List.length_append, List.length_cons, List.length_nil, List.length_replicate]; omega) | skip)
      | (refine WLA.x rfl rfl ?_ (fun x => ?_); first | exact trivial | exact rfl | assumption | omega | (refine ⟨?_, ?_⟩ <;> omega) | (simp only [Room, List.length_set, List.length_append, List.length_cons, List.length_nil, List.length_replicate]; omega) | skip)
      | (refine WLA.x0 rfl ?_ (fun x => ?_); first | exact trivial | exact rfl | assumption | omega | (refine ⟨?_, ?_⟩ <;> omega) | (simp only [Room, List.length_set, List.length_append, List.length_cons, List.length_nil, List.length_replicate]; omega) | skip)
      | (guard_target =~ WPA _ _ _ (.cond _ _ _) _ _ _; first | (refine WPA.ifT ?_) | (refine WPA.ifF ?_) | (refine WPA.ifYes ?_ ?_; (first | assumption | omega | (refine fun h => h ?_; assumption) | (simp only [List.length_append, List.length_cons, List.length_nil, List.length_set] <;> omega))) | (refine WPA.ifNo ?_ ?_; (first | assumption | omega | (refine fun h => h ?_; assumption) | (simp only [List.length_append, List.length_cons, List.length_nil, List.length_set] <;> omega))) | (refine WPA.ifBt ?_ ?_; assumption) | (refine WPA.ifBf ?_ ?_; assumption) | (refine WPA.ifBnt ?_ ?_; assumption) | (refine WPA.ifBnf ?_ ?_; assumption) | (refine WPA.ifs ?_ ?_ <;> intro hc) | (refine WPA.ifB ?_ ?_ <;> intro hc))
      | (guard_target =~ WLA _ _ _ _ _ (⟨_, _, _, _, _, some _⟩ :: _) _ _; first | (refine WLA.no rfl rfl ?_) | (refine WLA.yes rfl rfl ?_ ?_; (first | assumption | omega | (refine fun h => h ?_; assumption) | (simp only [List.length_append, List.length_cons, List.length_nil, List.length_set] <;> omega))) | (refine WLA.nay rfl rfl ?_ ?_; (first | assumption | omega | (refine fun h => h ?_; assumption) | (simp only [List.length_append, List.length_cons, List.length_nil, List.length_set] <;> omega))) | (refine WLA.both rfl rfl ?_ ?_ <;> intro hg) | (refine WLA.bothB rfl rfl ?_ ?_ <;> intro hg))
      | (guard_target =~ WPA _ _ _ (.region 14 _ true) _ _ _; refine WPA.drawT 31 (.p 0 (.p 1 (.p 2 (.p 3 (.q 4 (.q 5 (.w 6 (.p 7 (.p 8 (.p 9 (.p 11 (.w 10 (.w 12 (.p 13 (.p 14 (.p 15 (.p 16 (.p 18 (.p 19 (.w 17 (.w 20 (.p 21 (.p 22 (.p 23 (.p 24 (.p 25 (.p 27 (.p 28 (.p 29 (.p 30 (.w 26 .fin))))))))))))))))))))))))))))))) mixed ?_ ?_; kernel_rfl)
      | (refine WDA.finish (tl := [⟨_, _, _, _, _, _⟩, ⟨_, _, _, _, _, _⟩]) rfl ?_)
      | (refine WDQ.see rfl ?_)
      | (refine WDQ.m rfl rfl ?_ ?_; first | exact trivial | exact rfl | assumption | omega | (refine ⟨?_, ?_⟩ <;> omega) | (simp only [Room, List.length_set, List.length_append, List.length_cons, List.length_nil, List.length_replicate]; omega) | skip)
      | (refine WDP.see rfl ?_)
      | (refine WDP.m rfl rfl ?_ ?_; first | exact trivial | exact rfl | assumption | omega | (refine ⟨?_, ?_⟩ <;> omega) | (simp only [Room, List.length_set, List.length_append, List.length_cons, List.length_nil, List.length_replicate]; omega) | skip)
      | (refine WDP.no rfl rfl ?_)
      | (refine WDW.see rfl ?_)
      | (refine WDW.x rfl rfl ?_ (fun x => ?_); first | exact trivial | exact rfl | assumption | omega | (refine ⟨?_, ?_⟩ <;> omega) | (simp only [Room, List.length_set, List.length_append, List.length_cons, List.length_nil, List.length_replicate]; omega) | skip)
      | (refine WDW.st rfl ?_ ?_; first | exact trivial | exact rfl | assumption | omega | (refine ⟨?_, ?_⟩ <;> omega) | (simp only [Room, List.length_set, List.length_append, List.length_cons, List.length_nil, List.length_replicate]; omega) | skip)
      | (guard_target =~ WDE _ _ _ _ _ _ _ ⟨_, .call ⟨.value (.func 35), _, _⟩, _, _, _, _⟩ _ _ _; refine WDE.call rfl rfl (live_tr _ _ _) ?_ ?_; (intro x w h; exact Ent.drop1.sl h); rintro ⟨⟩)
      | (guard_target =~ WDW _ _ _ _ _ _ _ ⟨_, .call ⟨.value (.func 35), _, _⟩, _, _, _, _⟩ _ _ _; refine WDW.call rfl rfl (live_tr _ _ _) ?_; rintro ⟨⟩)
      | (refine WDQ.no rfl rfl ?_)
      | (refine WDQ.yes rfl rfl ?_ ?_; (first | assumption | omega | (refine fun h => h ?_; assumption) | (simp only [List.length_append, List.length_cons, List.length_nil, List.length_set] <;> omega)))
      | (refine WDQ.nay rfl rfl ?_ ?_; (first | assumption | omega | (refine fun h => h ?_; assumption) | (simp only [List.length_append, List.length_cons, List.length_nil, List.length_set] <;> omega)))
      | (refine WDQ.both rfl rfl ?_ ?_ <;> intro hg)
      | (refine WDP.yes rfl rfl ?_ ?_; (first | assumption | omega | (refine fun h => h ?_; assumption) | (simp only [List.length_append, List.length_cons, List.length_nil, List.length_set] <;> omega)))
      | (refine WDP.nay rfl rfl ?_ ?_; (first | assumption | omega | (refine fun h => h ?_; assumption) | (simp only [List.length_append, List.length_cons, List.length_nil, List.length_set] <;> omega)))
      | (refine WDP.both rfl rfl ?_ ?_ <;> intro hg))
    exact QQ.end_ rfl () rfl fun w h => h
  by_cases hok : (1 ≤ size ∧ size ≤ 65536) ∧ (1 ≤ most ∧ most ≤ 1048576)
  · have b1 : ¬ size < 1 := by omega
    have b2 : ¬ 65536 < size := by omega
    have b3 : ¬ most < 1 := by omega
    have b4 : ¬ 1048576 < most := by omega
    repeat' (first
      | (guard_target =~ WLA _ _ _ _ _ (⟨_, .pick _ _ _, _, _, _, _⟩ :: _) _ _; first | refine WLA.pickT (by decide) ?_ | refine WLA.pickF (by decide) ?_)
      | (refine WLA.m rfl rfl ?_ ?_; first | exact trivial | exact rfl | assumption | omega | (refine ⟨?_, ?_⟩ <;> omega) | (simp only [Room, List.length_set, List.length_append, List.length_cons, List.length_nil, List.length_replicate]; omega) | skip)
      | (refine WLA.nil ?_)
      | (refine WPA.region ?_)
      | (refine WPA.seq ?_)
      | (refine QQ.seq_normal ?_)
      | (refine WPA.skip ?_)
      | (refine WPA.block ?_)
      | (refine WPA.ret ?_)
      | (refine WPA.exit ?_)
      | (refine QQ.seq_ret ?_)
      | (refine QQ.seq_exit ?_)
      | (refine QQ.block_normal ?_)
      | (refine QQ.block_ret ?_)
      | (refine QQ.block_hit ?_)
      | (refine QQ.block_miss rfl ?_)
      | (refine QQ.loop_ret ?_)
      | (refine QQ.loop_exit ?_)
      | (guard_target =~ WLA _ _ _ _ _ (⟨_, .call ⟨.value (.func 36), _, _⟩, _, _, _, _⟩ :: _) _ _; first | (refine WLA.call rfl rfl (New_tr _ _ _ hok.1 hok.2) ?_; rintro S) | (refine WLA.call0 rfl (New_tr _ _ _ hok.1 hok.2) ?_; rintro S))
      | (refine WLA.st rfl ?_ ?_; first | exact trivial | exact rfl | assumption | omega | (refine ⟨?_, ?_⟩ <;> omega) | (simp only [Room, List.length_set, List.length_append, List.length_cons, List.length_nil, List.length_replicate]; omega) | skip)
      | (refine WLA.x rfl rfl ?_ (fun x => ?_); first | exact trivial | exact rfl | assumption | omega | (refine ⟨?_, ?_⟩ <;> omega) | (simp only [Room, List.length_set, List.length_append, List.length_cons, List.length_nil, List.length_replicate]; omega) | skip)
      | (refine WLA.x0 rfl ?_ (fun x => ?_); first | exact trivial | exact rfl | assumption | omega | (refine ⟨?_, ?_⟩ <;> omega) | (simp only [Room, List.length_set, List.length_append, List.length_cons, List.length_nil, List.length_replicate]; omega) | skip)
      | (guard_target =~ WPA _ _ _ (.cond _ _ _) _ _ _; first | (refine WPA.ifT ?_) | (refine WPA.ifF ?_) | (refine WPA.ifYes ?_ ?_; (first | assumption | omega | (refine fun h => h ?_; assumption) | (simp only [List.length_append, List.length_cons, List.length_nil, List.length_set] <;> omega))) | (refine WPA.ifNo ?_ ?_; (first | assumption | omega | (refine fun h => h ?_; assumption) | (simp only [List.length_append, List.length_cons, List.length_nil, List.length_set] <;> omega))) | (refine WPA.ifBt ?_ ?_; assumption) | (refine WPA.ifBf ?_ ?_; assumption) | (refine WPA.ifBnt ?_ ?_; assumption) | (refine WPA.ifBnf ?_ ?_; assumption) | (refine WPA.ifs ?_ ?_ <;> intro hc) | (refine WPA.ifB ?_ ?_ <;> intro hc))
      | (guard_target =~ WLA _ _ _ _ _ (⟨_, _, _, _, _, some _⟩ :: _) _ _; first | (refine WLA.no rfl rfl ?_) | (refine WLA.yes rfl rfl ?_ ?_; (first | assumption | omega | (refine fun h => h ?_; assumption) | (simp only [List.length_append, List.length_cons, List.length_nil, List.length_set] <;> omega))) | (refine WLA.nay rfl rfl ?_ ?_; (first | assumption | omega | (refine fun h => h ?_; assumption) | (simp only [List.length_append, List.length_cons, List.length_nil, List.length_set] <;> omega))) | (refine WLA.both rfl rfl ?_ ?_ <;> intro hg) | (refine WLA.bothB rfl rfl ?_ ?_ <;> intro hg))
      | (guard_target =~ WPA _ _ _ (.region 14 _ true) _ _ _; refine WPA.drawT 31 (.p 0 (.p 1 (.p 2 (.p 3 (.q 4 (.q 5 (.w 6 (.p 7 (.p 8 (.p 9 (.p 11 (.w 10 (.w 12 (.p 13 (.p 14 (.p 15 (.p 16 (.p 18 (.p 19 (.w 17 (.w 20 (.p 21 (.p 22 (.p 23 (.p 24 (.p 25 (.p 27 (.p 28 (.p 29 (.p 30 (.w 26 .fin))))))))))))))))))))))))))))))) mixed ?_ ?_; kernel_rfl)
      | (refine WDA.finish (tl := [⟨_, _, _, _, _, _⟩, ⟨_, _, _, _, _, _⟩]) rfl ?_)
      | (refine WDQ.see rfl ?_)
      | (refine WDQ.m rfl rfl ?_ ?_; first | exact trivial | exact rfl | assumption | omega | (refine ⟨?_, ?_⟩ <;> omega) | (simp only [Room, List.length_set, List.length_append, List.length_cons, List.length_nil, List.length_replicate]; omega) | skip)
      | (refine WDP.see rfl ?_)
      | (refine WDP.m rfl rfl ?_ ?_; first | exact trivial | exact rfl | assumption | omega | (refine ⟨?_, ?_⟩ <;> omega) | (simp only [Room, List.length_set, List.length_append, List.length_cons, List.length_nil, List.length_replicate]; omega) | skip)
      | (refine WDP.no rfl rfl ?_)
      | (refine WDW.see rfl ?_)
      | (refine WDW.x rfl rfl ?_ (fun x => ?_); first | exact trivial | exact rfl | assumption | omega | (refine ⟨?_, ?_⟩ <;> omega) | (simp only [Room, List.length_set, List.length_append, List.length_cons, List.length_nil, List.length_replicate]; omega) | skip)
      | (refine WDW.st rfl ?_ ?_; first | exact trivial | exact rfl | assumption | omega | (refine ⟨?_, ?_⟩ <;> omega) | (simp only [Room, List.length_set, List.length_append, List.length_cons, List.length_nil, List.length_replicate]; omega) | skip)
      | (guard_target =~ WDE _ _ _ _ _ _ _ ⟨_, .call ⟨.value (.func 36), _, _⟩, _, _, _, _⟩ _ _ _; refine WDE.call rfl rfl (New_tr _ _ _ hok.1 hok.2) ?_ ?_; (intro x w h; exact Ent.drop1.sl h); rintro S)
      | (guard_target =~ WDW _ _ _ _ _ _ _ ⟨_, .call ⟨.value (.func 36), _, _⟩, _, _, _, _⟩ _ _ _; refine WDW.call rfl rfl (New_tr _ _ _ hok.1 hok.2) ?_; rintro S)
      | (refine WDQ.no rfl rfl ?_)
      | (refine WDQ.yes rfl rfl ?_ ?_; (first | assumption | omega | (refine fun h => h ?_; assumption) | (simp only [List.length_append, List.length_cons, List.length_nil, List.length_set] <;> omega)))
      | (refine WDQ.nay rfl rfl ?_ ?_; (first | assumption | omega | (refine fun h => h ?_; assumption) | (simp only [List.length_append, List.length_cons, List.length_nil, List.length_set] <;> omega)))
      | (refine WDQ.both rfl rfl ?_ ?_ <;> intro hg)
      | (refine WDP.yes rfl rfl ?_ ?_; (first | assumption | omega | (refine fun h => h ?_; assumption) | (simp only [List.length_append, List.length_cons, List.length_nil, List.length_set] <;> omega)))
      | (refine WDP.nay rfl rfl ?_ ?_; (first | assumption | omega | (refine fun h => h ?_; assumption) | (simp only [List.length_append, List.length_cons, List.length_nil, List.length_set] <;> omega)))
      | (refine WDP.both rfl rfl ?_ ?_ <;> intro hg))
    revert x; intro R
    refine WPA.ent (L' := [RefR R ⟨size, most, [], [], 0⟩, StoreR S ⟨size, most, [], [], 0, 0, 0⟩]) ((Ent.take Take.here (Ent.ownNil (Ent.ownNil Ent.refl))).trans (RefR.fold (x := ⟨size, most, [], [], 0⟩) (p := SV.nil) (q := SV.nil) rfl)) ?_
    refine WPA.loopS (σ := PB) (fun x => [(0, .int .i64 size), (1, .int .i64 most), (2, .slice s.a s.n s.cap), (7, .pointer (some ⟨S, 0, none⟩)), (9, .pointer (some ⟨R, 0, none⟩)), (10, .int .i64 x.i)]) (fun x => x.i ≤ acts.length ∧ (x.m.Ok ∧ Rel x.m x.r) ∧ (x.m.tk.length ≤ x.i ∧ x.m.most = most ∧ x.m.size = size))
      (fun x => SL w0 I [RefR R x.r, StoreR S x.m]) (fun x => acts.length - x.i) ⟨0, ⟨size, most, [], [], 0, 0, 0⟩, ⟨size, most, [], [], 0⟩⟩ ⟨rfl, rfl, rfl, rfl, rfl, rfl, trivial⟩ ⟨Nat.zero_le _, ⟨BS.Ok.new hok.1 hok.2, ⟨rfl, rfl, rfl, rfl, rfl, fun i h => by simp at h⟩⟩, by simp, rfl, rfl⟩ (fun w h => h.to) ?_
    rintro ⟨i, m, r⟩ ρ ⟨hi, ⟨ok, rel⟩, hl, hm, hz⟩
    dsimp only at hi ok rel hl hm hz ⊢
    by_cases hlt : i < acts.length
    · have hlt' : (i : Int) < acts.length := by omega
      have ok' := next_ok (k := (at_ acts (i : Int)).1) (id := (at_ acts (i : Int)).2.1) (t := (at_ acts (i : Int)).2.2) ok
      have rel' := next_rel (k := (at_ acts (i : Int)).1) (id := (at_ acts (i : Int)).2.1) (t := (at_ acts (i : Int)).2.2) ok rel
      have hn := next_nums (m := m) (k := (at_ acts (i : Int)).1) (id := (at_ acts (i : Int)).2.1) (t := (at_ acts (i : Int)).2.2)
      have hU : (nextM m (at_ acts (i : Int)).1 (at_ acts (i : Int)).2.1 (at_ acts (i : Int)).2.2).used = ((nextR r (at_ acts (i : Int)).1 (at_ acts (i : Int)).2.1 (at_ acts (i : Int)).2.2).tk.count true : Nat) := by rw [rel'.tk]; exact ok'.used
      have hP := rel'.peak
      have hlr : (nextR r (at_ acts (i : Int)).1 (at_ acts (i : Int)).2.1 (at_ acts (i : Int)).2.2).tk.length ≤ 1000 := by rw [rel'.tk]; omega
      have hu0 := ok'.used0
      have hum := ok'.um
      repeat' (first
        | (refine WLA.m rfl rfl ?_ ?_; first | exact trivial | exact rfl | assumption | omega | (refine ⟨?_, ?_⟩ <;> omega) | (simp only [Room, List.length_set, List.length_append, List.length_cons, List.length_nil, List.length_replicate]; omega) | skip)
        | (refine WLA.nil ?_)
        | (refine WPA.region ?_)
        | (refine WPA.seq ?_)
        | (refine QQ.seq_normal ?_)
        | (refine WPA.skip ?_)
        | (refine WPA.block ?_)
        | (refine WPA.ret ?_)
        | (refine WPA.exit ?_)
        | (refine QQ.seq_ret ?_)
        | (refine QQ.seq_exit ?_)
        | (refine QQ.block_normal ?_)
        | (refine QQ.block_ret ?_)
        | (refine QQ.block_hit ?_)
        | (refine QQ.block_miss rfl ?_)
        | (refine QQ.loop_ret ?_)
        | (refine QQ.loop_exit ?_)
        | (guard_target =~ WLA _ _ _ _ _ (⟨_, .call ⟨.value (.func 35), _, _⟩, _, _, _, _⟩ :: _) _ _; first | (refine WLA.call rfl rfl (live_tr _ _ _) ?_; rintro ⟨⟩) | (refine WLA.call0 rfl (live_tr _ _ _) ?_; rintro ⟨⟩))
        | (guard_target =~ WLA _ _ _ _ _ (⟨_, .call ⟨.value (.func 42), _, _⟩, _, _, _, _⟩ :: _) _ _; first | (refine WLA.call rfl rfl (does_tr ok rel (by omega)) ?_; rintro ⟨⟩) | (refine WLA.call0 rfl (does_tr ok rel (by omega)) ?_; rintro ⟨⟩))
        | (guard_target =~ WLA _ _ _ _ _ (⟨_, .call ⟨.value (.func 43), _, _⟩, _, _, _, _⟩ :: _) _ _; refine WLA.cq rfl rfl (Used_tr) ?_)
        | (guard_target =~ WLA _ _ _ _ _ (⟨_, .call ⟨.value (.func 44), _, _⟩, _, _, _, _⟩ :: _) _ _; refine WLA.cq rfl rfl (rUsed_tr (by omega)) ?_)
        | (guard_target =~ WLA _ _ _ _ _ (⟨_, .call ⟨.value (.func 45), _, _⟩, _, _, _, _⟩ :: _) _ _; refine WLA.cq rfl rfl (Left_tr (by omega) (by omega)) ?_)
        | (guard_target =~ WLA _ _ _ _ _ (⟨_, .call ⟨.value (.func 46), _, _⟩, _, _, _, _⟩ :: _) _ _; refine WLA.cq rfl rfl (Peak_tr) ?_)
        | (refine WLA.st rfl ?_ ?_; first | exact trivial | exact rfl | assumption | omega | (refine ⟨?_, ?_⟩ <;> omega) | (simp only [Room, List.length_set, List.length_append, List.length_cons, List.length_nil, List.length_replicate]; omega) | skip)
        | (refine WLA.x rfl rfl ?_ (fun x => ?_); first | exact trivial | exact rfl | assumption | omega | (refine ⟨?_, ?_⟩ <;> omega) | (simp only [Room, List.length_set, List.length_append, List.length_cons, List.length_nil, List.length_replicate]; omega) | skip)
        | (refine WLA.x0 rfl ?_ (fun x => ?_); first | exact trivial | exact rfl | assumption | omega | (refine ⟨?_, ?_⟩ <;> omega) | (simp only [Room, List.length_set, List.length_append, List.length_cons, List.length_nil, List.length_replicate]; omega) | skip)
        | (guard_target =~ WPA _ _ _ (.cond _ _ _) _ _ _; first | (refine WPA.ifT ?_) | (refine WPA.ifF ?_) | (refine WPA.ifYes ?_ ?_; (first | assumption | omega | (refine fun h => h ?_; assumption) | (simp only [List.length_append, List.length_cons, List.length_nil, List.length_set] <;> omega))) | (refine WPA.ifNo ?_ ?_; (first | assumption | omega | (refine fun h => h ?_; assumption) | (simp only [List.length_append, List.length_cons, List.length_nil, List.length_set] <;> omega))) | (refine WPA.ifBt ?_ ?_; assumption) | (refine WPA.ifBf ?_ ?_; assumption) | (refine WPA.ifBnt ?_ ?_; assumption) | (refine WPA.ifBnf ?_ ?_; assumption) | (refine WPA.ifs ?_ ?_ <;> intro hc) | (refine WPA.ifB ?_ ?_ <;> intro hc))
        | (guard_target =~ WLA _ _ _ _ _ (⟨_, _, _, _, _, some _⟩ :: _) _ _; first | (refine WLA.no rfl rfl ?_) | (refine WLA.yes rfl rfl ?_ ?_; (first | assumption | omega | (refine fun h => h ?_; assumption) | (simp only [List.length_append, List.length_cons, List.length_nil, List.length_set] <;> omega))) | (refine WLA.nay rfl rfl ?_ ?_; (first | assumption | omega | (refine fun h => h ?_; assumption) | (simp only [List.length_append, List.length_cons, List.length_nil, List.length_set] <;> omega))) | (refine WLA.both rfl rfl ?_ ?_ <;> intro hg) | (refine WLA.bothB rfl rfl ?_ ?_ <;> intro hg))
        | (guard_target =~ WPA _ _ _ (.region 14 _ true) _ _ _; refine WPA.drawT 31 (.p 0 (.p 1 (.p 2 (.p 3 (.q 4 (.q 5 (.w 6 (.p 7 (.p 8 (.p 9 (.q 10 (.p 11 (.q 12 (.p 13 (.p 14 (.p 15 (.p 16 (.q 17 (.p 18 (.p 19 (.q 20 (.p 21 (.p 22 (.p 23 (.p 24 (.p 25 (.q 26 (.p 27 (.p 28 (.p 29 (.q 30 .fin))))))))))))))))))))))))))))))) mixed ?_ ?_; kernel_rfl)
        | (refine WDA.finish (tl := [⟨_, _, _, _, _, _⟩, ⟨_, _, _, _, _, _⟩]) rfl ?_)
        | (refine WDQ.see rfl ?_)
        | (refine WDQ.m rfl rfl ?_ ?_; first | exact trivial | exact rfl | assumption | omega | (refine ⟨?_, ?_⟩ <;> omega) | (simp only [Room, List.length_set, List.length_append, List.length_cons, List.length_nil, List.length_replicate]; omega) | skip)
        | (refine WDP.see rfl ?_)
        | (refine WDP.m rfl rfl ?_ ?_; first | exact trivial | exact rfl | assumption | omega | (refine ⟨?_, ?_⟩ <;> omega) | (simp only [Room, List.length_set, List.length_append, List.length_cons, List.length_nil, List.length_replicate]; omega) | skip)
        | (refine WDP.no rfl rfl ?_)
        | (refine WDW.see rfl ?_)
        | (refine WDW.x rfl rfl ?_ (fun x => ?_); first | exact trivial | exact rfl | assumption | omega | (refine ⟨?_, ?_⟩ <;> omega) | (simp only [Room, List.length_set, List.length_append, List.length_cons, List.length_nil, List.length_replicate]; omega) | skip)
        | (refine WDW.st rfl ?_ ?_; first | exact trivial | exact rfl | assumption | omega | (refine ⟨?_, ?_⟩ <;> omega) | (simp only [Room, List.length_set, List.length_append, List.length_cons, List.length_nil, List.length_replicate]; omega) | skip)
        | (guard_target =~ WDE _ _ _ _ _ _ _ ⟨_, .call ⟨.value (.func 35), _, _⟩, _, _, _, _⟩ _ _ _; refine WDE.call rfl rfl (live_tr _ _ _) ?_ ?_; (intro x w h; exact Ent.drop1.sl h); rintro ⟨⟩)
        | (guard_target =~ WDW _ _ _ _ _ _ _ ⟨_, .call ⟨.value (.func 35), _, _⟩, _, _, _, _⟩ _ _ _; refine WDW.call rfl rfl (live_tr _ _ _) ?_; rintro ⟨⟩)
        | (guard_target =~ WDE _ _ _ _ _ _ _ ⟨_, .call ⟨.value (.func 42), _, _⟩, _, _, _, _⟩ _ _ _; refine WDE.call rfl rfl (does_tr ok rel (by omega)) ?_ ?_; (intro x w h; exact Ent.drop1.sl h); rintro ⟨⟩)
        | (guard_target =~ WDW _ _ _ _ _ _ _ ⟨_, .call ⟨.value (.func 42), _, _⟩, _, _, _, _⟩ _ _ _; refine WDW.call rfl rfl (does_tr ok rel (by omega)) ?_; rintro ⟨⟩)
        | (guard_target =~ WDQ _ _ _ _ _ _ _ ⟨_, .call ⟨.value (.func 43), _, _⟩, _, _, _, _⟩ _ _ _; refine WDQ.cq rfl rfl (Used_tr) ?_)
        | (guard_target =~ WDQ _ _ _ _ _ _ _ ⟨_, .call ⟨.value (.func 44), _, _⟩, _, _, _, _⟩ _ _ _; refine WDQ.cq rfl rfl (rUsed_tr (by omega)) ?_)
        | (guard_target =~ WDQ _ _ _ _ _ _ _ ⟨_, .call ⟨.value (.func 45), _, _⟩, _, _, _, _⟩ _ _ _; refine WDQ.cq rfl rfl (Left_tr (by omega) (by omega)) ?_)
        | (guard_target =~ WDQ _ _ _ _ _ _ _ ⟨_, .call ⟨.value (.func 46), _, _⟩, _, _, _, _⟩ _ _ _; refine WDQ.cq rfl rfl (Peak_tr) ?_)
        | (refine WDQ.no rfl rfl ?_)
        | (refine WDQ.yes rfl rfl ?_ ?_; (first | assumption | omega | (refine fun h => h ?_; assumption) | (simp only [List.length_append, List.length_cons, List.length_nil, List.length_set] <;> omega)))
        | (refine WDQ.nay rfl rfl ?_ ?_; (first | assumption | omega | (refine fun h => h ?_; assumption) | (simp only [List.length_append, List.length_cons, List.length_nil, List.length_set] <;> omega)))
        | (refine WDQ.both rfl rfl ?_ ?_ <;> intro hg)
        | (refine WDP.yes rfl rfl ?_ ?_; (first | assumption | omega | (refine fun h => h ?_; assumption) | (simp only [List.length_append, List.length_cons, List.length_nil, List.length_set] <;> omega)))
        | (refine WDP.nay rfl rfl ?_ ?_; (first | assumption | omega | (refine fun h => h ?_; assumption) | (simp only [List.length_append, List.length_cons, List.length_nil, List.length_set] <;> omega)))
        | (refine WDP.both rfl rfl ?_ ?_ <;> intro hg))
      all_goals first
        | exact QQ.end_ rfl () rfl fun w h => h.to
        | exact QQ.loopS ⟨i + 1, nextM m (at_ acts (i : Int)).1 (at_ acts (i : Int)).2.1 (at_ acts (i : Int)).2.2, nextR r (at_ acts (i : Int)).1 (at_ acts (i : Int)).2.1 (at_ acts (i : Int)).2.2⟩ ⟨rfl, rfl, rfl, rfl, rfl, rfl, trivial⟩ ⟨hlt, ⟨ok', rel'⟩, by have := hn.1; dsimp only; omega, hn.2.1.trans hm, hn.2.2.trans hz⟩ (by dsimp only; omega) (fun w h => h.to)
    · skip
      repeat' (first
        | (refine WLA.m rfl rfl ?_ ?_; first | exact trivial | exact rfl | assumption | omega | (refine ⟨?_, ?_⟩ <;> omega) | (simp only [Room, List.length_set, List.length_append, List.length_cons, List.length_nil, List.length_replicate]; omega) | skip)
        | (refine WLA.nil ?_)
        | (refine WPA.region ?_)
        | (refine WPA.seq ?_)
        | (refine QQ.seq_normal ?_)
        | (refine WPA.skip ?_)
        | (refine WPA.block ?_)
        | (refine WPA.ret ?_)
        | (refine WPA.exit ?_)
        | (refine QQ.seq_ret ?_)
        | (refine QQ.seq_exit ?_)
        | (refine QQ.block_normal ?_)
        | (refine QQ.block_ret ?_)
        | (refine QQ.block_hit ?_)
        | (refine QQ.block_miss rfl ?_)
        | (refine QQ.loop_ret ?_)
        | (refine QQ.loop_exit ?_)
        | (refine WLA.st rfl ?_ ?_; first | exact trivial | exact rfl | assumption | omega | (refine ⟨?_, ?_⟩ <;> omega) | (simp only [Room, List.length_set, List.length_append, List.length_cons, List.length_nil, List.length_replicate]; omega) | skip)
        | (refine WLA.x rfl rfl ?_ (fun x => ?_); first | exact trivial | exact rfl | assumption | omega | (refine ⟨?_, ?_⟩ <;> omega) | (simp only [Room, List.length_set, List.length_append, List.length_cons, List.length_nil, List.length_replicate]; omega) | skip)
        | (refine WLA.x0 rfl ?_ (fun x => ?_); first | exact trivial | exact rfl | assumption | omega | (refine ⟨?_, ?_⟩ <;> omega) | (simp only [Room, List.length_set, List.length_append, List.length_cons, List.length_nil, List.length_replicate]; omega) | skip)
        | (guard_target =~ WPA _ _ _ (.cond _ _ _) _ _ _; first | (refine WPA.ifT ?_) | (refine WPA.ifF ?_) | (refine WPA.ifYes ?_ ?_; (first | assumption | omega | (refine fun h => h ?_; assumption) | (simp only [List.length_append, List.length_cons, List.length_nil, List.length_set] <;> omega))) | (refine WPA.ifNo ?_ ?_; (first | assumption | omega | (refine fun h => h ?_; assumption) | (simp only [List.length_append, List.length_cons, List.length_nil, List.length_set] <;> omega))) | (refine WPA.ifBt ?_ ?_; assumption) | (refine WPA.ifBf ?_ ?_; assumption) | (refine WPA.ifBnt ?_ ?_; assumption) | (refine WPA.ifBnf ?_ ?_; assumption) | (refine WPA.ifs ?_ ?_ <;> intro hc) | (refine WPA.ifB ?_ ?_ <;> intro hc))
        | (guard_target =~ WLA _ _ _ _ _ (⟨_, _, _, _, _, some _⟩ :: _) _ _; first | (refine WLA.no rfl rfl ?_) | (refine WLA.yes rfl rfl ?_ ?_; (first | assumption | omega | (refine fun h => h ?_; assumption) | (simp only [List.length_append, List.length_cons, List.length_nil, List.length_set] <;> omega))) | (refine WLA.nay rfl rfl ?_ ?_; (first | assumption | omega | (refine fun h => h ?_; assumption) | (simp only [List.length_append, List.length_cons, List.length_nil, List.length_set] <;> omega))) | (refine WLA.both rfl rfl ?_ ?_ <;> intro hg) | (refine WLA.bothB rfl rfl ?_ ?_ <;> intro hg))
        | (guard_target =~ WPA _ _ _ (.region 14 _ true) _ _ _; refine WPA.drawT 31 (.p 0 (.p 1 (.p 2 (.p 3 (.q 4 (.q 5 (.w 6 (.p 7 (.p 8 (.p 9 (.p 11 (.w 10 (.w 12 (.p 13 (.p 14 (.p 15 (.p 16 (.p 18 (.p 19 (.w 17 (.w 20 (.p 21 (.p 22 (.p 23 (.p 24 (.p 25 (.p 27 (.p 28 (.p 29 (.p 30 (.w 26 .fin))))))))))))))))))))))))))))))) mixed ?_ ?_; kernel_rfl)
        | (refine WDA.finish (tl := [⟨_, _, _, _, _, _⟩, ⟨_, _, _, _, _, _⟩]) rfl ?_)
        | (refine WDQ.see rfl ?_)
        | (refine WDQ.m rfl rfl ?_ ?_; first | exact trivial | exact rfl | assumption | omega | (refine ⟨?_, ?_⟩ <;> omega) | (simp only [Room, List.length_set, List.length_append, List.length_cons, List.length_nil, List.length_replicate]; omega) | skip)
        | (refine WDP.see rfl ?_)
        | (refine WDP.m rfl rfl ?_ ?_; first | exact trivial | exact rfl | assumption | omega | (refine ⟨?_, ?_⟩ <;> omega) | (simp only [Room, List.length_set, List.length_append, List.length_cons, List.length_nil, List.length_replicate]; omega) | skip)
        | (refine WDP.no rfl rfl ?_)
        | (refine WDW.see rfl ?_)
        | (refine WDW.x rfl rfl ?_ (fun x => ?_); first | exact trivial | exact rfl | assumption | omega | (refine ⟨?_, ?_⟩ <;> omega) | (simp only [Room, List.length_set, List.length_append, List.length_cons, List.length_nil, List.length_replicate]; omega) | skip)
        | (refine WDW.st rfl ?_ ?_; first | exact trivial | exact rfl | assumption | omega | (refine ⟨?_, ?_⟩ <;> omega) | (simp only [Room, List.length_set, List.length_append, List.length_cons, List.length_nil, List.length_replicate]; omega) | skip)
        | (refine WDQ.no rfl rfl ?_)
        | (refine WDQ.yes rfl rfl ?_ ?_; (first | assumption | omega | (refine fun h => h ?_; assumption) | (simp only [List.length_append, List.length_cons, List.length_nil, List.length_set] <;> omega)))
        | (refine WDQ.nay rfl rfl ?_ ?_; (first | assumption | omega | (refine fun h => h ?_; assumption) | (simp only [List.length_append, List.length_cons, List.length_nil, List.length_set] <;> omega)))
        | (refine WDQ.both rfl rfl ?_ ?_ <;> intro hg)
        | (refine WDP.yes rfl rfl ?_ ?_; (first | assumption | omega | (refine fun h => h ?_; assumption) | (simp only [List.length_append, List.length_cons, List.length_nil, List.length_set] <;> omega)))
        | (refine WDP.nay rfl rfl ?_ ?_; (first | assumption | omega | (refine fun h => h ?_; assumption) | (simp only [List.length_append, List.length_cons, List.length_nil, List.length_set] <;> omega)))
        | (refine WDP.both rfl rfl ?_ ?_ <;> intro hg))
      refine WPA.loopS (σ := Nat) (fun x => [(0, .int .i64 size), (7, .pointer (some ⟨S, 0, none⟩)), (9, .pointer (some ⟨R, 0, none⟩)), (11, .int .i64 x)]) (fun x => x ≤ r.tk.length)
        (fun x => SL w0 I [RefR R r, StoreR S m]) (fun x => r.tk.length - x) 0 ⟨rfl, rfl, rfl, rfl, trivial⟩ (Nat.zero_le _) (fun w h => h.to) ?_
      intro j ρ hj
      have htl : r.tk.length ≤ 60 := by rw [rel.tk]; omega
      have hrr : readT m j = readT m j := rfl
      refine WPA.opn ?_
      rintro ⟨⟨p, q⟩, hl2⟩
      dsimp only
      by_cases hlt2 : (j : Int) < r.tk.length
      · skip
        repeat' ((fail_if_success (guard_target =~ WPA _ _ _ (.region 19 _ _) _ _ _)); first
          | (refine WLA.m rfl rfl ?_ ?_; first | exact trivial | exact rfl | assumption | omega | (refine ⟨?_, ?_⟩ <;> omega) | (simp only [Room, List.length_set, List.length_append, List.length_cons, List.length_nil, List.length_replicate]; omega) | skip)
          | (refine WLA.nil ?_)
          | (refine WPA.region ?_)
          | (refine WPA.seq ?_)
          | (refine QQ.seq_normal ?_)
          | (refine WPA.skip ?_)
          | (refine WPA.block ?_)
          | (refine WPA.ret ?_)
          | (refine WPA.exit ?_)
          | (refine QQ.seq_ret ?_)
          | (refine QQ.seq_exit ?_)
          | (refine QQ.block_normal ?_)
          | (refine QQ.block_ret ?_)
          | (refine QQ.block_hit ?_)
          | (refine QQ.block_miss rfl ?_)
          | (refine QQ.loop_ret ?_)
          | (refine QQ.loop_exit ?_)
          | (refine WLA.st rfl ?_ ?_; first | exact trivial | exact rfl | assumption | omega | (refine ⟨?_, ?_⟩ <;> omega) | (simp only [Room, List.length_set, List.length_append, List.length_cons, List.length_nil, List.length_replicate]; omega) | skip)
          | (refine WLA.x rfl rfl ?_ (fun x => ?_); first | exact trivial | exact rfl | assumption | omega | (refine ⟨?_, ?_⟩ <;> omega) | (simp only [Room, List.length_set, List.length_append, List.length_cons, List.length_nil, List.length_replicate]; omega) | skip)
          | (refine WLA.x0 rfl ?_ (fun x => ?_); first | exact trivial | exact rfl | assumption | omega | (refine ⟨?_, ?_⟩ <;> omega) | (simp only [Room, List.length_set, List.length_append, List.length_cons, List.length_nil, List.length_replicate]; omega) | skip)
          | (guard_target =~ WPA _ _ _ (.cond _ _ _) _ _ _; first | (refine WPA.ifT ?_) | (refine WPA.ifF ?_) | (refine WPA.ifYes ?_ ?_; (first | assumption | omega | (refine fun h => h ?_; assumption) | (simp only [List.length_append, List.length_cons, List.length_nil, List.length_set] <;> omega))) | (refine WPA.ifNo ?_ ?_; (first | assumption | omega | (refine fun h => h ?_; assumption) | (simp only [List.length_append, List.length_cons, List.length_nil, List.length_set] <;> omega))) | (refine WPA.ifBt ?_ ?_; assumption) | (refine WPA.ifBf ?_ ?_; assumption) | (refine WPA.ifBnt ?_ ?_; assumption) | (refine WPA.ifBnf ?_ ?_; assumption) | (refine WPA.ifs ?_ ?_ <;> intro hc) | (refine WPA.ifB ?_ ?_ <;> intro hc)))
        refine WPA.ent (L' := [RefR R r, StoreR S m]) (RefR.fold (p := p) (q := q) hl2) ?_
        repeat' (first
          | (refine WLA.m rfl rfl ?_ ?_; first | exact trivial | exact rfl | assumption | omega | (refine ⟨?_, ?_⟩ <;> omega) | (simp only [Room, List.length_set, List.length_append, List.length_cons, List.length_nil, List.length_replicate]; omega) | skip)
          | (refine WLA.nil ?_)
          | (refine WPA.region ?_)
          | (refine WPA.seq ?_)
          | (refine QQ.seq_normal ?_)
          | (refine WPA.skip ?_)
          | (refine WPA.block ?_)
          | (refine WPA.ret ?_)
          | (refine WPA.exit ?_)
          | (refine QQ.seq_ret ?_)
          | (refine QQ.seq_exit ?_)
          | (refine QQ.block_normal ?_)
          | (refine QQ.block_ret ?_)
          | (refine QQ.block_hit ?_)
          | (refine QQ.block_miss rfl ?_)
          | (refine QQ.loop_ret ?_)
          | (refine QQ.loop_exit ?_)
          | (guard_target =~ WLA _ _ _ _ _ (⟨_, .call ⟨.value (.func 40), _, _⟩, _, _, _, _⟩ :: _) _ _; first | (refine WLA.call rfl rfl (Read_k) ?_; rintro ⟨⟩) | (refine WLA.call0 rfl (Read_k) ?_; rintro ⟨⟩))
          | (guard_target =~ WLA _ _ _ _ _ (⟨_, .call ⟨.value (.func 47), _, _⟩, _, _, _, _⟩ :: _) _ _; first | (refine WLA.call rfl rfl (rRead_k rel ok.lens) ?_; rintro ⟨⟩) | (refine WLA.call0 rfl (rRead_k rel ok.lens) ?_; rintro ⟨⟩))
          | (refine WLA.st rfl ?_ ?_; first | exact trivial | exact rfl | assumption | omega | (refine ⟨?_, ?_⟩ <;> omega) | (simp only [Room, List.length_set, List.length_append, List.length_cons, List.length_nil, List.length_replicate]; omega) | skip)
          | (refine WLA.x rfl rfl ?_ (fun x => ?_); first | exact trivial | exact rfl | assumption | omega | (refine ⟨?_, ?_⟩ <;> omega) | (simp only [Room, List.length_set, List.length_append, List.length_cons, List.length_nil, List.length_replicate]; omega) | skip)
          | (refine WLA.x0 rfl ?_ (fun x => ?_); first | exact trivial | exact rfl | assumption | omega | (refine ⟨?_, ?_⟩ <;> omega) | (simp only [Room, List.length_set, List.length_append, List.length_cons, List.length_nil, List.length_replicate]; omega) | skip)
          | (guard_target =~ WPA _ _ _ (.cond _ _ _) _ _ _; first | (refine WPA.ifT ?_) | (refine WPA.ifF ?_) | (refine WPA.ifYes ?_ ?_; (first | assumption | omega | (refine fun h => h ?_; assumption) | (simp only [List.length_append, List.length_cons, List.length_nil, List.length_set] <;> omega))) | (refine WPA.ifNo ?_ ?_; (first | assumption | omega | (refine fun h => h ?_; assumption) | (simp only [List.length_append, List.length_cons, List.length_nil, List.length_set] <;> omega))) | (refine WPA.ifBt ?_ ?_; assumption) | (refine WPA.ifBf ?_ ?_; assumption) | (refine WPA.ifBnt ?_ ?_; assumption) | (refine WPA.ifBnf ?_ ?_; assumption) | (refine WPA.ifs ?_ ?_ <;> intro hc) | (refine WPA.ifB ?_ ?_ <;> intro hc))
          | (guard_target =~ WLA _ _ _ _ _ (⟨_, _, _, _, _, some _⟩ :: _) _ _; first | (refine WLA.no rfl rfl ?_) | (refine WLA.yes rfl rfl ?_ ?_; (first | assumption | omega | (refine fun h => h ?_; assumption) | (simp only [List.length_append, List.length_cons, List.length_nil, List.length_set] <;> omega))) | (refine WLA.nay rfl rfl ?_ ?_; (first | assumption | omega | (refine fun h => h ?_; assumption) | (simp only [List.length_append, List.length_cons, List.length_nil, List.length_set] <;> omega))) | (refine WLA.both rfl rfl ?_ ?_ <;> intro hg) | (refine WLA.bothB rfl rfl ?_ ?_ <;> intro hg)))
        exact QQ.loopS (j + 1) ⟨rfl, rfl, rfl, rfl, trivial⟩ (by omega) (by omega) (fun w h => h.to)
      · skip
        repeat' ((fail_if_success (guard_target =~ WPA _ _ _ (.region 23 _ _) _ _ _)); first
          | (refine WLA.m rfl rfl ?_ ?_; first | exact trivial | exact rfl | assumption | omega | (refine ⟨?_, ?_⟩ <;> omega) | (simp only [Room, List.length_set, List.length_append, List.length_cons, List.length_nil, List.length_replicate]; omega) | skip)
          | (refine WLA.nil ?_)
          | (refine WPA.region ?_)
          | (refine WPA.seq ?_)
          | (refine QQ.seq_normal ?_)
          | (refine WPA.skip ?_)
          | (refine WPA.block ?_)
          | (refine WPA.ret ?_)
          | (refine WPA.exit ?_)
          | (refine QQ.seq_ret ?_)
          | (refine QQ.seq_exit ?_)
          | (refine QQ.block_normal ?_)
          | (refine QQ.block_ret ?_)
          | (refine QQ.block_hit ?_)
          | (refine QQ.block_miss rfl ?_)
          | (refine QQ.loop_ret ?_)
          | (refine QQ.loop_exit ?_)
          | (refine WLA.st rfl ?_ ?_; first | exact trivial | exact rfl | assumption | omega | (refine ⟨?_, ?_⟩ <;> omega) | (simp only [Room, List.length_set, List.length_append, List.length_cons, List.length_nil, List.length_replicate]; omega) | skip)
          | (refine WLA.x rfl rfl ?_ (fun x => ?_); first | exact trivial | exact rfl | assumption | omega | (refine ⟨?_, ?_⟩ <;> omega) | (simp only [Room, List.length_set, List.length_append, List.length_cons, List.length_nil, List.length_replicate]; omega) | skip)
          | (refine WLA.x0 rfl ?_ (fun x => ?_); first | exact trivial | exact rfl | assumption | omega | (refine ⟨?_, ?_⟩ <;> omega) | (simp only [Room, List.length_set, List.length_append, List.length_cons, List.length_nil, List.length_replicate]; omega) | skip)
          | (guard_target =~ WPA _ _ _ (.cond _ _ _) _ _ _; first | (refine WPA.ifT ?_) | (refine WPA.ifF ?_) | (refine WPA.ifYes ?_ ?_; (first | assumption | omega | (refine fun h => h ?_; assumption) | (simp only [List.length_append, List.length_cons, List.length_nil, List.length_set] <;> omega))) | (refine WPA.ifNo ?_ ?_; (first | assumption | omega | (refine fun h => h ?_; assumption) | (simp only [List.length_append, List.length_cons, List.length_nil, List.length_set] <;> omega))) | (refine WPA.ifBt ?_ ?_; assumption) | (refine WPA.ifBf ?_ ?_; assumption) | (refine WPA.ifBnt ?_ ?_; assumption) | (refine WPA.ifBnf ?_ ?_; assumption) | (refine WPA.ifs ?_ ?_ <;> intro hc) | (refine WPA.ifB ?_ ?_ <;> intro hc)))
        refine WPA.ent (L' := [RefR R r, StoreR S m]) (RefR.fold (p := p) (q := q) hl2) ?_
        repeat' (first
          | (refine WLA.m rfl rfl ?_ ?_; first | exact trivial | exact rfl | assumption | omega | (refine ⟨?_, ?_⟩ <;> omega) | (simp only [Room, List.length_set, List.length_append, List.length_cons, List.length_nil, List.length_replicate]; omega) | skip)
          | (refine WLA.nil ?_)
          | (refine WPA.region ?_)
          | (refine WPA.seq ?_)
          | (refine QQ.seq_normal ?_)
          | (refine WPA.skip ?_)
          | (refine WPA.block ?_)
          | (refine WPA.ret ?_)
          | (refine WPA.exit ?_)
          | (refine QQ.seq_ret ?_)
          | (refine QQ.seq_exit ?_)
          | (refine QQ.block_normal ?_)
          | (refine QQ.block_ret ?_)
          | (refine QQ.block_hit ?_)
          | (refine QQ.block_miss rfl ?_)
          | (refine QQ.loop_ret ?_)
          | (refine QQ.loop_exit ?_)
          | (guard_target =~ WLA _ _ _ _ _ (⟨_, .call ⟨.value (.func 48), _, _⟩, _, _, _, _⟩ :: _) _ _; refine WLA.cq rfl rfl (Size_tr) ?_)
          | (guard_target =~ WLA _ _ _ _ _ (⟨_, .call ⟨.value (.func 35), _, _⟩, _, _, _, _⟩ :: _) _ _; first | (refine WLA.call rfl rfl (live_tr _ _ _) ?_; rintro ⟨⟩) | (refine WLA.call0 rfl (live_tr _ _ _) ?_; rintro ⟨⟩))
          | (refine WLA.st rfl ?_ ?_; first | exact trivial | exact rfl | assumption | omega | (refine ⟨?_, ?_⟩ <;> omega) | (simp only [Room, List.length_set, List.length_append, List.length_cons, List.length_nil, List.length_replicate]; omega) | skip)
          | (refine WLA.x rfl rfl ?_ (fun x => ?_); first | exact trivial | exact rfl | assumption | omega | (refine ⟨?_, ?_⟩ <;> omega) | (simp only [Room, List.length_set, List.length_append, List.length_cons, List.length_nil, List.length_replicate]; omega) | skip)
          | (refine WLA.x0 rfl ?_ (fun x => ?_); first | exact trivial | exact rfl | assumption | omega | (refine ⟨?_, ?_⟩ <;> omega) | (simp only [Room, List.length_set, List.length_append, List.length_cons, List.length_nil, List.length_replicate]; omega) | skip)
          | (guard_target =~ WPA _ _ _ (.cond _ _ _) _ _ _; first | (refine WPA.ifT ?_) | (refine WPA.ifF ?_) | (refine WPA.ifYes ?_ ?_; (first | assumption | omega | (refine fun h => h ?_; assumption) | (simp only [List.length_append, List.length_cons, List.length_nil, List.length_set] <;> omega))) | (refine WPA.ifNo ?_ ?_; (first | assumption | omega | (refine fun h => h ?_; assumption) | (simp only [List.length_append, List.length_cons, List.length_nil, List.length_set] <;> omega))) | (refine WPA.ifBt ?_ ?_; assumption) | (refine WPA.ifBf ?_ ?_; assumption) | (refine WPA.ifBnt ?_ ?_; assumption) | (refine WPA.ifBnf ?_ ?_; assumption) | (refine WPA.ifs ?_ ?_ <;> intro hc) | (refine WPA.ifB ?_ ?_ <;> intro hc))
          | (guard_target =~ WLA _ _ _ _ _ (⟨_, _, _, _, _, some _⟩ :: _) _ _; first | (refine WLA.no rfl rfl ?_) | (refine WLA.yes rfl rfl ?_ ?_; (first | assumption | omega | (refine fun h => h ?_; assumption) | (simp only [List.length_append, List.length_cons, List.length_nil, List.length_set] <;> omega))) | (refine WLA.nay rfl rfl ?_ ?_; (first | assumption | omega | (refine fun h => h ?_; assumption) | (simp only [List.length_append, List.length_cons, List.length_nil, List.length_set] <;> omega))) | (refine WLA.both rfl rfl ?_ ?_ <;> intro hg) | (refine WLA.bothB rfl rfl ?_ ?_ <;> intro hg)))
        exact QQ.end_ rfl () rfl fun w h => h.to
  · skip
    repeat' ((fail_if_success (guard_target =~ WPA _ _ _ (.region 6 _ _) _ _ _)); first
      | (guard_target =~ WLA _ _ _ _ _ (⟨_, .pick _ _ _, _, _, _, _⟩ :: _) _ _; first | refine WLA.pickT (by decide) ?_ | refine WLA.pickF (by decide) ?_)
      | (refine WLA.m rfl rfl ?_ ?_; first | exact trivial | exact rfl | assumption | omega | (refine ⟨?_, ?_⟩ <;> omega) | (simp only [Room, List.length_set, List.length_append, List.length_cons, List.length_nil, List.length_replicate]; omega) | skip)
      | (refine WLA.nil ?_)
      | (refine WPA.region ?_)
      | (refine WPA.seq ?_)
      | (refine QQ.seq_normal ?_)
      | (refine WPA.skip ?_)
      | (refine WPA.block ?_)
      | (refine WPA.ret ?_)
      | (refine WPA.exit ?_)
      | (refine QQ.seq_ret ?_)
      | (refine QQ.seq_exit ?_)
      | (refine QQ.block_normal ?_)
      | (refine QQ.block_ret ?_)
      | (refine QQ.block_hit ?_)
      | (refine QQ.block_miss rfl ?_)
      | (refine QQ.loop_ret ?_)
      | (refine QQ.loop_exit ?_)
      | (guard_target =~ WLA _ _ _ _ _ (⟨_, .call ⟨.value (.func 36), _, _⟩, _, _, _, _⟩ :: _) _ _; first | (refine WLA.call rfl rfl (New_bad _ _ _ hok) ?_; rintro ⟨⟩) | (refine WLA.call0 rfl (New_bad _ _ _ hok) ?_; rintro ⟨⟩))
      | (guard_target =~ WLA _ _ _ _ _ (⟨_, .call ⟨.value (.func 35), _, _⟩, _, _, _, _⟩ :: _) _ _; first | (refine WLA.call rfl rfl (live_tr _ _ _) ?_; rintro ⟨⟩) | (refine WLA.call0 rfl (live_tr _ _ _) ?_; rintro ⟨⟩))
      | (refine WLA.st rfl ?_ ?_; first | exact trivial | exact rfl | assumption | omega | (refine ⟨?_, ?_⟩ <;> omega) | (simp only [Room, List.length_set, List.length_append, List.length_cons, List.length_nil, List.length_replicate]; omega) | skip)
      | (refine WLA.x rfl rfl ?_ (fun x => ?_); first | exact trivial | exact rfl | assumption | omega | (refine ⟨?_, ?_⟩ <;> omega) | (simp only [Room, List.length_set, List.length_append, List.length_cons, List.length_nil, List.length_replicate]; omega) | skip)
      | (refine WLA.x0 rfl ?_ (fun x => ?_); first | exact trivial | exact rfl | assumption | omega | (refine ⟨?_, ?_⟩ <;> omega) | (simp only [Room, List.length_set, List.length_append, List.length_cons, List.length_nil, List.length_replicate]; omega) | skip)
      | (guard_target =~ WPA _ _ _ (.cond _ _ _) _ _ _; first | (refine WPA.ifT ?_) | (refine WPA.ifF ?_) | (refine WPA.ifYes ?_ ?_; (first | assumption | omega | (refine fun h => h ?_; assumption) | (simp only [List.length_append, List.length_cons, List.length_nil, List.length_set] <;> omega))) | (refine WPA.ifNo ?_ ?_; (first | assumption | omega | (refine fun h => h ?_; assumption) | (simp only [List.length_append, List.length_cons, List.length_nil, List.length_set] <;> omega))) | (refine WPA.ifBt ?_ ?_; assumption) | (refine WPA.ifBf ?_ ?_; assumption) | (refine WPA.ifBnt ?_ ?_; assumption) | (refine WPA.ifBnf ?_ ?_; assumption) | (refine WPA.ifs ?_ ?_ <;> intro hc) | (refine WPA.ifB ?_ ?_ <;> intro hc))
      | (guard_target =~ WLA _ _ _ _ _ (⟨_, _, _, _, _, some _⟩ :: _) _ _; first | (refine WLA.no rfl rfl ?_) | (refine WLA.yes rfl rfl ?_ ?_; (first | assumption | omega | (refine fun h => h ?_; assumption) | (simp only [List.length_append, List.length_cons, List.length_nil, List.length_set] <;> omega))) | (refine WLA.nay rfl rfl ?_ ?_; (first | assumption | omega | (refine fun h => h ?_; assumption) | (simp only [List.length_append, List.length_cons, List.length_nil, List.length_set] <;> omega))) | (refine WLA.both rfl rfl ?_ ?_ <;> intro hg) | (refine WLA.bothB rfl rfl ?_ ?_ <;> intro hg))
      | (guard_target =~ WPA _ _ _ (.region 14 _ true) _ _ _; refine WPA.drawT 31 (.p 0 (.p 1 (.p 2 (.p 3 (.q 4 (.q 5 (.w 6 (.p 7 (.p 8 (.p 9 (.p 11 (.w 10 (.w 12 (.p 13 (.p 14 (.p 15 (.p 16 (.p 18 (.p 19 (.w 17 (.w 20 (.p 21 (.p 22 (.p 23 (.p 24 (.p 25 (.p 27 (.p 28 (.p 29 (.p 30 (.w 26 .fin))))))))))))))))))))))))))))))) mixed ?_ ?_; kernel_rfl)
      | (refine WDA.finish (tl := [⟨_, _, _, _, _, _⟩, ⟨_, _, _, _, _, _⟩]) rfl ?_)
      | (refine WDQ.see rfl ?_)
      | (refine WDQ.m rfl rfl ?_ ?_; first | exact trivial | exact rfl | assumption | omega | (refine ⟨?_, ?_⟩ <;> omega) | (simp only [Room, List.length_set, List.length_append, List.length_cons, List.length_nil, List.length_replicate]; omega) | skip)
      | (refine WDP.see rfl ?_)
      | (refine WDP.m rfl rfl ?_ ?_; first | exact trivial | exact rfl | assumption | omega | (refine ⟨?_, ?_⟩ <;> omega) | (simp only [Room, List.length_set, List.length_append, List.length_cons, List.length_nil, List.length_replicate]; omega) | skip)
      | (refine WDP.no rfl rfl ?_)
      | (refine WDW.see rfl ?_)
      | (refine WDW.x rfl rfl ?_ (fun x => ?_); first | exact trivial | exact rfl | assumption | omega | (refine ⟨?_, ?_⟩ <;> omega) | (simp only [Room, List.length_set, List.length_append, List.length_cons, List.length_nil, List.length_replicate]; omega) | skip)
      | (refine WDW.st rfl ?_ ?_; first | exact trivial | exact rfl | assumption | omega | (refine ⟨?_, ?_⟩ <;> omega) | (simp only [Room, List.length_set, List.length_append, List.length_cons, List.length_nil, List.length_replicate]; omega) | skip)
      | (guard_target =~ WDE _ _ _ _ _ _ _ ⟨_, .call ⟨.value (.func 36), _, _⟩, _, _, _, _⟩ _ _ _; refine WDE.call rfl rfl (New_bad _ _ _ hok) ?_ ?_; (intro x w h; exact Ent.drop1.sl h); rintro ⟨⟩)
      | (guard_target =~ WDW _ _ _ _ _ _ _ ⟨_, .call ⟨.value (.func 36), _, _⟩, _, _, _, _⟩ _ _ _; refine WDW.call rfl rfl (New_bad _ _ _ hok) ?_; rintro ⟨⟩)
      | (guard_target =~ WDE _ _ _ _ _ _ _ ⟨_, .call ⟨.value (.func 35), _, _⟩, _, _, _, _⟩ _ _ _; refine WDE.call rfl rfl (live_tr _ _ _) ?_ ?_; (intro x w h; exact Ent.drop1.sl h); rintro ⟨⟩)
      | (guard_target =~ WDW _ _ _ _ _ _ _ ⟨_, .call ⟨.value (.func 35), _, _⟩, _, _, _, _⟩ _ _ _; refine WDW.call rfl rfl (live_tr _ _ _) ?_; rintro ⟨⟩)
      | (refine WDQ.no rfl rfl ?_)
      | (refine WDQ.yes rfl rfl ?_ ?_; (first | assumption | omega | (refine fun h => h ?_; assumption) | (simp only [List.length_append, List.length_cons, List.length_nil, List.length_set] <;> omega)))
      | (refine WDQ.nay rfl rfl ?_ ?_; (first | assumption | omega | (refine fun h => h ?_; assumption) | (simp only [List.length_append, List.length_cons, List.length_nil, List.length_set] <;> omega)))
      | (refine WDQ.both rfl rfl ?_ ?_ <;> intro hg)
      | (refine WDP.yes rfl rfl ?_ ?_; (first | assumption | omega | (refine fun h => h ?_; assumption) | (simp only [List.length_append, List.length_cons, List.length_nil, List.length_set] <;> omega)))
      | (refine WDP.nay rfl rfl ?_ ?_; (first | assumption | omega | (refine fun h => h ?_; assumption) | (simp only [List.length_append, List.length_cons, List.length_nil, List.length_set] <;> omega)))
      | (refine WDP.both rfl rfl ?_ ?_ <;> intro hg))
    all_goals first | exact QQ.end_ rfl () rfl fun w h => h | (exfalso; omega)
theorem BlockPlays_law (W : World) (size : Int) (h0 : gInt W size) (most : Int) (h1 : gInt W most) (s : SV) (hs : gSl (gPair gInt (gPair gInt gStr)) 32 W s) : Calls Try.prog 10 #[.int .i64 size, .int .i64 most, .slice s.a s.n s.cap] W fun e w' => e = .returned (.bool true) ∧ Below W.heap.size W w' := by
  obtain ⟨acts, h1, h2, h3⟩ := hs
  haveI := SlI.all h1
  exact Calls.below BlockPlays_tr
end Go.Proofs.Ytckackfgkidedaa
