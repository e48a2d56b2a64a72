/- BlockKeeps: the walk. Conditions: none. -/
import Derived.Test.YtckackfgkidedaaBl4
namespace Go.Proofs.Ytckackfgkidedaa
open Go Go.Fw Go.RowKit
set_option linter.unusedVariables false
set_option linter.unusedSimpArgs false
set_option maxRecDepth 100000
set_option maxHeartbeats 16000000
set_option synthInstance.maxHeartbeats 200000
set_option synthInstance.maxSize 100000
attribute [local irreducible] WPA WLA WDA WDQ WDE QQ seqQ blockQ loopQ fnQ OpP OpT Tr TrP SL SLd OwnS LitS Bk BkE Ob

/-! One contract for each call, whatever comes. -/
/-- Alloc, whatever the store. -/
def BS.alloc' (m : BS) : BS := if m.used = m.most then m else m.alloc
def allocId (m : BS) : Int := if m.used = m.most then 0 else (firstFree m.tk : Int)
def allocErr (m : BS) : Int := if m.used = m.most then 6 else 0
def BS.write' (m : BS) (id : Int) (t : ByteArray) : BS := if Has m.tk id ∧ t.size ≤ m.size then m.write id t else m
def writeErr (m : BS) (id : Int) (t : ByteArray) : Int := if Has m.tk id then (if (t.size : Int) ≤ m.size then 0 else 5) else 7
def BS.free' (m : BS) (id : Int) : BS := if Has m.tk id then m.free id else m
def hasErr (m : BS) (id : Int) : Int := if Has m.tk id then 0 else 7
def readT (m : BS) (id : Int) : ByteArray := if Has m.tk id then at_ m.ts id else ⟨#[]⟩
theorem BS.Ok.alloc' {m : BS} (h : m.Ok) : m.alloc'.Ok := by
  unfold BS.alloc'; split
  · exact h
  · exact h.alloc (by have := h.um; omega)
theorem BS.Ok.write' {m : BS} {id : Int} {t : ByteArray} (h : m.Ok) : (m.write' id t).Ok := by
  unfold BS.write'; split
  · rename_i hh; exact h.write hh.1
  · exact h
theorem BS.Ok.free' {m : BS} {id : Int} (h : m.Ok) : (m.free' id).Ok := by
  unfold BS.free'; split
  · rename_i hh; exact h.free hh
  · exact h
theorem used_pos {m : BS} {id : Int} (ok : m.Ok) (hh : Has m.tk id) : 1 ≤ m.used ∧ m.used ≤ 1048576 := by
  have h1 := count_set_f _ _ (has_at hh)
  have := ok.used; have := ok.um; have := ok.most
  omega
section
variable {S : Nat} {m : BS} {id : Int} {L L' : List HP} {w0 : World} {I : Foot} {t : ByteArray}
theorem Alloc_k [h : FindK L StoreR S m L'] (ok : m.Ok) : Tr Try.prog 37 #[.pointer (some ⟨S, 0, none⟩)] (SL w0 I L) (fun _ : Unit => .tuple #[.int .i64 (allocId m), .int .i64 (allocErr m)]) (fun _ => SL w0 I (StoreR S m.alloc' :: L')) := by
  unfold allocId allocErr BS.alloc'
  split
  · exact Alloc_full ‹_›
  · exact Alloc_tr ok (by have := ok.um; omega)
theorem Write_k [h : FindK L StoreR S m L'] (ok : m.Ok) : Tr Try.prog 38 #[.pointer (some ⟨S, 0, none⟩), .int .i64 id, .string t] (SL w0 I L) (fun _ : Unit => .int .i64 (writeErr m id t)) (fun _ => SL w0 I (StoreR S (m.write' id t) :: L')) := by
  unfold writeErr BS.write'
  by_cases hh : Has m.tk id
  · by_cases ht : (t.size : Int) ≤ m.size
    · simp only [if_pos hh, if_pos ht, if_pos (And.intro hh ht)]
      exact Write_tr hh ht ok.size.2
    · simp only [if_pos hh, if_neg ht, if_neg (fun e : Has m.tk id ∧ (t.size : Int) ≤ m.size => ht e.2)]
      exact Write_big hh (by omega)
  · simp only [if_neg hh, if_neg (fun e : Has m.tk id ∧ (t.size : Int) ≤ m.size => hh e.1)]
    exact Write_no hh
theorem Free_k [h : FindK L StoreR S m L'] (ok : m.Ok) : Tr Try.prog 39 #[.pointer (some ⟨S, 0, none⟩), .int .i64 id] (SL w0 I L) (fun _ : Unit => .int .i64 (hasErr m id)) (fun _ => SL w0 I (StoreR S (m.free' id) :: L')) := by
  unfold hasErr BS.free'
  split
  · exact Free_tr ‹_› (used_pos ok ‹_›)
  · exact Free_no ‹_›
theorem Read_k [h : FindK L StoreR S m L'] : Tr Try.prog 40 #[.pointer (some ⟨S, 0, none⟩), .int .i64 id] (SL w0 I L) (fun _ : Unit => .tuple #[.string (readT m id), .int .i64 (hasErr m id)]) (fun _ => SL w0 I (StoreR S m :: L')) := by
  unfold hasErr readT
  split
  · exact Read_tr ‹_›
  · exact Read_no ‹_›
end
/-- Block 0 holds t. -/
def Keeps (m : BS) (t : ByteArray) : Prop := m.tk[0]? = some true ∧ m.ts[0]? = some t
theorem keeps_alloc {m : BS} {t : ByteArray} (ok : m.Ok) (h : Keeps m t) : Keeps m.alloc' t ∧ (allocErr m = 0 → allocId m ≠ 0) := by
  have hf : firstFree m.tk ≠ 0 := by
    intro e
    rcases Nat.lt_or_ge (firstFree m.tk) m.tk.length with h1 | h1
    · have := firstFree_false _ h1; rw [e, h.1] at this; simp at this
    · have := (List.getElem?_eq_some_iff.1 h.1).1; omega
  unfold BS.alloc' allocErr allocId
  split
  · exact ⟨h, by omega⟩
  · refine ⟨⟨?_, ?_⟩, by omega⟩
    · simp only [BS.alloc]
      rw [List.getElem?_set_ne hf, padB_ne _ _ (Ne.symm hf)]; exact h.1
    · simp only [BS.alloc]
      rw [padT_at _ _ _ (List.getElem?_eq_some_iff.1 h.2).1]; exact h.2
theorem keeps_write {m : BS} {t u : ByteArray} {id : Int} (h : Keeps m t) (hi : id ≠ 0) : Keeps (m.write' id u) t := by
  unfold BS.write'; split
  · rename_i hh
    have := hh.1.1
    exact ⟨h.1, by simp only [BS.write]; rw [List.getElem?_set_ne (by omega)]; exact h.2⟩
  · exact h
theorem keeps_free {m : BS} {t : ByteArray} {id : Int} (h : Keeps m t) (hi : id ≠ 0) : Keeps (m.free' id) t := by
  unfold BS.free'; split
  · rename_i hh
    have := hh.1
    exact ⟨by simp only [BS.free]; rw [List.getElem?_set_ne (by omega)]; exact h.1, by simp only [BS.free]; rw [List.getElem?_set_ne (by omega)]; exact h.2⟩
  · exact h
theorem write_nums (m : BS) (id : Int) (t : ByteArray) : (m.write' id t).used = m.used ∧ (m.write' id t).most = m.most ∧ (m.write' id t).size = m.size := by
  unfold BS.write'; split <;> exact ⟨rfl, rfl, rfl⟩
theorem free_nums (m : BS) (id : Int) : (m.free' id).used ≤ m.used ∧ (m.free' id).most = m.most ∧ (m.free' id).size = m.size := by
  unfold BS.free'; split
  · exact ⟨by simp only [BS.free]; omega, rfl, rfl⟩
  · exact ⟨Int.le_refl _, rfl, rfl⟩
theorem BlockKeeps_tr {s : SV} {t : ByteArray} {acts : List (Int × Int × ByteArray)} {w0 : World} {I : Foot} [hr : RdS I [] s (Int × Int × ByteArray) inferInstance acts] :
    Tr Try.prog 7 #[.slice s.a s.n s.cap, .string t] (SL w0 I []) (fun _ : Unit => .bool true) (fun _ => SL w0 I []) := by
  refine Tr.intro Try.func7 rfl Try.ntmps7 rfl ?_
  by_cases hlen : (60 : Int) < acts.length ∨ (300 : Int) < t.size
  · skip
    repeat' ((fail_if_success (guard_target =~ WPA _ _ _ (.region 3 _ _) _ _ _)); first
      | (refine WLA.m rfl rfl ?_ ?_; first | exact trivial | exact rfl | assumption | omega | (refine ⟨?_, ?_⟩ <;> omega) | (simp only [Room, List.length_set, List.length_append, List.length_cons, List.length_nil, List.length_replicate]; omega) | skip)
      | (refine WLA.nil ?_)
      | (refine WPA.region ?_)
      | (refine WPA.seq ?_)
      | (refine QQ.seq_normal ?_)
      | (refine WPA.skip ?_)
      | (refine WPA.block ?_)
      | (refine WPA.ret ?_)
      | (refine WPA.exit ?_)
      | (refine QQ.seq_ret ?_)
      | (refine QQ.seq_exit ?_)
      | (refine QQ.block_normal ?_)
      | (refine QQ.block_ret ?_)
      | (refine QQ.block_hit ?_)
      | (refine QQ.block_miss rfl ?_)
      | (refine QQ.loop_ret ?_)
      | (refine QQ.loop_exit ?_)
      | (guard_target =~ WLA _ _ _ _ _ (⟨_, .call ⟨.value (.func 35), _, _⟩, _, _, _, _⟩ :: _) _ _; first | (refine WLA.call rfl rfl (live_tr _ _ _) ?_; rintro ⟨⟩) | (refine WLA.call0 rfl (live_tr _ _ _) ?_; rintro ⟨⟩))
      | (refine WLA.st rfl ?_ ?_; first | exact trivial | exact rfl | assumption | omega | (refine ⟨?_, ?_⟩ <;> omega) | (simp only [Room, List.length_set, List.length_append, List.length_cons, List.length_nil, List.length_replicate]; omega) | skip)
      | (refine WLA.x rfl rfl ?_ (fun x => ?_); first | exact trivial | exact rfl | assumption | omega | (refine ⟨?_, ?_⟩ <;> omega) | (simp only [Room, List.length_set, List.length_append, List.length_cons, List.length_nil, List.length_replicate]; omega) | skip)
      | (refine WLA.x0 rfl ?_ (fun x => ?_); first | exact trivial | exact rfl | assumption | omega | (refine ⟨?_, ?_⟩ <;> omega) | (simp only [Room, List.length_set, List.length_append, List.length_cons, List.length_nil, List.length_replicate]; omega) | skip)
      | (guard_target =~ WPA _ _ _ (.cond _ _ _) _ _ _; first | (refine WPA.ifT ?_) | (refine WPA.ifF ?_) | (refine WPA.ifYes ?_ ?_; (first | assumption | omega | (refine fun h => h ?_; assumption) | (simp only [List.length_append, List.length_cons, List.length_nil, List.length_set] <;> omega))) | (refine WPA.ifNo ?_ ?_; (first | assumption | omega | (refine fun h => h ?_; assumption) | (simp only [List.length_append, List.length_cons, List.length_nil, List.length_set] <;> omega))) | (refine WPA.ifBt ?_ ?_; assumption) | (refine WPA.ifBf ?_ ?_; assumption) | (refine WPA.ifBnt ?_ ?_; assumption) | (refine WPA.ifBnf ?_ ?_; assumption) | (refine WPA.ifs ?_ ?_ <;> intro hc) | (refine WPA.ifB ?_ ?_ <;> intro hc))
      | (guard_target =~ WLA _ _ _ _ _ (⟨_, _, _, _, _, some _⟩ :: _) _ _; first | (refine WLA.no rfl rfl ?_) | (refine WLA.yes rfl rfl ?_ ?_; (first | assumption | omega | (refine fun h => h ?_; assumption) | (simp only [List.length_append, List.length_cons, List.length_nil, List.length_set] <;> omega))) | (refine WLA.nay rfl rfl ?_ ?_; (first | assumption | omega | (refine fun h => h ?_; assumption) | (simp only [List.length_append, List.length_cons, List.length_nil, List.length_set] <;> omega))) | (refine WLA.both rfl rfl ?_ ?_ <;> intro hg) | (refine WLA.bothB rfl rfl ?_ ?_ <;> intro hg))
      | (guard_target =~ WPA _ _ _ (.region 19 _ true) _ _ _; refine WPA.drawT 11 (.q 0 (.q 1 (.q 2 (.q 3 (.q 4 (.q 5 (.q 6 (.q 7 (.q 8 (.q 9 (.q 10 .fin))))))))))) mixed ?_ ?_; kernel_rfl)
      | (refine WDA.finish (tl := [⟨_, _, _, _, _, _⟩]) rfl ?_)
      | (refine WDQ.see rfl ?_)
      | (refine WDQ.m rfl rfl ?_ ?_; first | exact trivial | exact rfl | assumption | omega | (refine ⟨?_, ?_⟩ <;> omega) | (simp only [Room, List.length_set, List.length_append, List.length_cons, List.length_nil, List.length_replicate]; omega) | skip)
      | (guard_target =~ WDE _ _ _ _ _ _ _ ⟨_, .call ⟨.value (.func 35), _, _⟩, _, _, _, _⟩ _ _ _; refine WDE.call rfl rfl (live_tr _ _ _) ?_ ?_; (intro x w h; exact Ent.drop1.sl h); rintro ⟨⟩)
      | (guard_target =~ WDW _ _ _ _ _ _ _ ⟨_, .call ⟨.value (.func 35), _, _⟩, _, _, _, _⟩ _ _ _; refine WDW.call rfl rfl (live_tr _ _ _) ?_; rintro ⟨⟩))
    all_goals first | exact QQ.end_ rfl () rfl fun w h => h | (exfalso; omega)
  · have hl1 : ¬ (60 : Int) < acts.length := fun h => hlen (.inl h)
    have hl2 : ¬ (300 : Int) < t.size := fun h => hlen (.inr h)
    have k0 : (BS.mk 300 1000 [] [] 0 0 0).Ok := BS.Ok.new (by omega) (by omega)
    have k1 := k0.alloc (by decide)
    have hh : Has (BS.mk 300 1000 [] [] 0 0 0).alloc.tk 0 := by decide
    have a0 : ∀ {S : Nat}, Tr Try.prog 37 #[.pointer (some ⟨S, 0, none⟩)] (SL w0 I [StoreR S (BS.mk 300 1000 [] [] 0 0 0)]) (fun _ : Unit => .tuple #[.int .i64 0, .int .i64 0]) (fun _ => SL w0 I [StoreR S (BS.mk 300 1000 [] [] 0 0 0).alloc]) := Alloc_tr k0 (by decide)
    repeat' (first
      | (guard_target =~ WLA _ _ _ _ _ (⟨_, .pick _ _ _, _, _, _, _⟩ :: _) _ _; first | refine WLA.pickT (by decide) ?_ | refine WLA.pickF (by decide) ?_)
      | (refine WLA.m rfl rfl ?_ ?_; first | exact trivial | exact rfl | assumption | omega | (refine ⟨?_, ?_⟩ <;> omega) | (simp only [Room, List.length_set, List.length_append, List.length_cons, List.length_nil, List.length_replicate]; omega) | skip)
      | (refine WLA.nil ?_)
      | (refine WPA.region ?_)
      | (refine WPA.seq ?_)
      | (refine QQ.seq_normal ?_)
      | (refine WPA.skip ?_)
      | (refine WPA.block ?_)
      | (refine WPA.ret ?_)
      | (refine WPA.exit ?_)
      | (refine QQ.seq_ret ?_)
      | (refine QQ.seq_exit ?_)
      | (refine QQ.block_normal ?_)
      | (refine QQ.block_ret ?_)
      | (refine QQ.block_hit ?_)
      | (refine QQ.block_miss rfl ?_)
      | (refine QQ.loop_ret ?_)
      | (refine QQ.loop_exit ?_)
      | (guard_target =~ WLA _ _ _ _ _ (⟨_, .call ⟨.value (.func 36), _, _⟩, _, _, _, _⟩ :: _) _ _; first | (refine WLA.call rfl rfl (New_tr _ _ _ (by omega) (by omega)) ?_; rintro S) | (refine WLA.call0 rfl (New_tr _ _ _ (by omega) (by omega)) ?_; rintro S))
      | (guard_target =~ WLA _ _ _ _ _ (⟨_, .call ⟨.value (.func 37), _, _⟩, _, _, _, _⟩ :: _) _ _; first | (refine WLA.call rfl rfl (a0) ?_; rintro ⟨⟩) | (refine WLA.call0 rfl (a0) ?_; rintro ⟨⟩))
      | (guard_target =~ WLA _ _ _ _ _ (⟨_, .call ⟨.value (.func 38), _, _⟩, _, _, _, _⟩ :: _) _ _; first | (refine WLA.call rfl rfl (Write_tr hh (by show (t.size : Int) ≤ 300; omega) (by decide)) ?_; rintro ⟨⟩) | (refine WLA.call0 rfl (Write_tr hh (by show (t.size : Int) ≤ 300; omega) (by decide)) ?_; rintro ⟨⟩))
      | (refine WLA.st rfl ?_ ?_; first | exact trivial | exact rfl | assumption | omega | (refine ⟨?_, ?_⟩ <;> omega) | (simp only [Room, List.length_set, List.length_append, List.length_cons, List.length_nil, List.length_replicate]; omega) | skip)
      | (refine WLA.x rfl rfl ?_ (fun x => ?_); first | exact trivial | exact rfl | assumption | omega | (refine ⟨?_, ?_⟩ <;> omega) | (simp only [Room, List.length_set, List.length_append, List.length_cons, List.length_nil, List.length_replicate]; omega) | skip)
      | (refine WLA.x0 rfl ?_ (fun x => ?_); first | exact trivial | exact rfl | assumption | omega | (refine ⟨?_, ?_⟩ <;> omega) | (simp only [Room, List.length_set, List.length_append, List.length_cons, List.length_nil, List.length_replicate]; omega) | skip)
      | (guard_target =~ WPA _ _ _ (.cond _ _ _) _ _ _; first | (refine WPA.ifT ?_) | (refine WPA.ifF ?_) | (refine WPA.ifYes ?_ ?_; (first | assumption | omega | (refine fun h => h ?_; assumption) | (simp only [List.length_append, List.length_cons, List.length_nil, List.length_set] <;> omega))) | (refine WPA.ifNo ?_ ?_; (first | assumption | omega | (refine fun h => h ?_; assumption) | (simp only [List.length_append, List.length_cons, List.length_nil, List.length_set] <;> omega))) | (refine WPA.ifBt ?_ ?_; assumption) | (refine WPA.ifBf ?_ ?_; assumption) | (refine WPA.ifBnt ?_ ?_; assumption) | (refine WPA.ifBnf ?_ ?_; assumption) | (refine WPA.ifs ?_ ?_ <;> intro hc) | (refine WPA.ifB ?_ ?_ <;> intro hc))
      | (guard_target =~ WLA _ _ _ _ _ (⟨_, _, _, _, _, some _⟩ :: _) _ _; first | (refine WLA.no rfl rfl ?_) | (refine WLA.yes rfl rfl ?_ ?_; (first | assumption | omega | (refine fun h => h ?_; assumption) | (simp only [List.length_append, List.length_cons, List.length_nil, List.length_set] <;> omega))) | (refine WLA.nay rfl rfl ?_ ?_; (first | assumption | omega | (refine fun h => h ?_; assumption) | (simp only [List.length_append, List.length_cons, List.length_nil, List.length_set] <;> omega))) | (refine WLA.both rfl rfl ?_ ?_ <;> intro hg) | (refine WLA.bothB rfl rfl ?_ ?_ <;> intro hg))
      | (guard_target =~ WPA _ _ _ (.region 19 _ true) _ _ _; refine WPA.drawT 11 (.q 0 (.q 1 (.q 2 (.q 3 (.q 4 (.q 5 (.q 6 (.q 7 (.q 8 (.q 9 (.q 10 .fin))))))))))) mixed ?_ ?_; kernel_rfl)
      | (refine WDA.finish (tl := [⟨_, _, _, _, _, _⟩]) rfl ?_)
      | (refine WDQ.see rfl ?_)
      | (refine WDQ.m rfl rfl ?_ ?_; first | exact trivial | exact rfl | assumption | omega | (refine ⟨?_, ?_⟩ <;> omega) | (simp only [Room, List.length_set, List.length_append, List.length_cons, List.length_nil, List.length_replicate]; omega) | skip)
      | (guard_target =~ WDE _ _ _ _ _ _ _ ⟨_, .call ⟨.value (.func 36), _, _⟩, _, _, _, _⟩ _ _ _; refine WDE.call rfl rfl (New_tr _ _ _ (by omega) (by omega)) ?_ ?_; (intro x w h; exact Ent.drop1.sl h); rintro S)
      | (guard_target =~ WDW _ _ _ _ _ _ _ ⟨_, .call ⟨.value (.func 36), _, _⟩, _, _, _, _⟩ _ _ _; refine WDW.call rfl rfl (New_tr _ _ _ (by omega) (by omega)) ?_; rintro S)
      | (guard_target =~ WDE _ _ _ _ _ _ _ ⟨_, .call ⟨.value (.func 37), _, _⟩, _, _, _, _⟩ _ _ _; refine WDE.call rfl rfl (a0) ?_ ?_; (intro x w h; exact Ent.drop1.sl h); rintro ⟨⟩)
      | (guard_target =~ WDW _ _ _ _ _ _ _ ⟨_, .call ⟨.value (.func 37), _, _⟩, _, _, _, _⟩ _ _ _; refine WDW.call rfl rfl (a0) ?_; rintro ⟨⟩)
      | (guard_target =~ WDE _ _ _ _ _ _ _ ⟨_, .call ⟨.value (.func 38), _, _⟩, _, _, _, _⟩ _ _ _; refine WDE.call rfl rfl (Write_tr hh (by show (t.size : Int) ≤ 300; omega) (by decide)) ?_ ?_; (intro x w h; exact Ent.drop1.sl h); rintro ⟨⟩)
      | (guard_target =~ WDW _ _ _ _ _ _ _ ⟨_, .call ⟨.value (.func 38), _, _⟩, _, _, _, _⟩ _ _ _; refine WDW.call rfl rfl (Write_tr hh (by show (t.size : Int) ≤ 300; omega) (by decide)) ?_; rintro ⟨⟩))
    refine WPA.loopS (σ := Nat × BS) (fun x => [(0, .slice s.a s.n s.cap), (1, .string t), (5, .pointer (some ⟨S, 0, none⟩)), (7, .int .i64 0), (9, .int .i64 x.1)]) (fun x => x.1 ≤ acts.length ∧ (x.2.Ok ∧ Keeps x.2 t) ∧ (x.2.used ≤ x.1 + 1 ∧ x.2.most = 1000 ∧ x.2.size = 300))
      (fun x => SL w0 I [StoreR S x.2]) (fun x => acts.length - x.1) (0, (BS.mk 300 1000 [] [] 0 0 0).alloc.write 0 t) ⟨rfl, rfl, rfl, rfl, rfl, trivial⟩ ⟨Nat.zero_le _, ⟨k1.write hh, rfl, rfl⟩, by show (1 : Int) ≤ 1; omega, rfl, rfl⟩ (fun w h => h.to) ?_
    rintro ⟨i, m⟩ ρ ⟨hi, ⟨ok, hk⟩, hu, hm, hz⟩
    dsimp only at hi ok hk hu hm hz ⊢
    by_cases hlt : i < acts.length
    · have hlt' : (i : Int) < acts.length := by omega
      have ha := keeps_alloc ok hk
      have hum : ¬ m.used = m.most := by omega
      have hid : ¬ (firstFree m.tk : Int) = 0 := by
        have := ha.2; unfold allocErr allocId at this; rw [if_neg hum, if_neg hum] at this; exact this rfl
      have hka : Keeps m.alloc t := by have := ha.1; unfold BS.alloc' at this; rwa [if_neg hum] at this
      have hwn := write_nums m (at_ acts (i : Int)).2.1 (at_ acts (i : Int)).2.2
      have hfn := free_nums m (at_ acts (i : Int)).2.1
      repeat' (first
        | (refine WLA.m rfl rfl ?_ ?_; first | exact trivial | exact rfl | assumption | omega | (refine ⟨?_, ?_⟩ <;> omega) | (simp only [Room, List.length_set, List.length_append, List.length_cons, List.length_nil, List.length_replicate]; omega) | skip)
        | (refine WLA.nil ?_)
        | (refine WPA.region ?_)
        | (refine WPA.seq ?_)
        | (refine QQ.seq_normal ?_)
        | (refine WPA.skip ?_)
        | (refine WPA.block ?_)
        | (refine WPA.ret ?_)
        | (refine WPA.exit ?_)
        | (refine QQ.seq_ret ?_)
        | (refine QQ.seq_exit ?_)
        | (refine QQ.block_normal ?_)
        | (refine QQ.block_ret ?_)
        | (refine QQ.block_hit ?_)
        | (refine QQ.block_miss rfl ?_)
        | (refine QQ.loop_ret ?_)
        | (refine QQ.loop_exit ?_)
        | (guard_target =~ WLA _ _ _ _ _ (⟨_, .call ⟨.value (.func 35), _, _⟩, _, _, _, _⟩ :: _) _ _; first | (refine WLA.call rfl rfl (live_tr _ _ _) ?_; rintro ⟨⟩) | (refine WLA.call0 rfl (live_tr _ _ _) ?_; rintro ⟨⟩))
        | (guard_target =~ WLA _ _ _ _ _ (⟨_, .call ⟨.value (.func 37), _, _⟩, _, _, _, _⟩ :: _) _ _; first | (refine WLA.call rfl rfl (Alloc_tr ok (by omega)) ?_; rintro ⟨⟩) | (refine WLA.call0 rfl (Alloc_tr ok (by omega)) ?_; rintro ⟨⟩))
        | (guard_target =~ WLA _ _ _ _ _ (⟨_, .call ⟨.value (.func 38), _, _⟩, _, _, _, _⟩ :: _) _ _; first | (refine WLA.call rfl rfl (Write_k ok) ?_; rintro ⟨⟩) | (refine WLA.call0 rfl (Write_k ok) ?_; rintro ⟨⟩))
        | (guard_target =~ WLA _ _ _ _ _ (⟨_, .call ⟨.value (.func 39), _, _⟩, _, _, _, _⟩ :: _) _ _; first | (refine WLA.call rfl rfl (Free_k ok) ?_; rintro ⟨⟩) | (refine WLA.call0 rfl (Free_k ok) ?_; rintro ⟨⟩))
        | (refine WLA.st rfl ?_ ?_; first | exact trivial | exact rfl | assumption | omega | (refine ⟨?_, ?_⟩ <;> omega) | (simp only [Room, List.length_set, List.length_append, List.length_cons, List.length_nil, List.length_replicate]; omega) | skip)
        | (refine WLA.x rfl rfl ?_ (fun x => ?_); first | exact trivial | exact rfl | assumption | omega | (refine ⟨?_, ?_⟩ <;> omega) | (simp only [Room, List.length_set, List.length_append, List.length_cons, List.length_nil, List.length_replicate]; omega) | skip)
        | (refine WLA.x0 rfl ?_ (fun x => ?_); first | exact trivial | exact rfl | assumption | omega | (refine ⟨?_, ?_⟩ <;> omega) | (simp only [Room, List.length_set, List.length_append, List.length_cons, List.length_nil, List.length_replicate]; omega) | skip)
        | (guard_target =~ WPA _ _ _ (.cond _ _ _) _ _ _; first | (refine WPA.ifT ?_) | (refine WPA.ifF ?_) | (refine WPA.ifYes ?_ ?_; (first | assumption | omega | (refine fun h => h ?_; assumption) | (simp only [List.length_append, List.length_cons, List.length_nil, List.length_set] <;> omega))) | (refine WPA.ifNo ?_ ?_; (first | assumption | omega | (refine fun h => h ?_; assumption) | (simp only [List.length_append, List.length_cons, List.length_nil, List.length_set] <;> omega))) | (refine WPA.ifBt ?_ ?_; assumption) | (refine WPA.ifBf ?_ ?_; assumption) | (refine WPA.ifBnt ?_ ?_; assumption) | (refine WPA.ifBnf ?_ ?_; assumption) | (refine WPA.ifs ?_ ?_ <;> intro hc) | (refine WPA.ifB ?_ ?_ <;> intro hc))
        | (guard_target =~ WLA _ _ _ _ _ (⟨_, _, _, _, _, some _⟩ :: _) _ _; first | (refine WLA.no rfl rfl ?_) | (refine WLA.yes rfl rfl ?_ ?_; (first | assumption | omega | (refine fun h => h ?_; assumption) | (simp only [List.length_append, List.length_cons, List.length_nil, List.length_set] <;> omega))) | (refine WLA.nay rfl rfl ?_ ?_; (first | assumption | omega | (refine fun h => h ?_; assumption) | (simp only [List.length_append, List.length_cons, List.length_nil, List.length_set] <;> omega))) | (refine WLA.both rfl rfl ?_ ?_ <;> intro hg) | (refine WLA.bothB rfl rfl ?_ ?_ <;> intro hg))
        | (guard_target =~ WPA _ _ _ (.region 19 _ true) _ _ _; refine WPA.drawT 11 (.q 0 (.q 1 (.q 2 (.q 3 (.q 4 (.q 5 (.q 6 (.q 7 (.q 8 (.q 9 (.q 10 .fin))))))))))) mixed ?_ ?_; kernel_rfl)
        | (refine WDA.finish (tl := [⟨_, _, _, _, _, _⟩]) rfl ?_)
        | (refine WDQ.see rfl ?_)
        | (refine WDQ.m rfl rfl ?_ ?_; first | exact trivial | exact rfl | assumption | omega | (refine ⟨?_, ?_⟩ <;> omega) | (simp only [Room, List.length_set, List.length_append, List.length_cons, List.length_nil, List.length_replicate]; omega) | skip)
        | (guard_target =~ WDE _ _ _ _ _ _ _ ⟨_, .call ⟨.value (.func 35), _, _⟩, _, _, _, _⟩ _ _ _; refine WDE.call rfl rfl (live_tr _ _ _) ?_ ?_; (intro x w h; exact Ent.drop1.sl h); rintro ⟨⟩)
        | (guard_target =~ WDW _ _ _ _ _ _ _ ⟨_, .call ⟨.value (.func 35), _, _⟩, _, _, _, _⟩ _ _ _; refine WDW.call rfl rfl (live_tr _ _ _) ?_; rintro ⟨⟩)
        | (guard_target =~ WDE _ _ _ _ _ _ _ ⟨_, .call ⟨.value (.func 37), _, _⟩, _, _, _, _⟩ _ _ _; refine WDE.call rfl rfl (Alloc_tr ok (by omega)) ?_ ?_; (intro x w h; exact Ent.drop1.sl h); rintro ⟨⟩)
        | (guard_target =~ WDW _ _ _ _ _ _ _ ⟨_, .call ⟨.value (.func 37), _, _⟩, _, _, _, _⟩ _ _ _; refine WDW.call rfl rfl (Alloc_tr ok (by omega)) ?_; rintro ⟨⟩)
        | (guard_target =~ WDE _ _ _ _ _ _ _ ⟨_, .call ⟨.value (.func 38), _, _⟩, _, _, _, _⟩ _ _ _; refine WDE.call rfl rfl (Write_k ok) ?_ ?_; (intro x w h; exact Ent.drop1.sl h); rintro ⟨⟩)
        | (guard_target =~ WDW _ _ _ _ _ _ _ ⟨_, .call ⟨.value (.func 38), _, _⟩, _, _, _, _⟩ _ _ _; refine WDW.call rfl rfl (Write_k ok) ?_; rintro ⟨⟩)
        | (guard_target =~ WDE _ _ _ _ _ _ _ ⟨_, .call ⟨.value (.func 39), _, _⟩, _, _, _, _⟩ _ _ _; refine WDE.call rfl rfl (Free_k ok) ?_ ?_; (intro x w h; exact Ent.drop1.sl h); rintro ⟨⟩)
        | (guard_target =~ WDW _ _ _ _ _ _ _ ⟨_, .call ⟨.value (.func 39), _, _⟩, _, _, _, _⟩ _ _ _; refine WDW.call rfl rfl (Free_k ok) ?_; rintro ⟨⟩))
      all_goals first
        | exact QQ.end_ rfl () rfl fun w h => h.to
        | exact QQ.loopS (i + 1, m.alloc) ⟨rfl, rfl, rfl, rfl, rfl, trivial⟩ ⟨hlt, ⟨ok.alloc (by omega), hka⟩, ⟨by simp only [BS.alloc]; omega, hm, hz⟩⟩ (by dsimp only; omega) (fun w h => h.to)
        | exact QQ.loopS (i + 1, m.write' (at_ acts (i : Int)).2.1 (at_ acts (i : Int)).2.2) ⟨rfl, rfl, rfl, rfl, rfl, trivial⟩ ⟨hlt, ⟨ok.write', keeps_write hk (by assumption)⟩, ⟨by rw [hwn.1]; omega, by rw [hwn.2.1]; exact hm, by rw [hwn.2.2]; exact hz⟩⟩ (by dsimp only; omega) (fun w h => h.to)
        | exact QQ.loopS (i + 1, m.free' (at_ acts (i : Int)).2.1) ⟨rfl, rfl, rfl, rfl, rfl, trivial⟩ ⟨hlt, ⟨ok.free', keeps_free hk (by assumption)⟩, ⟨by have := hfn.1; dsimp only at this ⊢; omega, by rw [hfn.2.1]; exact hm, by rw [hfn.2.2]; exact hz⟩⟩ (by dsimp only; omega) (fun w h => h.to)
        | exact QQ.loopS (i + 1, m) ⟨rfl, rfl, rfl, rfl, rfl, trivial⟩ ⟨hlt, ⟨ok, hk⟩, ⟨by dsimp only; omega, hm, hz⟩⟩ (by dsimp only; omega) (fun w h => h.to)
    · have h00 : Has m.tk 0 := (has_nat (i := 0)).2 hk.1
      have hrd : readT m 0 = t := by
        unfold readT; rw [if_pos h00]
        have := (List.getElem?_eq_some_iff.1 hk.2).1
        rw [show (0 : Int) = ((0 : Nat) : Int) from rfl, at_nat m.ts 0 this]
        exact (List.getElem?_eq_some_iff.1 hk.2).2
      have hre : hasErr m 0 = 0 := by unfold hasErr; rw [if_pos h00]
      repeat' (first
        | (refine WLA.m rfl rfl ?_ ?_; first | exact trivial | exact rfl | assumption | omega | (refine ⟨?_, ?_⟩ <;> omega) | (simp only [Room, List.length_set, List.length_append, List.length_cons, List.length_nil, List.length_replicate]; omega) | skip)
        | (refine WLA.nil ?_)
        | (refine WPA.region ?_)
        | (refine WPA.seq ?_)
        | (refine QQ.seq_normal ?_)
        | (refine WPA.skip ?_)
        | (refine WPA.block ?_)
        | (refine WPA.ret ?_)
        | (refine WPA.exit ?_)
        | (refine QQ.seq_ret ?_)
        | (refine QQ.seq_exit ?_)
        | (refine QQ.block_normal ?_)
        | (refine QQ.block_ret ?_)
        | (refine QQ.block_hit ?_)
        | (refine QQ.block_miss rfl ?_)
        | (refine QQ.loop_ret ?_)
        | (refine QQ.loop_exit ?_)
        | (guard_target =~ WLA _ _ _ _ _ (⟨_, .call ⟨.value (.func 35), _, _⟩, _, _, _, _⟩ :: _) _ _; first | (refine WLA.call rfl rfl (live_tr _ _ _) ?_; rintro ⟨⟩) | (refine WLA.call0 rfl (live_tr _ _ _) ?_; rintro ⟨⟩))
        | (guard_target =~ WLA _ _ _ _ _ (⟨_, .call ⟨.value (.func 40), _, _⟩, _, _, _, _⟩ :: _) _ _; first | (refine WLA.call rfl rfl (Read_k) ?_; rintro ⟨⟩) | (refine WLA.call0 rfl (Read_k) ?_; rintro ⟨⟩))
        | (refine WLA.st rfl ?_ ?_; first | exact trivial | exact rfl | assumption | omega | (refine ⟨?_, ?_⟩ <;> omega) | (simp only [Room, List.length_set, List.length_append, List.length_cons, List.length_nil, List.length_replicate]; omega) | skip)
        | (refine WLA.x rfl rfl ?_ (fun x => ?_); first | exact trivial | exact rfl | assumption | omega | (refine ⟨?_, ?_⟩ <;> omega) | (simp only [Room, List.length_set, List.length_append, List.length_cons, List.length_nil, List.length_replicate]; omega) | skip)
        | (refine WLA.x0 rfl ?_ (fun x => ?_); first | exact trivial | exact rfl | assumption | omega | (refine ⟨?_, ?_⟩ <;> omega) | (simp only [Room, List.length_set, List.length_append, List.length_cons, List.length_nil, List.length_replicate]; omega) | skip)
        | (guard_target =~ WPA _ _ _ (.cond _ _ _) _ _ _; first | (refine WPA.ifT ?_) | (refine WPA.ifF ?_) | (refine WPA.ifYes ?_ ?_; (first | assumption | omega | (refine fun h => h ?_; assumption) | (simp only [List.length_append, List.length_cons, List.length_nil, List.length_set] <;> omega))) | (refine WPA.ifNo ?_ ?_; (first | assumption | omega | (refine fun h => h ?_; assumption) | (simp only [List.length_append, List.length_cons, List.length_nil, List.length_set] <;> omega))) | (refine WPA.ifBt ?_ ?_; assumption) | (refine WPA.ifBf ?_ ?_; assumption) | (refine WPA.ifBnt ?_ ?_; assumption) | (refine WPA.ifBnf ?_ ?_; assumption) | (refine WPA.ifs ?_ ?_ <;> intro hc) | (refine WPA.ifB ?_ ?_ <;> intro hc))
        | (guard_target =~ WLA _ _ _ _ _ (⟨_, _, _, _, _, some _⟩ :: _) _ _; first | (refine WLA.no rfl rfl ?_) | (refine WLA.yes rfl rfl ?_ ?_; (first | assumption | omega | (refine fun h => h ?_; assumption) | (simp only [List.length_append, List.length_cons, List.length_nil, List.length_set] <;> omega))) | (refine WLA.nay rfl rfl ?_ ?_; (first | assumption | omega | (refine fun h => h ?_; assumption) | (simp only [List.length_append, List.length_cons, List.length_nil, List.length_set] <;> omega))) | (refine WLA.both rfl rfl ?_ ?_ <;> intro hg) | (refine WLA.bothB rfl rfl ?_ ?_ <;> intro hg))
        | (guard_target =~ WPA _ _ _ (.region 19 _ true) _ _ _; refine WPA.drawT 11 (.q 0 (.q 1 (.q 2 (.q 3 (.q 4 (.q 5 (.q 6 (.q 7 (.q 8 (.q 9 (.q 10 .fin))))))))))) mixed ?_ ?_; kernel_rfl)
        | (refine WDA.finish (tl := [⟨_, _, _, _, _, _⟩]) rfl ?_)
        | (refine WDQ.see rfl ?_)
        | (refine WDQ.m rfl rfl ?_ ?_; first | exact trivial | exact rfl | assumption | omega | (refine ⟨?_, ?_⟩ <;> omega) | (simp only [Room, List.length_set, List.length_append, List.length_cons, List.length_nil, List.length_replicate]; omega) | skip)
        | (guard_target =~ WDE _ _ _ _ _ _ _ ⟨_, .call ⟨.value (.func 35), _, _⟩, _, _, _, _⟩ _ _ _; refine WDE.call rfl rfl (live_tr _ _ _) ?_ ?_; (intro x w h; exact Ent.drop1.sl h); rintro ⟨⟩)
        | (guard_target =~ WDW _ _ _ _ _ _ _ ⟨_, .call ⟨.value (.func 35), _, _⟩, _, _, _, _⟩ _ _ _; refine WDW.call rfl rfl (live_tr _ _ _) ?_; rintro ⟨⟩)
        | (guard_target =~ WDE _ _ _ _ _ _ _ ⟨_, .call ⟨.value (.func 40), _, _⟩, _, _, _, _⟩ _ _ _; refine WDE.call rfl rfl (Read_k) ?_ ?_; (intro x w h; exact Ent.drop1.sl h); rintro ⟨⟩)
        | (guard_target =~ WDW _ _ _ _ _ _ _ ⟨_, .call ⟨.value (.func 40), _, _⟩, _, _, _, _⟩ _ _ _; refine WDW.call rfl rfl (Read_k) ?_; rintro ⟨⟩))
      all_goals exact QQ.end_ rfl () rfl fun w h => h.to
theorem BlockKeeps_law (W : World) (s : SV) (hs : gSl (gPair gInt (gPair gInt gStr)) 32 W s) (t : ByteArray) (ht : gStr W t) : Calls Try.prog 7 #[.slice s.a s.n s.cap, .string t] W fun e w' => e = .returned (.bool true) ∧ Below W.heap.size W w' := by
  obtain ⟨acts, h1, h2, h3⟩ := hs
  haveI := SlI.all h1
  exact Calls.below BlockKeeps_tr
end Go.Proofs.Ytckackfgkidedaa
