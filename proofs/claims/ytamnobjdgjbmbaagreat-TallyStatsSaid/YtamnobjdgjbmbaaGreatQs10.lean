/- Texts that TallyStats_law leans on, part 10. Conditions: none. -/
import Derived.Test.YtamnobjdgjbmbaaGreatQs9
namespace Go.Proofs.YtamnobjdgjbmbaaGreat
open Go Go.Fw Go.RowKit
set_option linter.unusedVariables false
set_option linter.unusedSimpArgs false
set_option maxRecDepth 100000
set_option maxHeartbeats 16000000
set_option synthInstance.maxHeartbeats 200000
set_option synthInstance.maxSize 100000
attribute [local irreducible] WPA WLA WDA WDQ WDE QQ seqQ blockQ loopQ fnQ OpP OpT Tr TrP SL SLd OwnS LitS Bk BkE Ob
def BS.write (m : BS) (id : Int) (t : ByteArray) : BS := { m with ts := m.ts.set id.toNat t }
def BS.free (m : BS) (id : Int) : BS := { m with tk := m.tk.set id.toNat false, ts := m.ts.set id.toNat ⟨#[]⟩, low := min m.low id, used := m.used - 1 }
theorem at_fst (ps : List Prt) (id : Int) (h0 : 0 ≤ id) (h : id < ps.length) : (at_ ps id).1 = (ps.map Prod.fst)[id.toNat]'(by rw [List.length_map]; omega) := by
  rw [at_int ps id h0 h, List.getElem_map]
theorem at_txt (ts : List ByteArray) (id : Int) (h0 : 0 ≤ id) (h : id < ts.length) : at_ ts id = ts[id.toNat]'(by omega) := at_int ts id h0 h
theorem focus_at {e : TypeId} {ps : List Prt} {ts : List ByteArray} {L : List HP} (id : Int) (h : 0 ≤ id ∧ id < ps.length) (hl : ps.length = ts.length) :
    Ent (BytesH e (ps.map Prod.fst) ts :: L) (OwnS e (at_ ps id).1 (bytesK (at_ ts id)) :: BytesX e id.toNat (ps.map Prod.fst) ts :: L) := by
  rw [at_fst ps id h.1 h.2, at_txt ts id h.1 (by omega)]
  exact BytesH.focus id.toNat (by rw [List.length_map]; omega) (by rw [List.length_map]; exact hl)
theorem back_at {e : TypeId} {ps : List Prt} {ts : List ByteArray} {L : List HP} {s : SV} {t : ByteArray} {b : Bool} (id : Int) (h : 0 ≤ id ∧ id < ps.length) (hl : ps.length = ts.length) :
    Ent (OwnS e s (bytesK t) :: BytesX e id.toNat (ps.map Prod.fst) ts :: L) (BytesH e ((ps.set id.toNat (s, b)).map Prod.fst) (ts.set id.toNat t) :: L) := by
  rw [List.map_set]
  exact BytesH.back id.toNat (by rw [List.length_map]; omega) (by rw [List.length_map]; exact hl)
theorem set_self {α : Type} [Enc α] (l : List α) (id : Int) (h : 0 ≤ id ∧ id < l.length) : l.set id.toNat (at_ l id) = l := by
  rw [at_int l id h.1 h.2, List.set_getElem_self]
theorem at_set {α : Type} [Enc α] (l : List α) (id : Int) (y : α) (h : 0 ≤ id ∧ id < l.length) : at_ (l.set id.toNat y) id = y := by
  rw [at_int _ id h.1 (by rw [List.length_set]; exact h.2), List.getElem_set_self]
section
variable {S : Nat} {m : BS} {id : Int} {L L' : List HP} {w0 : World} {I : Foot}
theorem Read_no [h : FindK L StoreR S m L'] (hh : ¬ Has m.tk id) : Tr Tryz.prog 74 #[.pointer (some ⟨S, 0, none⟩), .int .i64 id] (SL w0 I L) (fun _ : Unit => .tuple #[.string ⟨#[]⟩, .int .i64 7]) (fun _ => SL w0 I (StoreR S m :: L')) := by
  refine Tr.at h.out ?_
  refine Tr.intro Tryz.func74 rfl Tryz.ntmps74 rfl ?_
  have e : (if Has m.tk id then (0 : Int) else 7) = 7 := if_neg hh
  repeat' (first | ((first | refine WLA.m rfl rfl ?_ ?_ | refine WLA.st rfl ?_ ?_ | refine WLA.x rfl rfl ?_ (fun x => ?_) | refine WLA.x0 rfl ?_ (fun x => ?_)); first | exact trivial | exact rfl | assumption | omega | (refine ⟨?_, ?_⟩ <;> omega) | (simp only [Room, lenS]; omega) | decide | skip) | (refine Stp.go ?_) | (guard_target =~ WLA _ _ _ _ _ (⟨_, .call ⟨.value (.func 100), _, _⟩, _, _, _, _⟩ :: _) _ _; refine WLA.cq rfl rfl (e ▸ check_tr) ?_) | (refine WPA.ifT ?_) | (refine WPA.ifF ?_) | ((first | refine WPA.dec ?_); first | refine .inl ⟨by first | assumption | omega | with_reducible rfl | (refine fun h => h ?_; first | assumption | with_reducible rfl) | (simp only [lenS] <;> omega) | decide, ?_⟩ | refine .inr ⟨by first | assumption | omega | with_reducible rfl | (refine fun h => h ?_; first | assumption | with_reducible rfl) | (simp only [lenS] <;> omega) | decide, ?_⟩) | ((first | refine WPA.ifBt ?_ ?_ | refine WPA.ifBnf ?_ ?_); assumption) | ((first | refine WPA.ifBnt ?_ ?_ | refine WPA.ifBf ?_ ?_); assumption) | ((first | refine WPA.ifs ?_ ?_ | refine WPA.ifB ?_ ?_) <;> intro hc))
  exact QQ.end_ rfl () rfl fun w h => h
theorem Read_tr [h : FindK L StoreR S m L'] (hh : Has m.tk id) : Tr Tryz.prog 74 #[.pointer (some ⟨S, 0, none⟩), .int .i64 id] (SL w0 I L) (fun _ : Unit => .tuple #[.string (at_ m.ts id), .int .i64 0]) (fun _ => SL w0 I (StoreR S m :: L')) := by
  refine Tr.at h.out ?_
  refine Tr.intro Tryz.func74 rfl Tryz.ntmps74 rfl ?_
  have e : (if Has m.tk id then (0 : Int) else 7) = 0 := if_pos hh
  repeat' (first | ((first | refine WLA.m rfl rfl ?_ ?_ | refine WLA.st rfl ?_ ?_ | refine WLA.x rfl rfl ?_ (fun x => ?_) | refine WLA.x0 rfl ?_ (fun x => ?_)); first | exact trivial | exact rfl | assumption | omega | (refine ⟨?_, ?_⟩ <;> omega) | (simp only [Room, lenS]; omega) | decide | skip) | (refine Stp.go ?_) | (guard_target =~ WLA _ _ _ _ _ (⟨_, .call ⟨.value (.func 100), _, _⟩, _, _, _, _⟩ :: _) _ _; refine WLA.cq rfl rfl (e ▸ check_tr) ?_) | (refine WPA.ifT ?_) | (refine WPA.ifF ?_) | ((first | refine WPA.dec ?_); first | refine .inl ⟨by first | assumption | omega | with_reducible rfl | (refine fun h => h ?_; first | assumption | with_reducible rfl) | (simp only [lenS] <;> omega) | decide, ?_⟩ | refine .inr ⟨by first | assumption | omega | with_reducible rfl | (refine fun h => h ?_; first | assumption | with_reducible rfl) | (simp only [lenS] <;> omega) | decide, ?_⟩) | ((first | refine WPA.ifBt ?_ ?_ | refine WPA.ifBnf ?_ ?_); assumption) | ((first | refine WPA.ifBnt ?_ ?_ | refine WPA.ifBf ?_ ?_); assumption) | ((first | refine WPA.ifs ?_ ?_ | refine WPA.ifB ?_ ?_) <;> intro hc))
  refine WLA.opn ?_
  rintro ⟨⟨p, ps⟩, hps, hl⟩
  dsimp only at hps ⊢
  have hlen : ps.length = m.tk.length := by rw [← hps]; simp
  have hr : 0 ≤ id ∧ id < ps.length := by have := hh.1; omega
  refine WLA.ent (Ent.cons (Ent.cons (focus_at id hr (by omega)))) ?_
  repeat' (first | ((first | refine WLA.m rfl rfl ?_ ?_ | refine WLA.st rfl ?_ ?_ | refine WLA.x rfl rfl ?_ (fun x => ?_) | refine WLA.x0 rfl ?_ (fun x => ?_)); first | exact trivial | exact rfl | assumption | omega | (refine ⟨?_, ?_⟩ <;> omega) | (simp only [Room, lenS]; omega) | decide | skip) | (refine Stp.go ?_) | (refine WPA.ifT ?_) | (refine WPA.ifF ?_) | ((first | refine WPA.dec ?_); first | refine .inl ⟨by first | assumption | omega | with_reducible rfl | (refine fun h => h ?_; first | assumption | with_reducible rfl) | (simp only [lenS] <;> omega) | decide, ?_⟩ | refine .inr ⟨by first | assumption | omega | with_reducible rfl | (refine fun h => h ?_; first | assumption | with_reducible rfl) | (simp only [lenS] <;> omega) | decide, ?_⟩) | ((first | refine WPA.ifBt ?_ ?_ | refine WPA.ifBnf ?_ ?_); assumption) | ((first | refine WPA.ifBnt ?_ ?_ | refine WPA.ifBf ?_ ?_); assumption) | ((first | refine WPA.ifs ?_ ?_ | refine WPA.ifB ?_ ?_) <;> intro hc))
  refine QQ.end_ rfl () rfl fun w h => ?_
  refine (StoreR.fold (p := p) hps hl).sl ?_
  have h2 := (Ent.cons (Ent.cons (back_at (b := (at_ ps id).2) id hr (by omega)))).sl h
  rw [set_self ps id hr, set_self m.ts id (by omega)] at h2
  exact h2.to
theorem Write_tr [h : FindK L StoreR S m L'] {t : ByteArray} (hh : Has m.tk id) (ht : t.size ≤ m.size) (hs : m.size ≤ 65536) : Tr Tryz.prog 89 #[.pointer (some ⟨S, 0, none⟩), .int .i64 id, .string t] (SL w0 I L) (fun _ : Unit => .int .i64 0) (fun _ => SL w0 I (StoreR S (m.write id t) :: L')) := by
  refine Tr.at h.out ?_
  refine Tr.intro Tryz.func89 rfl Tryz.ntmps89 rfl ?_
  have e : (if Has m.tk id then (0 : Int) else 7) = 0 := if_pos hh
  repeat' (first | ((first | refine WLA.m rfl rfl ?_ ?_ | refine WLA.st rfl ?_ ?_ | refine WLA.x rfl rfl ?_ (fun x => ?_) | refine WLA.x0 rfl ?_ (fun x => ?_)); first | exact trivial | exact rfl | assumption | omega | (refine ⟨?_, ?_⟩ <;> omega) | (simp only [Room, lenS]; omega) | decide | skip) | (refine Stp.go ?_) | (guard_target =~ WLA _ _ _ _ _ (⟨_, .call ⟨.value (.func 100), _, _⟩, _, _, _, _⟩ :: _) _ _; refine WLA.cq rfl rfl (e ▸ check_tr) ?_) | (refine WPA.ifT ?_) | (refine WPA.ifF ?_) | ((first | refine WPA.dec ?_); first | refine .inl ⟨by first | assumption | omega | with_reducible rfl | (refine fun h => h ?_; first | assumption | with_reducible rfl) | (simp only [lenS] <;> omega) | decide, ?_⟩ | refine .inr ⟨by first | assumption | omega | with_reducible rfl | (refine fun h => h ?_; first | assumption | with_reducible rfl) | (simp only [lenS] <;> omega) | decide, ?_⟩) | ((first | refine WPA.ifBt ?_ ?_ | refine WPA.ifBnf ?_ ?_); assumption) | ((first | refine WPA.ifBnt ?_ ?_ | refine WPA.ifBf ?_ ?_); assumption) | ((first | refine WPA.ifs ?_ ?_ | refine WPA.ifB ?_ ?_) <;> intro hc))
  refine WLA.opn ?_
  rintro ⟨⟨p, ps⟩, hps, hl⟩
  dsimp only at hps ⊢
  have hlen : ps.length = m.tk.length := by rw [← hps]; simp
  have hr : 0 ≤ id ∧ id < ps.length := by have := hh.1; omega
  refine WLA.ent (Ent.cons (Ent.cons (focus_at id hr (by omega)))) ?_
  have hts : ¬ m.size < t.size := by omega
  have hbk := at_map hps id
  repeat' ((fail_if_success (guard_target =~ WPA _ _ _ (.region 9 _ _) _ _ _)); first | ((first | refine WLA.m rfl rfl ?_ ?_ | refine WLA.st rfl ?_ ?_ | refine WLA.x rfl rfl ?_ (fun x => ?_) | refine WLA.x0 rfl ?_ (fun x => ?_)); first | exact trivial | exact rfl | assumption | omega | (refine ⟨?_, ?_⟩ <;> omega) | (simp only [Room, lenS]; omega) | decide | skip) | (refine Stp.go ?_) | (refine WPA.ifT ?_) | (refine WPA.ifF ?_) | ((first | refine WPA.dec ?_); first | refine .inl ⟨by first | assumption | omega | with_reducible rfl | (refine fun h => h ?_; first | assumption | with_reducible rfl) | (simp only [lenS] <;> omega) | decide, ?_⟩ | refine .inr ⟨by first | assumption | omega | with_reducible rfl | (refine fun h => h ?_; first | assumption | with_reducible rfl) | (simp only [lenS] <;> omega) | decide, ?_⟩) | ((first | refine WPA.ifBt ?_ ?_ | refine WPA.ifBnf ?_ ?_); assumption) | ((first | refine WPA.ifBnt ?_ ?_ | refine WPA.ifBf ?_ ?_); assumption) | ((first | refine WPA.ifs ?_ ?_ | refine WPA.ifB ?_ ?_) <;> intro hc))
  · refine WPA.facts (s := x) (α := KInt .u8) (FindOwn.out) fun hf => ?_
    rw [List.length_replicate] at hf
    generalize hps' : ps.set id.toNat (x, (at_ ps id).2) = ps'
    have hx : (at_ ps' id).1 = x := by rw [← hps', at_set ps id _ hr]
    subst hx
    have hcap : (t.size : Int) ≤ (at_ ps' id).1.cap := by omega
    have hlq : ps'.length = ps.length := by rw [← hps', List.length_set]
    repeat' ((fail_if_success (guard_target =~ WPA _ _ _ (.region 10 _ _) _ _ _)); first | (guard_target =~ WLA _ _ _ _ _ (⟨_, .slice _ _ _ _ _, _, _, _, _⟩ :: _) _ _; refine WLA.reslice ?_ rfl rfl ?_; omega) | ((first | refine WLA.m rfl rfl ?_ ?_ | refine WLA.st rfl ?_ ?_ | refine WLA.x rfl rfl ?_ (fun x => ?_) | refine WLA.x0 rfl ?_ (fun x => ?_)); first | exact trivial | exact rfl | assumption | omega | (refine ⟨?_, ?_⟩ <;> omega) | (simp only [Room, lenS]; omega) | decide | skip) | (refine Stp.go ?_) | (refine WPA.ifT ?_) | (refine WPA.ifF ?_) | ((first | refine WPA.dec ?_); first | refine .inl ⟨by first | assumption | omega | with_reducible rfl | (refine fun h => h ?_; first | assumption | with_reducible rfl) | (simp only [lenS] <;> omega) | decide, ?_⟩ | refine .inr ⟨by first | assumption | omega | with_reducible rfl | (refine fun h => h ?_; first | assumption | with_reducible rfl) | (simp only [lenS] <;> omega) | decide, ?_⟩) | ((first | refine WPA.ifBt ?_ ?_ | refine WPA.ifBnf ?_ ?_); assumption) | ((first | refine WPA.ifBnt ?_ ?_ | refine WPA.ifBf ?_ ?_); assumption) | ((first | refine WPA.ifs ?_ ?_ | refine WPA.ifB ?_ ?_) <;> intro hc))
    generalize h2 : (ps'.set id.toNat ((at_ ps' id).1.upto t.size, (at_ ps' id).2)) = qs
    have hlq2 : qs.length = ps.length := (congrArg List.length h2).symm.trans ((List.length_set ..).trans hlq)
    have h3 : (at_ qs id).1 = (at_ ps' id).1.upto t.size := by rw [← h2, at_set ps' id _ (by omega)]
    have h4 : ps.set id.toNat ((at_ qs id).1, (at_ ps id).2) = qs := by
      rw [h3, ← h2]
      rw [← hps', List.set_set, at_set ps id _ hr]
    refine WPA.ent (L' := OwnC 5 1 (at_ qs id).1 :: OwnS 187 p qs :: Bk S 93 [.int .i64 m.size, .int .i64 m.most, .slice p.a p.n p.cap, .int .i64 m.low, .int .i64 m.used, .int .i64 m.peak] :: BytesX 5 id.toNat (ps.map Prod.fst) m.ts :: L') ?_ ?_
    · rw [h3]
      exact (FindOwn.out (s := (at_ ps' id).1)).trans (Ent.ownC.trans ((Ent.cUp (by omega)).trans (Ent.cons EntC.out)))
    repeat' (first | (guard_target =~ WLA _ _ _ _ _ (⟨_, .call ⟨.builtin .copy, _, _⟩, _, _, _, _⟩ :: _) _ _; refine WLA.copy ?_ rfl rfl ?_; (rw [h3]; exact Int.toNat_natCast _)) | ((first | refine WLA.m rfl rfl ?_ ?_ | refine WLA.st rfl ?_ ?_ | refine WLA.x rfl rfl ?_ (fun x => ?_) | refine WLA.x0 rfl ?_ (fun x => ?_)); first | exact trivial | exact rfl | assumption | omega | (refine ⟨?_, ?_⟩ <;> omega) | (simp only [Room, lenS]; omega) | decide | skip) | (refine Stp.go ?_) | (refine WPA.ifT ?_) | (refine WPA.ifF ?_) | ((first | refine WPA.dec ?_); first | refine .inl ⟨by first | assumption | omega | with_reducible rfl | (refine fun h => h ?_; first | assumption | with_reducible rfl) | (simp only [lenS] <;> omega) | decide, ?_⟩ | refine .inr ⟨by first | assumption | omega | with_reducible rfl | (refine fun h => h ?_; first | assumption | with_reducible rfl) | (simp only [lenS] <;> omega) | decide, ?_⟩) | ((first | refine WPA.ifBt ?_ ?_ | refine WPA.ifBnf ?_ ?_); assumption) | ((first | refine WPA.ifBnt ?_ ?_ | refine WPA.ifBf ?_ ?_); assumption) | ((first | refine WPA.ifs ?_ ?_ | refine WPA.ifB ?_ ?_) <;> intro hc))
    refine QQ.end_ rfl () rfl fun w h => ?_
    have h5 := ((back_at (b := (at_ ps id).2) id hr (by omega))).sl ((EntC.out (L' := OwnS 5 (at_ qs id).1 (bytesK t) :: BytesX 5 id.toNat (ps.map Prod.fst) m.ts :: Bk S 93 [.int .i64 m.size, .int .i64 m.most, .slice p.a p.n p.cap, .int .i64 m.low, .int .i64 m.used, .int .i64 m.peak] :: OwnS 187 p qs :: L')).sl h)
    rw [h4] at h5
    refine (StoreR.fold (x := m.write id t) (p := p) (ps := qs) (by rw [← h4, List.map_set, hps]; exact by rw [hbk]; exact set_self m.tk id (by omega)) (by simp only [BS.write, List.length_set]; exact hl)).sl ?_
    simp only [BS.write]
    exact (EntC.out (L' := Bk S 93 [.int .i64 m.size, .int .i64 m.most, .slice p.a p.n p.cap, .int .i64 m.low, .int .i64 m.used, .int .i64 m.peak] :: OwnS 187 p qs :: BytesH 5 (qs.map Prod.fst) (m.ts.set id.toNat t) :: L')).sl h5
  · have hcap : (t.size : Int) ≤ (at_ ps id).1.cap := by omega
    have hlq : ps.length = ps.length := rfl
    repeat' ((fail_if_success (guard_target =~ WPA _ _ _ (.region 10 _ _) _ _ _)); first | (guard_target =~ WLA _ _ _ _ _ (⟨_, .slice _ _ _ _ _, _, _, _, _⟩ :: _) _ _; refine WLA.reslice ?_ rfl rfl ?_; omega) | ((first | refine WLA.m rfl rfl ?_ ?_ | refine WLA.st rfl ?_ ?_ | refine WLA.x rfl rfl ?_ (fun x => ?_) | refine WLA.x0 rfl ?_ (fun x => ?_)); first | exact trivial | exact rfl | assumption | omega | (refine ⟨?_, ?_⟩ <;> omega) | (simp only [Room, lenS]; omega) | decide | skip) | (refine Stp.go ?_) | (refine WPA.ifT ?_) | (refine WPA.ifF ?_) | ((first | refine WPA.dec ?_); first | refine .inl ⟨by first | assumption | omega | with_reducible rfl | (refine fun h => h ?_; first | assumption | with_reducible rfl) | (simp only [lenS] <;> omega) | decide, ?_⟩ | refine .inr ⟨by first | assumption | omega | with_reducible rfl | (refine fun h => h ?_; first | assumption | with_reducible rfl) | (simp only [lenS] <;> omega) | decide, ?_⟩) | ((first | refine WPA.ifBt ?_ ?_ | refine WPA.ifBnf ?_ ?_); assumption) | ((first | refine WPA.ifBnt ?_ ?_ | refine WPA.ifBf ?_ ?_); assumption) | ((first | refine WPA.ifs ?_ ?_ | refine WPA.ifB ?_ ?_) <;> intro hc))
    generalize h2 : (ps.set id.toNat ((at_ ps id).1.upto t.size, (at_ ps id).2)) = qs
    have hlq2 : qs.length = ps.length := (congrArg List.length h2).symm.trans ((List.length_set ..).trans hlq)
    have h3 : (at_ qs id).1 = (at_ ps id).1.upto t.size := by rw [← h2, at_set ps id _ (by omega)]
    have h4 : ps.set id.toNat ((at_ qs id).1, (at_ ps id).2) = qs := by
      rw [h3, ← h2]
      skip
    refine WPA.ent (L' := OwnC 5 1 (at_ qs id).1 :: OwnS 187 p qs :: Bk S 93 [.int .i64 m.size, .int .i64 m.most, .slice p.a p.n p.cap, .int .i64 m.low, .int .i64 m.used, .int .i64 m.peak] :: BytesX 5 id.toNat (ps.map Prod.fst) m.ts :: L') ?_ ?_
    · rw [h3]
      exact (FindOwn.out (s := (at_ ps id).1)).trans (Ent.ownC.trans ((Ent.cUp (by omega)).trans (Ent.cons EntC.out)))
    repeat' (first | (guard_target =~ WLA _ _ _ _ _ (⟨_, .call ⟨.builtin .copy, _, _⟩, _, _, _, _⟩ :: _) _ _; refine WLA.copy ?_ rfl rfl ?_; (rw [h3]; exact Int.toNat_natCast _)) | ((first | refine WLA.m rfl rfl ?_ ?_ | refine WLA.st rfl ?_ ?_ | refine WLA.x rfl rfl ?_ (fun x => ?_) | refine WLA.x0 rfl ?_ (fun x => ?_)); first | exact trivial | exact rfl | assumption | omega | (refine ⟨?_, ?_⟩ <;> omega) | (simp only [Room, lenS]; omega) | decide | skip) | (refine Stp.go ?_) | (refine WPA.ifT ?_) | (refine WPA.ifF ?_) | ((first | refine WPA.dec ?_); first | refine .inl ⟨by first | assumption | omega | with_reducible rfl | (refine fun h => h ?_; first | assumption | with_reducible rfl) | (simp only [lenS] <;> omega) | decide, ?_⟩ | refine .inr ⟨by first | assumption | omega | with_reducible rfl | (refine fun h => h ?_; first | assumption | with_reducible rfl) | (simp only [lenS] <;> omega) | decide, ?_⟩) | ((first | refine WPA.ifBt ?_ ?_ | refine WPA.ifBnf ?_ ?_); assumption) | ((first | refine WPA.ifBnt ?_ ?_ | refine WPA.ifBf ?_ ?_); assumption) | ((first | refine WPA.ifs ?_ ?_ | refine WPA.ifB ?_ ?_) <;> intro hc))
    refine QQ.end_ rfl () rfl fun w h => ?_
    have h5 := ((back_at (b := (at_ ps id).2) id hr (by omega))).sl ((EntC.out (L' := OwnS 5 (at_ qs id).1 (bytesK t) :: BytesX 5 id.toNat (ps.map Prod.fst) m.ts :: Bk S 93 [.int .i64 m.size, .int .i64 m.most, .slice p.a p.n p.cap, .int .i64 m.low, .int .i64 m.used, .int .i64 m.peak] :: OwnS 187 p qs :: L')).sl h)
    rw [h4] at h5
    refine (StoreR.fold (x := m.write id t) (p := p) (ps := qs) (by rw [← h4, List.map_set, hps]; exact by rw [hbk]; exact set_self m.tk id (by omega)) (by simp only [BS.write, List.length_set]; exact hl)).sl ?_
    simp only [BS.write]
    exact (EntC.out (L' := Bk S 93 [.int .i64 m.size, .int .i64 m.most, .slice p.a p.n p.cap, .int .i64 m.low, .int .i64 m.used, .int .i64 m.peak] :: OwnS 187 p qs :: BytesH 5 (qs.map Prod.fst) (m.ts.set id.toNat t) :: L')).sl h5
theorem zero_one (n : Nat) : ∀ u ∈ (Builtin.zeroCells (Value.int .u8 0).cells n).toList, u.oneCell' = true := by
  intro u hu
  simp only [Builtin.zeroCells, Array.toList_map, List.mem_map] at hu
  obtain ⟨i, _, rfl⟩ := hu
  have : i % (Value.int .u8 0).cells.size = 0 := Nat.mod_one i
  rw [this]; rfl
theorem Free_tr [h : FindK L StoreR S m L'] (hh : Has m.tk id) (hu : 1 ≤ m.used ∧ m.used ≤ 1048576) : Tr Tryz.prog 99 #[.pointer (some ⟨S, 0, none⟩), .int .i64 id] (SL w0 I L) (fun _ : Unit => .int .i64 0) (fun _ => SL w0 I (StoreR S (m.free id) :: L')) := by
  refine Tr.at h.out ?_
  refine Tr.intro Tryz.func99 rfl Tryz.ntmps99 rfl ?_
  have e : (if Has m.tk id then (0 : Int) else 7) = 0 := if_pos hh
  repeat' (first | ((first | refine WLA.m rfl rfl ?_ ?_ | refine WLA.st rfl ?_ ?_ | refine WLA.x rfl rfl ?_ (fun x => ?_) | refine WLA.x0 rfl ?_ (fun x => ?_)); first | exact trivial | exact rfl | assumption | omega | (refine ⟨?_, ?_⟩ <;> omega) | (simp only [Room, lenS]; omega) | decide | skip) | (refine Stp.go ?_) | (guard_target =~ WLA _ _ _ _ _ (⟨_, .call ⟨.value (.func 100), _, _⟩, _, _, _, _⟩ :: _) _ _; refine WLA.cq rfl rfl (e ▸ check_tr) ?_) | (refine WPA.ifT ?_) | (refine WPA.ifF ?_) | ((first | refine WPA.dec ?_); first | refine .inl ⟨by first | assumption | omega | with_reducible rfl | (refine fun h => h ?_; first | assumption | with_reducible rfl) | (simp only [lenS] <;> omega) | decide, ?_⟩ | refine .inr ⟨by first | assumption | omega | with_reducible rfl | (refine fun h => h ?_; first | assumption | with_reducible rfl) | (simp only [lenS] <;> omega) | decide, ?_⟩) | ((first | refine WPA.ifBt ?_ ?_ | refine WPA.ifBnf ?_ ?_); assumption) | ((first | refine WPA.ifBnt ?_ ?_ | refine WPA.ifBf ?_ ?_); assumption) | ((first | refine WPA.ifs ?_ ?_ | refine WPA.ifB ?_ ?_) <;> intro hc))
  refine WLA.opn ?_
  rintro ⟨⟨p, ps⟩, hps, hl⟩
  dsimp only at hps ⊢
  have hlen : ps.length = m.tk.length := by rw [← hps]; simp
  have hr : 0 ≤ id ∧ id < ps.length := by have := hh.1; omega
  refine WLA.ent (Ent.cons (Ent.cons (focus_at id hr (by omega)))) ?_
  repeat' ((fail_if_success (guard_target =~ WPA _ _ _ (.region 7 _ _) _ _ _)); first | (guard_target =~ WLA _ _ _ _ _ (⟨_, .call ⟨.builtin .clear, _, _⟩, _, _, _, _⟩ :: _) _ _; refine WLA.clear (z := .int .u8 0) (sz := 1) (bytes := 1) (by kernel_rfl) rfl (zero_one 1) zero_one rfl ?_) | (guard_target =~ WLA _ _ _ _ _ (⟨_, .slice _ _ _ _ _, _, _, _, _⟩ :: _) _ _; refine WLA.reslice ?_ rfl rfl ?_; omega) | ((first | refine WLA.m rfl rfl ?_ ?_ | refine WLA.st rfl ?_ ?_ | refine WLA.x rfl rfl ?_ (fun x => ?_) | refine WLA.x0 rfl ?_ (fun x => ?_)); first | exact trivial | exact rfl | assumption | omega | (refine ⟨?_, ?_⟩ <;> omega) | (simp only [Room, lenS]; omega) | decide | skip) | (refine Stp.go ?_) | (refine WPA.ifT ?_) | (refine WPA.ifF ?_) | ((first | refine WPA.dec ?_); first | refine .inl ⟨by first | assumption | omega | with_reducible rfl | (refine fun h => h ?_; first | assumption | with_reducible rfl) | (simp only [lenS] <;> omega) | decide, ?_⟩ | refine .inr ⟨by first | assumption | omega | with_reducible rfl | (refine fun h => h ?_; first | assumption | with_reducible rfl) | (simp only [lenS] <;> omega) | decide, ?_⟩) | ((first | refine WPA.ifBt ?_ ?_ | refine WPA.ifBnf ?_ ?_); assumption) | ((first | refine WPA.ifBnt ?_ ?_ | refine WPA.ifBf ?_ ?_); assumption) | ((first | refine WPA.ifs ?_ ?_ | refine WPA.ifB ?_ ?_) <;> intro hc))
  generalize h2 : (ps.set id.toNat ((at_ ps id).1.upto 0, (at_ ps id).2)) = qs
  have hlq2 : qs.length = ps.length := (congrArg List.length h2).symm.trans (List.length_set ..)
  have h3 : (at_ qs id).1 = (at_ ps id).1.upto 0 := by rw [← h2, at_set ps id _ (by omega)]
  refine WPA.ent (L' := OwnS 5 (at_ qs id).1 (bytesK ⟨#[]⟩) :: OwnS 187 p qs :: Bk S 93 [.int .i64 m.size, .int .i64 m.most, .slice p.a p.n p.cap, .int .i64 m.low, .int .i64 m.used, .int .i64 m.peak] :: BytesX 5 id.toNat (ps.map Prod.fst) m.ts :: L') ?_ ?_
  · rw [h3]
    exact (FindC.out (s := (at_ ps id).1)).trans ((Ent.cUp (by omega)).trans ((Ent.cNone (α := KInt .u8) rfl).trans (Ent.cons EntC.out)))
  repeat' (first | ((first | refine WLA.m rfl rfl ?_ ?_ | refine WLA.st rfl ?_ ?_ | refine WLA.x rfl rfl ?_ (fun x => ?_) | refine WLA.x0 rfl ?_ (fun x => ?_)); first | exact trivial | exact rfl | assumption | omega | (refine ⟨?_, ?_⟩ <;> omega) | (simp only [Room, lenS]; omega) | decide | skip) | (refine Stp.go ?_) | (refine WPA.ifT ?_) | (refine WPA.ifF ?_) | ((first | refine WPA.dec ?_); first | refine .inl ⟨by first | assumption | omega | with_reducible rfl | (refine fun h => h ?_; first | assumption | with_reducible rfl) | (simp only [lenS] <;> omega) | decide, ?_⟩ | refine .inr ⟨by first | assumption | omega | with_reducible rfl | (refine fun h => h ?_; first | assumption | with_reducible rfl) | (simp only [lenS] <;> omega) | decide, ?_⟩) | ((first | refine WPA.ifBt ?_ ?_ | refine WPA.ifBnf ?_ ?_); assumption) | ((first | refine WPA.ifBnt ?_ ?_ | refine WPA.ifBf ?_ ?_); assumption) | ((first | refine WPA.ifs ?_ ?_ | refine WPA.ifB ?_ ?_) <;> intro hc))
  refine QQ.end_ rfl () rfl fun w h => ?_
  generalize h6 : qs.set id.toNat ((at_ qs id).1, false) = rs at h
  have h4 : ps.set id.toNat ((at_ qs id).1, false) = rs := by
    rw [← h6, ← h2, List.set_set]
  have h5 := ((back_at (b := false) id hr (by omega))).sl ((EntC.out (L' := OwnS 5 (at_ qs id).1 (bytesK ⟨#[]⟩) :: BytesX 5 id.toNat (ps.map Prod.fst) m.ts :: Bk S 93 [.int .i64 m.size, .int .i64 m.most, .slice p.a p.n p.cap, .int .i64 (min m.low id), .int .i64 (m.used - 1), .int .i64 m.peak] :: OwnS 187 p rs :: L')).sl h)
  rw [h4] at h5
  refine (StoreR.fold (x := m.free id) (p := p) (ps := rs) (by rw [← h4, List.map_set, hps]; rfl) (by simp only [BS.free, List.length_set]; exact hl)).sl ?_
  simp only [BS.free]
  exact (EntC.out (L' := Bk S 93 [.int .i64 m.size, .int .i64 m.most, .slice p.a p.n p.cap, .int .i64 (min m.low id), .int .i64 (m.used - 1), .int .i64 m.peak] :: OwnS 187 p rs :: BytesH 5 (rs.map Prod.fst) (m.ts.set id.toNat ⟨#[]⟩) :: L')).sl h5
end
end Go.Proofs.YtamnobjdgjbmbaaGreat
namespace Go.Proofs.YtamnobjdgjbmbaaGreat
open Go Go.Fw
set_option linter.unusedVariables false
set_option linter.unusedSimpArgs false
theorem firstFree_true : ∀ (l : List Bool) (j : Nat), j < firstFree l → l[j]? = some true
  | true :: l, 0, _ => rfl
  | true :: l, j + 1, h => by simp only [firstFree] at h; simpa using firstFree_true l j (by omega)
  | false :: l, j, h => by simp [firstFree] at h
  | [], j, h => by simp [firstFree] at h
theorem firstFree_false : ∀ (l : List Bool), firstFree l < l.length → l[firstFree l]? = some false
  | true :: l, h => by simp only [firstFree, List.length_cons] at h ⊢; simpa using firstFree_false l (by omega)
  | false :: l, _ => rfl
  | [], h => by simp [firstFree] at h
theorem firstFree_all : ∀ (l : List Bool), firstFree l = l.length → l.count true = l.length
  | true :: l, h => by simp only [firstFree, List.length_cons] at h; rw [List.count_cons_self, firstFree_all l (by omega)]; rfl
  | false :: l, h => by simp [firstFree] at h
  | [], _ => rfl
theorem firstFree_cnt : ∀ (l : List Bool), firstFree l ≤ l.count true
  | true :: l => by rw [List.count_cons_self]; have := firstFree_cnt l; simp only [firstFree]; omega
  | false :: l => by simp [firstFree]
  | [] => by simp [firstFree]
theorem count_set_t : ∀ (l : List Bool) (i : Nat), l[i]? = some false → (l.set i true).count true = l.count true + 1
  | [], i, h => by simp at h
  | b :: l, 0, h => by simp at h; subst h; simp
  | b :: l, i + 1, h => by
    have := count_set_t l i (by simpa using h)
    cases b <;> simp [this]
theorem count_set_f : ∀ (l : List Bool) (i : Nat), l[i]? = some true → (l.set i false).count true + 1 = l.count true
  | [], i, h => by simp at h
  | b :: l, 0, h => by simp at h; subst h; simp
  | b :: l, i + 1, h => by
    have := count_set_f l i (by simpa using h)
    cases b <;> simp [← this]
theorem padB_at (tk : List Bool) : (padB tk)[firstFree tk]? = some false := by
  unfold padB
  split
  · exact firstFree_false tk ‹_›
  · have : firstFree tk = tk.length := by have := firstFree_le tk; omega
    rw [this]; simp
theorem padB_ne (tk : List Bool) (i : Nat) (h : i ≠ firstFree tk) : (padB tk)[i]? = tk[i]? := by
  unfold padB
  split
  · rfl
  · have : firstFree tk = tk.length := by have := firstFree_le tk; omega
    rcases Nat.lt_or_ge i tk.length with h1 | h1
    · rw [List.getElem?_append_left h1]
    · rw [List.getElem?_eq_none (by simp; omega), List.getElem?_eq_none h1]
theorem padB_cnt (tk : List Bool) : (padB tk).count true = tk.count true := by
  unfold padB; split <;> simp
theorem padB_len (tk : List Bool) (ts : List ByteArray) (h : tk.length = ts.length) : (padB tk).length = (padT tk ts).length := by
  unfold padB padT; split <;> simp [h]
theorem firstFree_padB (tk : List Bool) : firstFree tk < (padB tk).length := by have := (List.getElem?_eq_some_iff.1 (padB_at tk)).1; exact this
theorem padT_at (tk : List Bool) (ts : List ByteArray) (i : Nat) (h : i < ts.length) : (padT tk ts)[i]? = ts[i]? := by
  unfold padT; split
  · rfl
  · rw [List.getElem?_append_left h]
theorem has_at {tk : List Bool} {id : Int} (h : Has tk id) : tk[id.toNat]? = some true := by
  have h2 := h.2
  rw [at_int tk id h.1.1 h.1.2] at h2
  rw [List.getElem?_eq_getElem (by have := h.1; omega), h2]
theorem has_nat {tk : List Bool} {i : Nat} : Has tk i ↔ tk[i]? = some true := by
  constructor
  · intro h; simpa using has_at h
  · intro h
    have h1 := (List.getElem?_eq_some_iff.1 h).1
    refine ⟨by omega, ?_⟩
    rw [at_nat tk i h1]
    exact (List.getElem?_eq_some_iff.1 h).2
theorem BS.Ok.new {size most : Int} (hs : 1 ≤ size ∧ size ≤ 65536) (hm : 1 ≤ most ∧ most ≤ 1048576) : (BS.mk size most [] [] 0 0 0).Ok :=
  ⟨rfl, by simp, fun j hj => by simp at hj; omega, rfl, by simp only; omega, by simp; omega, hm, hs, by simp only; omega, fun i h => by simp at h⟩
theorem BS.Ok.full {m : BS} (h : m.Ok) : m.used = m.most ↔ m.most ≤ firstFree m.tk := by
  have h1 := h.used; have h2 := h.um; have h3 := h.lm
  have hle := firstFree_le m.tk
  have hc := firstFree_cnt m.tk
  have hcl : m.tk.count true ≤ m.tk.length := List.count_le_length
  constructor
  · intro e
    rcases Nat.lt_or_ge (firstFree m.tk) m.tk.length with h4 | h4
    · have := firstFree_false m.tk h4
      have := count_set_t m.tk _ this
      have h5 : ((m.tk.set (firstFree m.tk) true).count true) ≤ m.tk.length := by have := List.count_le_length (a := true) (l := m.tk.set (firstFree m.tk) true); rw [List.length_set] at this; exact this
      omega
    · have := firstFree_all m.tk (by omega); omega
  · intro e; omega
theorem BS.Ok.alloc {m : BS} (h : m.Ok) (hu : m.used < m.most) : m.alloc.Ok := by
  have hu0 := h.used0
  have hp := firstFree_padB m.tk
  have hl := padB_len m.tk m.ts h.lens
  refine ⟨by simp only [BS.alloc, List.length_set]; exact hl, by simp only [BS.alloc, List.length_set]; omega, ?_, ?_, by simp only [BS.alloc]; omega, ?_, h.most, h.size, by simp only [BS.alloc]; have := h.peak; omega, ?_⟩
  · intro j hj
    simp only [BS.alloc] at hj ⊢
    rw [List.getElem?_set_ne (by omega), padB_ne _ _ (by omega)]
    exact firstFree_true _ _ (by omega)
  · simp only [BS.alloc]
    rw [count_set_t _ _ (padB_at m.tk), padB_cnt, h.used]; omega
  · simp only [BS.alloc, List.length_set]
    have h1 := h.used; have h3 := h.lm
    unfold padB
    split
    · exact h3
    · have := firstFree_all m.tk (by have := firstFree_le m.tk; omega)
      rw [List.length_append, List.length_singleton]; omega
  · intro i hi
    simp only [BS.alloc] at hi ⊢
    rw [List.getElem?_set] at hi
    split at hi
    · simp at hi
    · rw [padB_ne _ _ (by omega)] at hi
      have h1 := h.empty i hi
      rw [padT_at _ _ _ (List.getElem?_eq_some_iff.1 h1).1]
      exact h1
theorem BS.Ok.write {m : BS} {id : Int} {t : ByteArray} (h : m.Ok) (hh : Has m.tk id) : (m.write id t).Ok := by
  refine ⟨by simp only [BS.write, List.length_set]; exact h.lens, h.low0, h.lowt, h.used, h.um, h.lm, h.most, h.size, h.peak, ?_⟩
  intro i hi
  simp only [BS.write] at hi ⊢
  have h1 := has_at hh
  rw [List.getElem?_set_ne (fun e => by rw [e, hi] at h1; simp at h1)]
  exact h.empty i hi
theorem BS.Ok.free {m : BS} {id : Int} (h : m.Ok) (hh : Has m.tk id) : (m.free id).Ok := by
  have h1 := has_at hh
  have hc := count_set_f _ _ h1
  have hu := h.used
  have hi0 := hh.1
  have hl0 := h.low0
  have hum := h.um
  refine ⟨by simp only [BS.free, List.length_set]; exact h.lens, by simp only [BS.free, List.length_set]; omega, ?_, by simp only [BS.free]; omega, by simp only [BS.free]; omega, by simp only [BS.free, List.length_set]; exact h.lm, h.most, h.size, h.peak, ?_⟩
  · intro j hj
    simp only [BS.free] at hj ⊢
    rw [List.getElem?_set_ne (by omega)]
    exact h.lowt j (by omega)
  · intro i hi
    simp only [BS.free] at hi ⊢
    have hlen := h.lens
    by_cases e : id.toNat = i
    · subst e
      rw [List.getElem?_set_self (by omega)]
    · rw [List.getElem?_set_ne e] at hi ⊢
      exact h.empty i hi
end Go.Proofs.YtamnobjdgjbmbaaGreat
namespace Go.Proofs.YtamnobjdgjbmbaaGreat
open Go Go.Fw Go.RowKit
set_option linter.unusedVariables false
set_option linter.unusedSimpArgs false
set_option maxRecDepth 100000
set_option maxHeartbeats 16000000
set_option synthInstance.maxHeartbeats 200000
set_option synthInstance.maxSize 100000
attribute [local irreducible] WPA WLA WDA WDQ WDE QQ seqQ blockQ loopQ fnQ OpP OpT Tr TrP SL SLd OwnS LitS Bk BkE Ob
def BS.alloc' (m : BS) : BS := if m.used = m.most then m else m.alloc
def BS.write' (m : BS) (id : Int) (t : ByteArray) : BS := if Has m.tk id ∧ t.size ≤ m.size then m.write id t else m
def BS.free' (m : BS) (id : Int) : BS := if Has m.tk id then m.free id else m
theorem used_pos {m : BS} {id : Int} (ok : m.Ok) (hh : Has m.tk id) : 1 ≤ m.used ∧ m.used ≤ 1048576 := by
  have h1 := count_set_f _ _ (has_at hh)
  have := ok.used; have := ok.um; have := ok.most
  omega
end Go.Proofs.YtamnobjdgjbmbaaGreat
namespace Go.Proofs.YtamnobjdgjbmbaaGreat
open Go Go.Fw Go.RowKit
set_option linter.unusedVariables false
set_option linter.unusedSimpArgs false
set_option maxRecDepth 100000
set_option maxHeartbeats 16000000
set_option synthInstance.maxHeartbeats 200000
set_option synthInstance.maxSize 100000
attribute [local irreducible] WPA WLA WDA WDQ WDE QQ seqQ blockQ loopQ fnQ OpP OpT Tr TrP SL SLd OwnS LitS Bk BkE Ob
structure RS where
  size : Int
  most : Int
  tk : List Bool
  ts : List ByteArray
  peak : Int
def RefR (S : Nat) (x : RS) : HP := exH fun q : SV × SV => pureH (x.tk.length = x.ts.length)
  (star (Bk S 37 [.int .i64 x.size, .int .i64 x.most, .slice q.1.a q.1.n q.1.cap, .slice q.2.a q.2.n q.2.cap, .int .i64 x.peak]) (star (OwnS 9 q.1 x.ts) (OwnS 4 q.2 x.tk)))
theorem RefR.fold {S : Nat} {x : RS} {p q : SV} {L : List HP} (h2 : x.tk.length = x.ts.length) :
    Ent (Bk S 37 [.int .i64 x.size, .int .i64 x.most, .slice p.a p.n p.cap, .slice q.a q.n q.cap, .int .i64 x.peak] :: OwnS 9 p x.ts :: OwnS 4 q x.tk :: L) (RefR S x :: L) :=
  Ent.ex (p, q) (Ent.pure h2 (Ent.star (Ent.cons (Ent.star Ent.refl))))
instance {S : Nat} {x : RS} : Opn (RefR S x) { q : SV × SV // x.tk.length = x.ts.length }
    (fun q L => Bk S 37 [.int .i64 x.size, .int .i64 x.most, .slice q.1.1.a q.1.1.n q.1.1.cap, .slice q.1.2.a q.1.2.n q.1.2.cap, .int .i64 x.peak] :: OwnS 9 q.1.1 x.ts :: OwnS 4 q.1.2 x.tk :: L) := ⟨fun w0 I L w h => by
  obtain ⟨q, h⟩ := h.exH
  obtain ⟨hf, h⟩ := h.pureH
  exact ⟨⟨q, hf⟩, ((Ent.unstar).trans (Ent.cons Ent.unstar)).sl h⟩⟩
def RS.alloc (m : RS) : RS := ⟨m.size, m.most, (padB m.tk).set (firstFree m.tk) true, (padT m.tk m.ts).set (firstFree m.tk) ⟨#[]⟩, max m.peak (((padB m.tk).set (firstFree m.tk) true).count true : Nat)⟩
section
variable {S : Nat} {m : RS} {id : Int} {L L' : List HP} {w0 : World} {I : Foot} {t : ByteArray}
theorem rHas_tr [h : FindK L RefR S m L'] : TrP Tryz.prog 96 #[.pointer (some ⟨S, 0, none⟩), .int .i64 id] (SL w0 I L) (.bool (decide (Has m.tk id))) := by
  refine TrP.at h.out (TrP.opn ?_)
  rintro ⟨⟨p, q⟩, hl⟩
  refine TrP.ofD fun u => ?_
  dsimp only
  refine Tr.intro Tryz.func96 rfl Tryz.ntmps96 rfl ?_
  repeat' (first | ((first | refine WLA.m rfl rfl ?_ ?_ | refine WLA.st rfl ?_ ?_ | refine WLA.x rfl rfl ?_ (fun x => ?_) | refine WLA.x0 rfl ?_ (fun x => ?_)); first | exact trivial | exact rfl | assumption | omega | (refine ⟨?_, ?_⟩ <;> omega) | (simp only [Room, lenS]; omega) | decide | skip) | (refine Stp.go ?_) | (refine WPA.ifT ?_) | (refine WPA.ifF ?_) | (refine WLA.no rfl rfl ?_) | ((first | refine WPA.dec ?_ | ((fail_if_success (guard_target =~ WLA _ _ _ _ _ _ (put1 _ _ (.bool true)) _)); (fail_if_success (guard_target =~ WLA _ _ _ _ _ _ (put1 _ _ (.bool false)) _)); refine WLA.dec rfl rfl ?_) | refine WLA.pk ?_); first | refine .inl ⟨by first | assumption | omega | with_reducible rfl | (refine fun h => h ?_; first | assumption | with_reducible rfl) | (simp only [lenS] <;> omega) | decide, ?_⟩ | refine .inr ⟨by first | assumption | omega | with_reducible rfl | (refine fun h => h ?_; first | assumption | with_reducible rfl) | (simp only [lenS] <;> omega) | decide, ?_⟩) | ((first | refine WPA.ifBt ?_ ?_ | refine WPA.ifBnf ?_ ?_); assumption) | ((first | refine WPA.ifBnt ?_ ?_ | refine WPA.ifBf ?_ ?_); assumption) | ((first | refine WPA.ifs ?_ ?_ | refine WPA.ifB ?_ ?_) <;> intro hc) | ((fail_if_success (guard_target =~ WLA _ _ _ _ _ _ (put1 _ _ (.bool true)) _)); (fail_if_success (guard_target =~ WLA _ _ _ _ _ _ (put1 _ _ (.bool false)) _)); (first | refine WLA.both rfl rfl ?_ ?_ | refine WLA.bothB rfl rfl ?_ ?_) <;> intro hg))
  · refine QQ.end_ rfl () ?_ fun w h => h
    have e : decide (Has m.tk id) = at_ m.tk id := by
      cases hb : at_ m.tk id with
      | true => exact decide_eq_true ⟨by omega, hb⟩
      | false => exact decide_eq_false fun h => by rw [h.2] at hb; cases hb
    rw [e]
  all_goals
    refine QQ.end_ rfl () ?_ fun w h => h
    have e : decide (Has m.tk id) = false := decide_eq_false fun h => by have := h.1; omega
    rw [e]
theorem rUsed_in {p q : SV} {a0 a1 a4 : Int} {tk : List Bool} {L1 L2 : List HP} [h1 : FindBk L S 37 [.int .i64 a0, .int .i64 a1, .slice p.a p.n p.cap, .slice q.a q.n q.cap, .int .i64 a4] L1] [h2 : FindOwn L1 q 4 Bool inferInstance tk L2] (hb : tk.length ≤ 1048576) :
    TrP Tryz.prog 17 #[.pointer (some ⟨S, 0, none⟩)] (SL w0 I L) (.int .i64 (tk.count true : Nat)) := by
  refine TrP.at (h1.out.trans (Ent.cons h2.out)) (TrP.ofD fun u => ?_)
  refine Tr.intro Tryz.func17 rfl Tryz.ntmps17 rfl ?_
  repeat' (first | ((first | refine WLA.m rfl rfl ?_ ?_ | refine WLA.st rfl ?_ ?_ | refine WLA.x rfl rfl ?_ (fun x => ?_) | refine WLA.x0 rfl ?_ (fun x => ?_)); first | exact trivial | exact rfl | assumption | omega | (refine ⟨?_, ?_⟩ <;> omega) | (simp only [Room, lenS]; omega) | decide | skip) | (refine Stp.go ?_) | (refine WPA.ifT ?_) | (refine WPA.ifF ?_) | ((first | refine WPA.dec ?_); first | refine .inl ⟨by first | assumption | omega | with_reducible rfl | (refine fun h => h ?_; first | assumption | with_reducible rfl) | (simp only [lenS] <;> omega) | decide, ?_⟩ | refine .inr ⟨by first | assumption | omega | with_reducible rfl | (refine fun h => h ?_; first | assumption | with_reducible rfl) | (simp only [lenS] <;> omega) | decide, ?_⟩) | ((first | refine WPA.ifBt ?_ ?_ | refine WPA.ifBnf ?_ ?_); assumption) | ((first | refine WPA.ifBnt ?_ ?_ | refine WPA.ifBf ?_ ?_); assumption) | ((first | refine WPA.ifs ?_ ?_ | refine WPA.ifB ?_ ?_) <;> intro hc))
  refine WPA.loopS (σ := Nat × Nat) (fun i => [(0, .pointer (some ⟨S, 0, none⟩)), (3, .int .i64 i.2), (4, .int .i64 i.1)]) (fun i => i.1 ≤ tk.length ∧ i.2 = (tk.take i.1).count true)
    (fun i => SLd w0 I (Bk S 37 [.int .i64 a0, .int .i64 a1, .slice p.a p.n p.cap, .slice q.a q.n q.cap, .int .i64 a4] :: OwnS 4 q tk :: L2) u) (fun i => tk.length - i.1) (0, 0) ⟨rfl, rfl, rfl, trivial⟩ ⟨Nat.zero_le _, rfl⟩ (fun w h => h) ?_
  rintro ⟨i, c⟩ ρ ⟨hi, hcc⟩
  dsimp only at hi hcc ⊢
  by_cases hlt : i < tk.length
  · have hlt' : (i : Int) < tk.length := by omega
    have hcl : (tk.take i).count true ≤ i := by have := List.count_le_length (a := true) (l := tk.take i); rw [List.length_take] at this; omega
    have hc : (tk.take (i + 1)).count true = (tk.take i).count true + (if at_ tk i = true then 1 else 0) := by
      rw [List.take_add_one, List.getElem?_eq_getElem hlt, at_nat tk i hlt, List.count_append]
      cases tk[i] <;> rfl
    cases hb2 : at_ tk (i : Int) with
    | true =>
      repeat' (first | ((first | refine WLA.m rfl rfl ?_ ?_ | refine WLA.st rfl ?_ ?_ | refine WLA.x rfl rfl ?_ (fun x => ?_) | refine WLA.x0 rfl ?_ (fun x => ?_)); first | exact trivial | exact rfl | assumption | omega | (refine ⟨?_, ?_⟩ <;> omega) | (simp only [Room, lenS]; omega) | decide | skip) | (refine Stp.go ?_) | (refine WPA.ifT ?_) | (refine WPA.ifF ?_) | ((first | refine WPA.dec ?_); first | refine .inl ⟨by first | assumption | omega | with_reducible rfl | (refine fun h => h ?_; first | assumption | with_reducible rfl) | (simp only [lenS] <;> omega) | decide, ?_⟩ | refine .inr ⟨by first | assumption | omega | with_reducible rfl | (refine fun h => h ?_; first | assumption | with_reducible rfl) | (simp only [lenS] <;> omega) | decide, ?_⟩) | ((first | refine WPA.ifBt ?_ ?_ | refine WPA.ifBnf ?_ ?_); assumption) | ((first | refine WPA.ifBnt ?_ ?_ | refine WPA.ifBf ?_ ?_); assumption) | ((first | refine WPA.ifs ?_ ?_ | refine WPA.ifB ?_ ?_) <;> intro hc))
      exact QQ.loopS (i + 1, c + 1) ⟨rfl, rfl, rfl, trivial⟩ ⟨hlt, by rw [hc, hb2, hcc]; rfl⟩ (by dsimp only; omega) (fun w h => h)
    | false =>
      repeat' (first | ((first | refine WLA.m rfl rfl ?_ ?_ | refine WLA.st rfl ?_ ?_ | refine WLA.x rfl rfl ?_ (fun x => ?_) | refine WLA.x0 rfl ?_ (fun x => ?_)); first | exact trivial | exact rfl | assumption | omega | (refine ⟨?_, ?_⟩ <;> omega) | (simp only [Room, lenS]; omega) | decide | skip) | (refine Stp.go ?_) | (refine WPA.ifT ?_) | (refine WPA.ifF ?_) | ((first | refine WPA.dec ?_); first | refine .inl ⟨by first | assumption | omega | with_reducible rfl | (refine fun h => h ?_; first | assumption | with_reducible rfl) | (simp only [lenS] <;> omega) | decide, ?_⟩ | refine .inr ⟨by first | assumption | omega | with_reducible rfl | (refine fun h => h ?_; first | assumption | with_reducible rfl) | (simp only [lenS] <;> omega) | decide, ?_⟩) | ((first | refine WPA.ifBt ?_ ?_ | refine WPA.ifBnf ?_ ?_); assumption) | ((first | refine WPA.ifBnt ?_ ?_ | refine WPA.ifBf ?_ ?_); assumption) | ((first | refine WPA.ifs ?_ ?_ | refine WPA.ifB ?_ ?_) <;> intro hc))
      exact QQ.loopS (i + 1, c) ⟨rfl, rfl, rfl, trivial⟩ ⟨hlt, by rw [hc, hb2, hcc]; rfl⟩ (by dsimp only; omega) (fun w h => h)
  · have hlt' : ¬ (i : Int) < tk.length := by omega
    have e : i = tk.length := by omega
    rw [e, List.take_length] at hcc
    repeat' (first | ((first | refine WLA.m rfl rfl ?_ ?_ | refine WLA.st rfl ?_ ?_ | refine WLA.x rfl rfl ?_ (fun x => ?_) | refine WLA.x0 rfl ?_ (fun x => ?_)); first | exact trivial | exact rfl | assumption | omega | (refine ⟨?_, ?_⟩ <;> omega) | (simp only [Room, lenS]; omega) | decide | skip) | (refine Stp.go ?_) | (refine WPA.ifT ?_) | (refine WPA.ifF ?_) | ((first | refine WPA.dec ?_); first | refine .inl ⟨by first | assumption | omega | with_reducible rfl | (refine fun h => h ?_; first | assumption | with_reducible rfl) | (simp only [lenS] <;> omega) | decide, ?_⟩ | refine .inr ⟨by first | assumption | omega | with_reducible rfl | (refine fun h => h ?_; first | assumption | with_reducible rfl) | (simp only [lenS] <;> omega) | decide, ?_⟩) | ((first | refine WPA.ifBt ?_ ?_ | refine WPA.ifBnf ?_ ?_); assumption) | ((first | refine WPA.ifBnt ?_ ?_ | refine WPA.ifBf ?_ ?_); assumption) | ((first | refine WPA.ifs ?_ ?_ | refine WPA.ifB ?_ ?_) <;> intro hc))
    rw [hcc]
    exact QQ.end_ rfl () rfl fun w h => h
theorem rWrite_no [h : FindK L RefR S m L'] (hh : ¬ Has m.tk id) : Tr Tryz.prog 70 #[.pointer (some ⟨S, 0, none⟩), .int .i64 id, .string t] (SL w0 I L) (fun _ : Unit => .int .i64 7) (fun _ => SL w0 I (RefR S m :: L')) := by
  refine Tr.at h.out ?_
  refine Tr.intro Tryz.func70 rfl Tryz.ntmps70 rfl ?_
  have e : decide (Has m.tk id) = false := decide_eq_false hh
  repeat' (first | ((first | refine WLA.m rfl rfl ?_ ?_ | refine WLA.st rfl ?_ ?_ | refine WLA.x rfl rfl ?_ (fun x => ?_) | refine WLA.x0 rfl ?_ (fun x => ?_)); first | exact trivial | exact rfl | assumption | omega | (refine ⟨?_, ?_⟩ <;> omega) | (simp only [Room, lenS]; omega) | decide | skip) | (refine Stp.go ?_) | (guard_target =~ WLA _ _ _ _ _ (⟨_, .call ⟨.value (.func 96), _, _⟩, _, _, _, _⟩ :: _) _ _; refine WLA.cq rfl rfl (e ▸ rHas_tr) ?_) | (refine WPA.ifT ?_) | (refine WPA.ifF ?_) | ((first | refine WPA.dec ?_); first | refine .inl ⟨by first | assumption | omega | with_reducible rfl | (refine fun h => h ?_; first | assumption | with_reducible rfl) | (simp only [lenS] <;> omega) | decide, ?_⟩ | refine .inr ⟨by first | assumption | omega | with_reducible rfl | (refine fun h => h ?_; first | assumption | with_reducible rfl) | (simp only [lenS] <;> omega) | decide, ?_⟩) | ((first | refine WPA.ifBt ?_ ?_ | refine WPA.ifBnf ?_ ?_); assumption) | ((first | refine WPA.ifBnt ?_ ?_ | refine WPA.ifBf ?_ ?_); assumption) | ((first | refine WPA.ifs ?_ ?_ | refine WPA.ifB ?_ ?_) <;> intro hc))
  exact QQ.end_ rfl () rfl fun w h => h
theorem rWrite_tr [h : FindK L RefR S m L'] (hh : Has m.tk id) (hs : m.size ≤ 65536) : Tr Tryz.prog 70 #[.pointer (some ⟨S, 0, none⟩), .int .i64 id, .string t] (SL w0 I L) (fun _ : Unit => .int .i64 (if (t.size : Int) ≤ m.size then 0 else 5)) (fun _ => SL w0 I (RefR S (if (t.size : Int) ≤ m.size then { m with ts := m.ts.set id.toNat t } else m) :: L')) := by
  refine Tr.at h.out ?_
  refine Tr.intro Tryz.func70 rfl Tryz.ntmps70 rfl ?_
  have e : decide (Has m.tk id) = true := decide_eq_true hh
  repeat' ((fail_if_success (guard_target =~ WPA _ _ _ (.region 3 _ _) _ _ _)); first | ((first | refine WLA.m rfl rfl ?_ ?_ | refine WLA.st rfl ?_ ?_ | refine WLA.x rfl rfl ?_ (fun x => ?_) | refine WLA.x0 rfl ?_ (fun x => ?_)); first | exact trivial | exact rfl | assumption | omega | (refine ⟨?_, ?_⟩ <;> omega) | (simp only [Room, lenS]; omega) | decide | skip) | (refine Stp.go ?_) | (guard_target =~ WLA _ _ _ _ _ (⟨_, .call ⟨.value (.func 96), _, _⟩, _, _, _, _⟩ :: _) _ _; refine WLA.cq rfl rfl (e ▸ rHas_tr) ?_) | (refine WPA.ifT ?_) | (refine WPA.ifF ?_) | ((first | refine WPA.dec ?_); first | refine .inl ⟨by first | assumption | omega | with_reducible rfl | (refine fun h => h ?_; first | assumption | with_reducible rfl) | (simp only [lenS] <;> omega) | decide, ?_⟩ | refine .inr ⟨by first | assumption | omega | with_reducible rfl | (refine fun h => h ?_; first | assumption | with_reducible rfl) | (simp only [lenS] <;> omega) | decide, ?_⟩) | ((first | refine WPA.ifBt ?_ ?_ | refine WPA.ifBnf ?_ ?_); assumption) | ((first | refine WPA.ifBnt ?_ ?_ | refine WPA.ifBf ?_ ?_); assumption) | ((first | refine WPA.ifs ?_ ?_ | refine WPA.ifB ?_ ?_) <;> intro hc))
  refine WPA.opn ?_
  rintro ⟨⟨p, q⟩, hl⟩
  dsimp only
  have hr : 0 ≤ id ∧ id < m.ts.length := by have := hh.1; omega
  by_cases ht : (t.size : Int) ≤ m.size
  · have ht' : ¬ m.size < t.size := by omega
    repeat' (first | ((first | refine WLA.m rfl rfl ?_ ?_ | refine WLA.st rfl ?_ ?_ | refine WLA.x rfl rfl ?_ (fun x => ?_) | refine WLA.x0 rfl ?_ (fun x => ?_)); first | exact trivial | exact rfl | assumption | omega | (refine ⟨?_, ?_⟩ <;> omega) | (simp only [Room, lenS]; omega) | decide | skip) | (refine Stp.go ?_) | (refine WPA.ifT ?_) | (refine WPA.ifF ?_) | ((first | refine WPA.dec ?_); first | refine .inl ⟨by first | assumption | omega | with_reducible rfl | (refine fun h => h ?_; first | assumption | with_reducible rfl) | (simp only [lenS] <;> omega) | decide, ?_⟩ | refine .inr ⟨by first | assumption | omega | with_reducible rfl | (refine fun h => h ?_; first | assumption | with_reducible rfl) | (simp only [lenS] <;> omega) | decide, ?_⟩) | ((first | refine WPA.ifBt ?_ ?_ | refine WPA.ifBnf ?_ ?_); assumption) | ((first | refine WPA.ifBnt ?_ ?_ | refine WPA.ifBf ?_ ?_); assumption) | ((first | refine WPA.ifs ?_ ?_ | refine WPA.ifB ?_ ?_) <;> intro hc))
    rw [if_pos ht, if_pos ht]
    exact QQ.end_ rfl () rfl fun w h => (RefR.fold (x := { m with ts := m.ts.set id.toNat t }) (p := p) (q := q) (by rw [List.length_set]; exact hl)).sl h.to
  · have ht' : m.size < t.size := by omega
    repeat' (first | ((first | refine WLA.m rfl rfl ?_ ?_ | refine WLA.st rfl ?_ ?_ | refine WLA.x rfl rfl ?_ (fun x => ?_) | refine WLA.x0 rfl ?_ (fun x => ?_)); first | exact trivial | exact rfl | assumption | omega | (refine ⟨?_, ?_⟩ <;> omega) | (simp only [Room, lenS]; omega) | decide | skip) | (refine Stp.go ?_) | (refine WPA.ifT ?_) | (refine WPA.ifF ?_) | ((first | refine WPA.dec ?_); first | refine .inl ⟨by first | assumption | omega | with_reducible rfl | (refine fun h => h ?_; first | assumption | with_reducible rfl) | (simp only [lenS] <;> omega) | decide, ?_⟩ | refine .inr ⟨by first | assumption | omega | with_reducible rfl | (refine fun h => h ?_; first | assumption | with_reducible rfl) | (simp only [lenS] <;> omega) | decide, ?_⟩) | ((first | refine WPA.ifBt ?_ ?_ | refine WPA.ifBnf ?_ ?_); assumption) | ((first | refine WPA.ifBnt ?_ ?_ | refine WPA.ifBf ?_ ?_); assumption) | ((first | refine WPA.ifs ?_ ?_ | refine WPA.ifB ?_ ?_) <;> intro hc))
    rw [if_neg ht, if_neg ht]
    exact QQ.end_ rfl () rfl fun w h => (RefR.fold (p := p) (q := q) hl).sl h.to
theorem rFree_no [h : FindK L RefR S m L'] (hh : ¬ Has m.tk id) : Tr Tryz.prog 73 #[.pointer (some ⟨S, 0, none⟩), .int .i64 id] (SL w0 I L) (fun _ : Unit => .int .i64 7) (fun _ => SL w0 I (RefR S m :: L')) := by
  refine Tr.at h.out ?_
  refine Tr.intro Tryz.func73 rfl Tryz.ntmps73 rfl ?_
  have e : decide (Has m.tk id) = false := decide_eq_false hh
  repeat' (first | ((first | refine WLA.m rfl rfl ?_ ?_ | refine WLA.st rfl ?_ ?_ | refine WLA.x rfl rfl ?_ (fun x => ?_) | refine WLA.x0 rfl ?_ (fun x => ?_)); first | exact trivial | exact rfl | assumption | omega | (refine ⟨?_, ?_⟩ <;> omega) | (simp only [Room, lenS]; omega) | decide | skip) | (refine Stp.go ?_) | (guard_target =~ WLA _ _ _ _ _ (⟨_, .call ⟨.value (.func 96), _, _⟩, _, _, _, _⟩ :: _) _ _; refine WLA.cq rfl rfl (e ▸ rHas_tr) ?_) | (refine WPA.ifT ?_) | (refine WPA.ifF ?_) | ((first | refine WPA.dec ?_); first | refine .inl ⟨by first | assumption | omega | with_reducible rfl | (refine fun h => h ?_; first | assumption | with_reducible rfl) | (simp only [lenS] <;> omega) | decide, ?_⟩ | refine .inr ⟨by first | assumption | omega | with_reducible rfl | (refine fun h => h ?_; first | assumption | with_reducible rfl) | (simp only [lenS] <;> omega) | decide, ?_⟩) | ((first | refine WPA.ifBt ?_ ?_ | refine WPA.ifBnf ?_ ?_); assumption) | ((first | refine WPA.ifBnt ?_ ?_ | refine WPA.ifBf ?_ ?_); assumption) | ((first | refine WPA.ifs ?_ ?_ | refine WPA.ifB ?_ ?_) <;> intro hc))
  exact QQ.end_ rfl () rfl fun w h => h
theorem rFree_tr [h : FindK L RefR S m L'] (hh : Has m.tk id) : Tr Tryz.prog 73 #[.pointer (some ⟨S, 0, none⟩), .int .i64 id] (SL w0 I L) (fun _ : Unit => .int .i64 0) (fun _ => SL w0 I (RefR S { m with tk := m.tk.set id.toNat false } :: L')) := by
  refine Tr.at h.out ?_
  refine Tr.intro Tryz.func73 rfl Tryz.ntmps73 rfl ?_
  have e : decide (Has m.tk id) = true := decide_eq_true hh
  have hr := hh.1
  repeat' ((fail_if_success (guard_target =~ WPA _ _ _ (.region 3 _ _) _ _ _)); first | ((first | refine WLA.m rfl rfl ?_ ?_ | refine WLA.st rfl ?_ ?_ | refine WLA.x rfl rfl ?_ (fun x => ?_) | refine WLA.x0 rfl ?_ (fun x => ?_)); first | exact trivial | exact rfl | assumption | omega | (refine ⟨?_, ?_⟩ <;> omega) | (simp only [Room, lenS]; omega) | decide | skip) | (refine Stp.go ?_) | (guard_target =~ WLA _ _ _ _ _ (⟨_, .call ⟨.value (.func 96), _, _⟩, _, _, _, _⟩ :: _) _ _; refine WLA.cq rfl rfl (e ▸ rHas_tr) ?_) | (refine WPA.ifT ?_) | (refine WPA.ifF ?_) | ((first | refine WPA.dec ?_); first | refine .inl ⟨by first | assumption | omega | with_reducible rfl | (refine fun h => h ?_; first | assumption | with_reducible rfl) | (simp only [lenS] <;> omega) | decide, ?_⟩ | refine .inr ⟨by first | assumption | omega | with_reducible rfl | (refine fun h => h ?_; first | assumption | with_reducible rfl) | (simp only [lenS] <;> omega) | decide, ?_⟩) | ((first | refine WPA.ifBt ?_ ?_ | refine WPA.ifBnf ?_ ?_); assumption) | ((first | refine WPA.ifBnt ?_ ?_ | refine WPA.ifBf ?_ ?_); assumption) | ((first | refine WPA.ifs ?_ ?_ | refine WPA.ifB ?_ ?_) <;> intro hc))
  refine WPA.opn ?_
  rintro ⟨⟨p, q⟩, hl⟩
  dsimp only
  repeat' (first | ((first | refine WLA.m rfl rfl ?_ ?_ | refine WLA.st rfl ?_ ?_ | refine WLA.x rfl rfl ?_ (fun x => ?_) | refine WLA.x0 rfl ?_ (fun x => ?_)); first | exact trivial | exact rfl | assumption | omega | (refine ⟨?_, ?_⟩ <;> omega) | (simp only [Room, lenS]; omega) | decide | skip) | (refine Stp.go ?_) | (refine WPA.ifT ?_) | (refine WPA.ifF ?_) | ((first | refine WPA.dec ?_); first | refine .inl ⟨by first | assumption | omega | with_reducible rfl | (refine fun h => h ?_; first | assumption | with_reducible rfl) | (simp only [lenS] <;> omega) | decide, ?_⟩ | refine .inr ⟨by first | assumption | omega | with_reducible rfl | (refine fun h => h ?_; first | assumption | with_reducible rfl) | (simp only [lenS] <;> omega) | decide, ?_⟩) | ((first | refine WPA.ifBt ?_ ?_ | refine WPA.ifBnf ?_ ?_); assumption) | ((first | refine WPA.ifBnt ?_ ?_ | refine WPA.ifBf ?_ ?_); assumption) | ((first | refine WPA.ifs ?_ ?_ | refine WPA.ifB ?_ ?_) <;> intro hc))
  exact QQ.end_ rfl () rfl fun w h => (RefR.fold (x := { m with tk := m.tk.set id.toNat false }) (p := p) (q := q) (by rw [List.length_set]; exact hl)).sl h.to
theorem rAlloc_tr [h : FindK L RefR S m L'] (hl : m.tk.length ≤ 1048576) (hm : m.most ≤ 1048576) : Tr Tryz.prog 69 #[.pointer (some ⟨S, 0, none⟩)] (SL w0 I L)
    (fun _ : Unit => .tuple #[.int .i64 (if m.most ≤ firstFree m.tk then 0 else (firstFree m.tk : Int)), .int .i64 (if m.most ≤ firstFree m.tk then 6 else 0)]) (fun _ => SL w0 I (RefR S (if m.most ≤ firstFree m.tk then m else m.alloc) :: L')) := by
  refine Tr.at h.out (Tr.opn ?_)
  rintro ⟨⟨p, q⟩, hlt0⟩
  dsimp only
  refine Tr.intro Tryz.func69 rfl Tryz.ntmps69 rfl ?_
  repeat' (first | ((first | refine WLA.m rfl rfl ?_ ?_ | refine WLA.st rfl ?_ ?_ | refine WLA.x rfl rfl ?_ (fun x => ?_) | refine WLA.x0 rfl ?_ (fun x => ?_)); first | exact trivial | exact rfl | assumption | omega | (refine ⟨?_, ?_⟩ <;> omega) | (simp only [Room, lenS]; omega) | decide | skip) | (refine Stp.go ?_) | (refine WPA.ifT ?_) | (refine WPA.ifF ?_) | ((first | refine WPA.dec ?_); first | refine .inl ⟨by first | assumption | omega | with_reducible rfl | (refine fun h => h ?_; first | assumption | with_reducible rfl) | (simp only [lenS] <;> omega) | decide, ?_⟩ | refine .inr ⟨by first | assumption | omega | with_reducible rfl | (refine fun h => h ?_; first | assumption | with_reducible rfl) | (simp only [lenS] <;> omega) | decide, ?_⟩) | ((first | refine WPA.ifBt ?_ ?_ | refine WPA.ifBnf ?_ ?_); assumption) | ((first | refine WPA.ifBnt ?_ ?_ | refine WPA.ifBf ?_ ?_); assumption) | ((first | refine WPA.ifs ?_ ?_ | refine WPA.ifB ?_ ?_) <;> intro hc))
  refine WPA.loopS (σ := Nat) (fun x => [(0, .pointer (some ⟨S, 0, none⟩)), (4, .int .i64 x)]) (fun i => i ≤ m.tk.length ∧ ∀ j : Nat, j < i → m.tk[j]? = some true)
    (fun i => SL w0 I (Bk S 37 [.int .i64 m.size, .int .i64 m.most, .slice p.a p.n p.cap, .slice q.a q.n q.cap, .int .i64 m.peak] :: OwnS 9 p m.ts :: OwnS 4 q m.tk :: L')) (fun i => m.tk.length - i) 0 ⟨rfl, rfl, trivial⟩ ⟨by omega, fun j hj => by omega⟩ (fun w h => h.to) ?_
  rintro i ρ ⟨hi, hj⟩
  by_cases hb : (i : Int) < m.tk.length ∧ at_ m.tk i = true
  · have hlt := hb.1
    have hbt := hb.2
    have hx : m.tk[i]? = some true := by
      rw [at_nat m.tk i (by omega)] at hbt
      rw [List.getElem?_eq_getElem (by omega), hbt]
    repeat' (first | ((first | refine WLA.m rfl rfl ?_ ?_ | refine WLA.st rfl ?_ ?_ | refine WLA.x rfl rfl ?_ (fun x => ?_) | refine WLA.x0 rfl ?_ (fun x => ?_)); first | exact trivial | exact rfl | assumption | omega | (refine ⟨?_, ?_⟩ <;> omega) | (simp only [Room, lenS]; omega) | decide | skip) | (refine Stp.go ?_) | (refine WPA.ifT ?_) | (refine WPA.ifF ?_) | (refine WLA.no rfl rfl ?_) | ((first | refine WPA.dec ?_ | ((fail_if_success (guard_target =~ WLA _ _ _ _ _ _ (put1 _ _ (.bool true)) _)); (fail_if_success (guard_target =~ WLA _ _ _ _ _ _ (put1 _ _ (.bool false)) _)); refine WLA.dec rfl rfl ?_) | refine WLA.pk ?_); first | refine .inl ⟨by first | assumption | omega | with_reducible rfl | (refine fun h => h ?_; first | assumption | with_reducible rfl) | (simp only [lenS] <;> omega) | decide, ?_⟩ | refine .inr ⟨by first | assumption | omega | with_reducible rfl | (refine fun h => h ?_; first | assumption | with_reducible rfl) | (simp only [lenS] <;> omega) | decide, ?_⟩) | ((first | refine WPA.ifBt ?_ ?_ | refine WPA.ifBnf ?_ ?_); assumption) | ((first | refine WPA.ifBnt ?_ ?_ | refine WPA.ifBf ?_ ?_); assumption) | ((first | refine WPA.ifs ?_ ?_ | refine WPA.ifB ?_ ?_) <;> intro hc) | ((fail_if_success (guard_target =~ WLA _ _ _ _ _ _ (put1 _ _ (.bool true)) _)); (fail_if_success (guard_target =~ WLA _ _ _ _ _ _ (put1 _ _ (.bool false)) _)); (first | refine WLA.both rfl rfl ?_ ?_ | refine WLA.bothB rfl rfl ?_ ?_) <;> intro hg))
    refine QQ.loopS (i + 1) ⟨rfl, rfl, trivial⟩ ⟨by omega, fun j hj' => ?_⟩ (by omega) (fun w h => h)
    by_cases hji : j = i
    · rw [hji]; exact hx
    · exact hj j (by omega)
  · have hff : firstFree m.tk = i := by
      refine firstFree_of _ _ hj fun h2 => hb ?_
      have hi2 := (List.getElem?_eq_some_iff.1 h2).1
      refine ⟨by omega, ?_⟩
      rw [at_nat m.tk i hi2]
      exact (List.getElem?_eq_some_iff.1 h2).2
    subst hff
    by_cases hfull : m.most ≤ firstFree m.tk
    · simp only [if_pos hfull]
      by_cases hlt : (firstFree m.tk : Int) < m.tk.length
      · have hbf : at_ m.tk (firstFree m.tk : Int) = false := by
          cases h2 : at_ m.tk (firstFree m.tk : Int) with
          | true => exact absurd ⟨hlt, h2⟩ hb
          | false => rfl
        repeat' (first | ((first | refine WLA.m rfl rfl ?_ ?_ | refine WLA.st rfl ?_ ?_ | refine WLA.x rfl rfl ?_ (fun x => ?_) | refine WLA.x0 rfl ?_ (fun x => ?_)); first | exact trivial | exact rfl | assumption | omega | (refine ⟨?_, ?_⟩ <;> omega) | (simp only [Room, lenS]; omega) | decide | skip) | (refine Stp.go ?_) | (refine WPA.ifT ?_) | (refine WPA.ifF ?_) | (refine WLA.no rfl rfl ?_) | ((first | refine WPA.dec ?_ | ((fail_if_success (guard_target =~ WLA _ _ _ _ _ _ (put1 _ _ (.bool true)) _)); (fail_if_success (guard_target =~ WLA _ _ _ _ _ _ (put1 _ _ (.bool false)) _)); refine WLA.dec rfl rfl ?_) | refine WLA.pk ?_); first | refine .inl ⟨by first | assumption | omega | with_reducible rfl | (refine fun h => h ?_; first | assumption | with_reducible rfl) | (simp only [lenS] <;> omega) | decide, ?_⟩ | refine .inr ⟨by first | assumption | omega | with_reducible rfl | (refine fun h => h ?_; first | assumption | with_reducible rfl) | (simp only [lenS] <;> omega) | decide, ?_⟩) | ((first | refine WPA.ifBt ?_ ?_ | refine WPA.ifBnf ?_ ?_); assumption) | ((first | refine WPA.ifBnt ?_ ?_ | refine WPA.ifBf ?_ ?_); assumption) | ((first | refine WPA.ifs ?_ ?_ | refine WPA.ifB ?_ ?_) <;> intro hc) | ((fail_if_success (guard_target =~ WLA _ _ _ _ _ _ (put1 _ _ (.bool true)) _)); (fail_if_success (guard_target =~ WLA _ _ _ _ _ _ (put1 _ _ (.bool false)) _)); (first | refine WLA.both rfl rfl ?_ ?_ | refine WLA.bothB rfl rfl ?_ ?_) <;> intro hg))
        exact QQ.end_ rfl () rfl fun w h => (RefR.fold (p := p) (q := q) hlt0).sl h.to
      · skip
        repeat' (first | ((first | refine WLA.m rfl rfl ?_ ?_ | refine WLA.st rfl ?_ ?_ | refine WLA.x rfl rfl ?_ (fun x => ?_) | refine WLA.x0 rfl ?_ (fun x => ?_)); first | exact trivial | exact rfl | assumption | omega | (refine ⟨?_, ?_⟩ <;> omega) | (simp only [Room, lenS]; omega) | decide | skip) | (refine Stp.go ?_) | (refine WPA.ifT ?_) | (refine WPA.ifF ?_) | (refine WLA.no rfl rfl ?_) | ((first | refine WPA.dec ?_ | ((fail_if_success (guard_target =~ WLA _ _ _ _ _ _ (put1 _ _ (.bool true)) _)); (fail_if_success (guard_target =~ WLA _ _ _ _ _ _ (put1 _ _ (.bool false)) _)); refine WLA.dec rfl rfl ?_) | refine WLA.pk ?_); first | refine .inl ⟨by first | assumption | omega | with_reducible rfl | (refine fun h => h ?_; first | assumption | with_reducible rfl) | (simp only [lenS] <;> omega) | decide, ?_⟩ | refine .inr ⟨by first | assumption | omega | with_reducible rfl | (refine fun h => h ?_; first | assumption | with_reducible rfl) | (simp only [lenS] <;> omega) | decide, ?_⟩) | ((first | refine WPA.ifBt ?_ ?_ | refine WPA.ifBnf ?_ ?_); assumption) | ((first | refine WPA.ifBnt ?_ ?_ | refine WPA.ifBf ?_ ?_); assumption) | ((first | refine WPA.ifs ?_ ?_ | refine WPA.ifB ?_ ?_) <;> intro hc) | ((fail_if_success (guard_target =~ WLA _ _ _ _ _ _ (put1 _ _ (.bool true)) _)); (fail_if_success (guard_target =~ WLA _ _ _ _ _ _ (put1 _ _ (.bool false)) _)); (first | refine WLA.both rfl rfl ?_ ?_ | refine WLA.bothB rfl rfl ?_ ?_) <;> intro hg))
        exact QQ.end_ rfl () rfl fun w h => (RefR.fold (p := p) (q := q) hlt0).sl h.to
    · simp only [if_neg hfull]
      by_cases hlt : (firstFree m.tk : Int) < m.tk.length
      · have hbf : at_ m.tk (firstFree m.tk : Int) = false := by
          cases h2 : at_ m.tk (firstFree m.tk : Int) with
          | true => exact absurd ⟨hlt, h2⟩ hb
          | false => rfl
        repeat' (first | ((first | refine WLA.m rfl rfl ?_ ?_ | refine WDQ.m rfl rfl ?_ ?_ | refine WLA.st rfl ?_ ?_ | refine WLA.x rfl rfl ?_ (fun x => ?_) | refine WLA.x0 rfl ?_ (fun x => ?_)); first | exact trivial | exact rfl | assumption | omega | (refine ⟨?_, ?_⟩ <;> omega) | (simp only [Room, lenS]; omega) | decide | skip) | (refine Stp.go ?_) | (guard_target =~ WLA _ _ _ _ _ (⟨_, .call ⟨.value (.func 17), _, _⟩, _, _, _, _⟩ :: _) _ _; refine WLA.cq rfl rfl (rUsed_in (by rw [List.length_set]; omega)) ?_) | (refine WPA.ifT ?_) | (refine WPA.ifF ?_) | (refine WLA.no rfl rfl ?_) | ((first | refine WPA.dec ?_ | ((fail_if_success (guard_target =~ WLA _ _ _ _ _ _ (put1 _ _ (.bool true)) _)); (fail_if_success (guard_target =~ WLA _ _ _ _ _ _ (put1 _ _ (.bool false)) _)); refine WLA.dec rfl rfl ?_) | refine WLA.pk ?_); first | refine .inl ⟨by first | assumption | omega | with_reducible rfl | (refine fun h => h ?_; first | assumption | with_reducible rfl) | (simp only [lenS] <;> omega) | decide, ?_⟩ | refine .inr ⟨by first | assumption | omega | with_reducible rfl | (refine fun h => h ?_; first | assumption | with_reducible rfl) | (simp only [lenS] <;> omega) | decide, ?_⟩) | ((first | refine WPA.ifBt ?_ ?_ | refine WPA.ifBnf ?_ ?_); assumption) | ((first | refine WPA.ifBnt ?_ ?_ | refine WPA.ifBf ?_ ?_); assumption) | ((first | refine WPA.ifs ?_ ?_ | refine WPA.ifB ?_ ?_) <;> intro hc) | ((fail_if_success (guard_target =~ WLA _ _ _ _ _ _ (put1 _ _ (.bool true)) _)); (fail_if_success (guard_target =~ WLA _ _ _ _ _ _ (put1 _ _ (.bool false)) _)); (first | refine WLA.both rfl rfl ?_ ?_ | refine WLA.bothB rfl rfl ?_ ?_) <;> intro hg) | (guard_target =~ WPA _ _ _ (.region 11 _ true) _ _ _; refine WPA.drawT 8 (.q 0 (.q 1 (.q 2 (.q 3 (.q 4 (.q 5 (.q 6 (.q 7 .fin)))))))) mixed ?_ ?_; kernel_rfl) | (refine WDA.finish (tl := [⟨_, _, _, _, _, _⟩, ⟨_, _, _, _, _, _⟩, ⟨_, _, _, _, _, _⟩]) rfl ?_) | (refine WDQ.see rfl ?_) | (guard_target =~ WDQ _ _ _ _ _ _ _ ⟨_, .call ⟨.value (.func 17), _, _⟩, _, _, _, _⟩ _ _ _; refine WDQ.cq rfl rfl (rUsed_in (by rw [List.length_set]; omega)) ?_))
        refine QQ.end_ rfl () rfl fun w h => ?_
        have hp : padB m.tk = m.tk := by unfold padB; rw [if_pos (by omega)]
        have hq : padT m.tk m.ts = m.ts := by unfold padT; rw [if_pos (by omega)]
        rw [Int.toNat_natCast] at h
        refine (RefR.fold (x := m.alloc) (p := p) (q := q) (by simp only [RS.alloc, hp, hq, List.length_set]; exact hlt0)).sl ?_
        simp only [RS.alloc, hp, hq]
        exact h.to
      · skip
        repeat' (first | ((first | refine WLA.m rfl rfl ?_ ?_ | refine WDQ.m rfl rfl ?_ ?_ | refine WLA.st rfl ?_ ?_ | refine WLA.x rfl rfl ?_ (fun x => ?_) | refine WLA.x0 rfl ?_ (fun x => ?_)); first | exact trivial | exact rfl | assumption | omega | (refine ⟨?_, ?_⟩ <;> omega) | (simp only [Room, lenS]; omega) | decide | skip) | (refine Stp.go ?_) | (guard_target =~ WLA _ _ _ _ _ (⟨_, .call ⟨.value (.func 17), _, _⟩, _, _, _, _⟩ :: _) _ _; refine WLA.cq rfl rfl (rUsed_in (by rw [List.length_set, List.length_append]; simp; omega)) ?_) | (refine WPA.ifT ?_) | (refine WPA.ifF ?_) | (refine WLA.no rfl rfl ?_) | ((first | refine WPA.dec ?_ | ((fail_if_success (guard_target =~ WLA _ _ _ _ _ _ (put1 _ _ (.bool true)) _)); (fail_if_success (guard_target =~ WLA _ _ _ _ _ _ (put1 _ _ (.bool false)) _)); refine WLA.dec rfl rfl ?_) | refine WLA.pk ?_); first | refine .inl ⟨by first | assumption | omega | with_reducible rfl | (refine fun h => h ?_; first | assumption | with_reducible rfl) | (simp only [lenS] <;> omega) | decide, ?_⟩ | refine .inr ⟨by first | assumption | omega | with_reducible rfl | (refine fun h => h ?_; first | assumption | with_reducible rfl) | (simp only [lenS] <;> omega) | decide, ?_⟩) | ((first | refine WPA.ifBt ?_ ?_ | refine WPA.ifBnf ?_ ?_); assumption) | ((first | refine WPA.ifBnt ?_ ?_ | refine WPA.ifBf ?_ ?_); assumption) | ((first | refine WPA.ifs ?_ ?_ | refine WPA.ifB ?_ ?_) <;> intro hc) | ((fail_if_success (guard_target =~ WLA _ _ _ _ _ _ (put1 _ _ (.bool true)) _)); (fail_if_success (guard_target =~ WLA _ _ _ _ _ _ (put1 _ _ (.bool false)) _)); (first | refine WLA.both rfl rfl ?_ ?_ | refine WLA.bothB rfl rfl ?_ ?_) <;> intro hg) | (guard_target =~ WPA _ _ _ (.region 11 _ true) _ _ _; refine WPA.drawT 8 (.q 0 (.q 1 (.q 2 (.q 3 (.q 4 (.q 5 (.q 6 (.q 7 .fin)))))))) mixed ?_ ?_; kernel_rfl) | (refine WDA.finish (tl := [⟨_, _, _, _, _, _⟩, ⟨_, _, _, _, _, _⟩, ⟨_, _, _, _, _, _⟩]) rfl ?_) | (refine WDQ.see rfl ?_) | (guard_target =~ WDQ _ _ _ _ _ _ _ ⟨_, .call ⟨.value (.func 17), _, _⟩, _, _, _, _⟩ _ _ _; refine WDQ.cq rfl rfl (rUsed_in (by rw [List.length_set, List.length_append]; simp; omega)) ?_))
        rename_i a6 a5 a4 a3 a2 a1 a0
        refine QQ.end_ rfl () rfl fun w h => ?_
        have hp : padB m.tk = m.tk ++ [false] := by unfold padB; rw [if_neg (by omega)]
        have hq : padT m.tk m.ts = m.ts ++ [⟨#[]⟩] := by unfold padT; rw [if_neg (by omega)]
        rw [Int.toNat_natCast] at h
        refine (RefR.fold (x := m.alloc) (p := x) (q := a3) (by simp only [RS.alloc, hp, hq, List.length_set, List.length_append]; rw [hlt0]; rfl)).sl ?_
        simp only [RS.alloc, hp, hq]
        exact h.to
end
end Go.Proofs.YtamnobjdgjbmbaaGreat
namespace Go.Proofs.YtamnobjdgjbmbaaGreat
open Go Go.Fw Go.RowKit
set_option linter.unusedVariables false
set_option linter.unusedSimpArgs false
set_option maxRecDepth 100000
set_option maxHeartbeats 16000000
set_option synthInstance.maxHeartbeats 200000
set_option synthInstance.maxSize 100000
attribute [local irreducible] WPA WLA WDA WDQ WDE QQ seqQ blockQ loopQ fnQ OpP OpT Tr TrP SL SLd OwnS LitS Bk BkE Ob
structure Rel (m : BS) (r : RS) : Prop where
  size : r.size = m.size
  most : r.most = m.most
  tk : r.tk = m.tk
  peak : r.peak = m.peak
  len : r.ts.length = m.ts.length
  ts : ∀ i : Nat, m.tk[i]? = some true → r.ts[i]? = m.ts[i]?
def RS.alloc' (r : RS) : RS := if r.most ≤ firstFree r.tk then r else r.alloc
def RS.write' (r : RS) (id : Int) (t : ByteArray) : RS := if Has r.tk id then (if (t.size : Int) ≤ r.size then { r with ts := r.ts.set id.toNat t } else r) else r
def RS.free' (r : RS) (id : Int) : RS := if Has r.tk id then { r with tk := r.tk.set id.toNat false } else r
section
variable {S : Nat} {m : RS} {id : Int} {L L' : List HP} {w0 : World} {I : Foot} {t : ByteArray}
theorem rWrite_k [h : FindK L RefR S m L'] (hs : m.size ≤ 65536) : Tr Tryz.prog 70 #[.pointer (some ⟨S, 0, none⟩), .int .i64 id, .string t] (SL w0 I L) (fun _ : Unit => .int .i64 (if Has m.tk id then (if (t.size : Int) ≤ m.size then 0 else 5) else 7)) (fun _ => SL w0 I (RefR S (m.write' id t) :: L')) := by
  unfold RS.write'
  by_cases hh : Has m.tk id
  · simp only [if_pos hh]; exact rWrite_tr hh hs
  · simp only [if_neg hh]; exact rWrite_no hh
theorem rFree_k [h : FindK L RefR S m L'] : Tr Tryz.prog 73 #[.pointer (some ⟨S, 0, none⟩), .int .i64 id] (SL w0 I L) (fun _ : Unit => .int .i64 (if Has m.tk id then 0 else 7)) (fun _ => SL w0 I (RefR S (m.free' id) :: L')) := by
  unfold RS.free'
  by_cases hh : Has m.tk id
  · simp only [if_pos hh]; exact rFree_tr hh
  · simp only [if_neg hh]; exact rFree_no hh
end
theorem Rel.alloc {m : BS} {r : RS} (ok : m.Ok) (h : Rel m r) : Rel m.alloc' r.alloc' := by
  have hf := ok.full
  unfold BS.alloc' RS.alloc'
  rw [h.most, h.tk]
  by_cases hu : m.used = m.most
  · rw [if_pos hu, if_pos (hf.1 hu)]; exact h
  · rw [if_neg hu, if_neg (fun e => hu (hf.2 e))]
    refine ⟨h.size, h.most, by simp only [RS.alloc, BS.alloc, h.tk], ?_, ?_, ?_⟩
    · simp only [RS.alloc, BS.alloc, h.tk, h.peak]
      rw [count_set_t _ _ (padB_at m.tk), padB_cnt, ok.used]
      rfl
    · simp only [RS.alloc, BS.alloc, h.tk, List.length_set]
      unfold padT; split
      · exact h.len
      · rw [List.length_append, List.length_append, h.len]
    · intro i hi
      have hl := ok.lens
      simp only [RS.alloc, BS.alloc, h.tk] at hi ⊢
      have hpl := padB_len m.tk m.ts hl
      have hpl2 := padB_len m.tk r.ts (by rw [h.len]; exact hl)
      have hfp := firstFree_padB m.tk
      by_cases e : firstFree m.tk = i
      · subst e
        rw [List.getElem?_set_self (by omega)]
        unfold padT
        split
        · exact (ok.empty _ (firstFree_false _ ‹_›)).symm
        · have : firstFree m.tk = m.ts.length := by have := firstFree_le m.tk; omega
          rw [this]; simp
      · rw [List.getElem?_set_ne e] at hi ⊢
        rw [padB_ne _ _ (Ne.symm e)] at hi
        have h1 := (List.getElem?_eq_some_iff.1 hi).1
        rw [padT_at _ _ _ (by rw [h.len]; omega), padT_at _ _ _ (by omega)]
        exact h.ts i hi
theorem Rel.write {m : BS} {r : RS} {id : Int} {t : ByteArray} (ok : m.Ok) (h : Rel m r) : Rel (m.write' id t) (r.write' id t) := by
  unfold BS.write' RS.write'
  rw [h.tk, h.size]
  by_cases hh : Has m.tk id
  · by_cases ht : (t.size : Int) ≤ m.size
    · rw [if_pos hh, if_pos ht, if_pos ⟨hh, ht⟩]
      refine ⟨rfl, h.most, rfl, h.peak, by simp only [BS.write, List.length_set]; exact h.len, ?_⟩
      intro i hi
      simp only [BS.write] at hi ⊢
      have hl := h.len
      rw [List.getElem?_set, List.getElem?_set, hl, h.ts i hi]
    · rw [if_pos hh, if_neg ht, if_neg (fun e => ht e.2)]; exact h
  · rw [if_neg hh, if_neg (fun e => hh e.1)]; exact h
theorem Rel.free {m : BS} {r : RS} {id : Int} (ok : m.Ok) (h : Rel m r) : Rel (m.free' id) (r.free' id) := by
  unfold BS.free' RS.free'
  rw [h.tk]
  by_cases hh : Has m.tk id
  · rw [if_pos hh, if_pos hh]
    refine ⟨h.size, h.most, rfl, h.peak, by simp only [BS.free, List.length_set]; exact h.len, ?_⟩
    intro i hi
    simp only [BS.free] at hi ⊢
    by_cases e : id.toNat = i
    · subst e; rw [List.getElem?_set_self (by have := hh.1; omega)] at hi; cases hi
    · rw [List.getElem?_set_ne e] at hi ⊢
      exact h.ts i hi
  · rw [if_neg hh, if_neg hh]; exact h
instance {ρ : Env} {A : World → Prop} {ty t : TypeId} {x : Operand} {r : RS} {S : Nat} {w0 : World} {I : Foot} {L L' : List HP} [hx : Ev ρ x (.pointer (some ⟨S, 0 + 4, none⟩))] [ht : One Tryz.prog t] [hA : InSL A w0 I L] [hb : FindK L RefR S r L'] : OpM Tryz.prog ρ A (.load t x) ty (.int .i64 r.peak) True :=
  ⟨fun _ => P_load ht.out hx.out fun w hw => by
    obtain ⟨q, hq⟩ := (inferInstance : Opn (RefR S r) _ _).out _ _ _ _ (hb.out.sl (hA.out w hw))
    exact cell_of_heap hq.bk (by simp)⟩
end Go.Proofs.YtamnobjdgjbmbaaGreat
