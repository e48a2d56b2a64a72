/- Texts that TallyFree_law leans on, part 11. Conditions: none. -/
import Derived.Test.YtamnobjdgjbmbaaGreatQf10
namespace Go.Proofs.YtamnobjdgjbmbaaGreat
open Go Go.Fw Go.RowKit
set_option linter.unusedVariables false
set_option linter.unusedSimpArgs false
set_option maxRecDepth 100000
set_option maxHeartbeats 16000000
set_option synthInstance.maxHeartbeats 200000
set_option synthInstance.maxSize 100000
attribute [local irreducible] WPA WLA WDA WDQ WDE QQ seqQ blockQ loopQ fnQ OpP OpT Tr TrP SL SLd OwnS LitS Bk BkE Ob
def firstFree : List Bool → Nat
  | true :: l => firstFree l + 1
  | _ => 0
theorem firstFree_le : ∀ l, firstFree l ≤ l.length
  | [] => Nat.le_refl _
  | true :: l => by simp only [firstFree, List.length_cons]; have := firstFree_le l; omega
  | false :: l => by simp [firstFree]
theorem firstFree_of : ∀ (l : List Bool) (i : Nat), (∀ j, j < i → l[j]? = some true) → (l[i]? ≠ some true) → firstFree l = i
  | [], 0, _, _ => rfl
  | [], i + 1, h, _ => by have := h 0 (by omega); simp at this
  | true :: l, 0, _, h => by simp at h
  | false :: l, 0, _, _ => rfl
  | true :: l, i + 1, h, h2 => by
    rw [firstFree, firstFree_of l i (fun j hj => by simpa using h (j + 1) (by omega)) (by simpa using h2)]
  | false :: l, i + 1, h, _ => by have := h 0 (by omega); simp at this
def padB (tk : List Bool) : List Bool := if firstFree tk < tk.length then tk else tk ++ [false]
def padT (tk : List Bool) (ts : List ByteArray) : List ByteArray := if firstFree tk < tk.length then ts else ts ++ [⟨#[]⟩]
def BS.alloc (x : BS) : BS := ⟨x.size, x.most, (padB x.tk).set (firstFree x.tk) true, padT x.tk x.ts, firstFree x.tk, x.used + 1, max x.peak (x.used + 1)⟩
structure BS.Ok (x : BS) : Prop where
  lens : x.tk.length = x.ts.length
  low0 : 0 ≤ x.low ∧ x.low ≤ x.tk.length
  lowt : ∀ j : Nat, (j : Int) < x.low → x.tk[j]? = some true
  used : x.used = x.tk.count true
  um : x.used ≤ x.most
  lm : x.tk.length ≤ x.most
  most : 1 ≤ x.most ∧ x.most ≤ 1048576
  size : 1 ≤ x.size ∧ x.size ≤ 65536
  peak : 0 ≤ x.peak ∧ x.peak ≤ x.most
  empty : ∀ i : Nat, x.tk[i]? = some false → x.ts[i]? = some ⟨#[]⟩
theorem BS.Ok.used0 {x : BS} (h : x.Ok) : 0 ≤ x.used := by rw [h.used]; omega
theorem bmap_set_fst {ps : List Prt} {i : Nat} {b : Bool} : (ps.set i ((at_ ps (i : Int)).1, b)).map Prod.fst = ps.map Prod.fst := by
  rw [List.map_set]
  refine List.ext_getElem? fun j => ?_
  rw [List.getElem?_set]
  split
  · rename_i e; subst e
    split
    · rename_i h1; rw [List.length_map] at h1; rw [List.getElem?_map, at_nat ps i h1, List.getElem?_eq_getElem h1]; rfl
    · rename_i h1; rw [List.getElem?_eq_none (by omega)]
  · rfl
theorem Alloc_tr {S : Nat} {m : BS} {L L' : List HP} {w0 : World} {I : Foot} [h : FindK L StoreR S m L'] (ok : m.Ok) (hu : m.used < m.most) :
    Tr Tryz.prog 88 #[.pointer (some ⟨S, 0, none⟩)] (SL w0 I L) (fun _ : Unit => .tuple #[.int .i64 (firstFree m.tk), .int .i64 0]) (fun _ => SL w0 I (StoreR S m.alloc :: L')) := by
  refine Tr.at h.out (Tr.opn ?_)
  rintro ⟨⟨p, ps⟩, hps, hl⟩
  dsimp only at hps ⊢
  have hlen : ps.length = m.tk.length := by rw [← hps]; simp
  have hu0 := ok.used0
  have hm := ok.most
  have hlm := ok.lm
  have hpk := ok.peak
  refine Tr.intro Tryz.func88 rfl Tryz.ntmps88 rfl ?_
  have hne : ¬ m.used = m.most := by omega
  repeat' (first | ((first | refine WLA.m rfl rfl ?_ ?_ | refine WDQ.m rfl rfl ?_ ?_ | refine WLA.st rfl ?_ ?_ | refine WLA.x rfl rfl ?_ (fun x => ?_) | refine WLA.x0 rfl ?_ (fun x => ?_)); first | exact trivial | exact rfl | assumption | omega | (refine ⟨?_, ?_⟩ <;> omega) | (simp only [Room, lenS]; omega) | decide | skip) | (refine Stp.go ?_) | (refine WPA.ifT ?_) | (refine WPA.ifF ?_) | ((first | refine WPA.dec ?_); first | refine .inl ⟨by first | assumption | omega | with_reducible rfl | (refine fun h => h ?_; first | assumption | with_reducible rfl) | (simp only [lenS] <;> omega) | decide, ?_⟩ | refine .inr ⟨by first | assumption | omega | with_reducible rfl | (refine fun h => h ?_; first | assumption | with_reducible rfl) | (simp only [lenS] <;> omega) | decide, ?_⟩) | ((first | refine WPA.ifBt ?_ ?_ | refine WPA.ifBnf ?_ ?_); assumption) | ((first | refine WPA.ifBnt ?_ ?_ | refine WPA.ifBf ?_ ?_); assumption) | ((first | refine WPA.ifs ?_ ?_ | refine WPA.ifB ?_ ?_) <;> intro hc) | (guard_target =~ WPA _ _ _ (.region 3 _ true) _ _ _; refine WPA.drawT 8 (.q 0 (.q 1 (.q 2 (.q 3 (.q 4 (.q 5 (.q 6 (.q 7 .fin)))))))) mixed ?_ ?_; kernel_rfl) | (refine WDA.finish (tl := [⟨_, _, _, _, _, _⟩, ⟨_, _, _, _, _, _⟩]) rfl ?_) | (refine WDQ.see rfl ?_))
  refine WPA.loopS (σ := Nat) (fun x => [(0, .pointer (some ⟨S, 0, none⟩))]) (fun i => i ≤ ps.length ∧ ∀ j : Nat, j < i → m.tk[j]? = some true)
    (fun i => SL w0 I (Bk S 93 [.int .i64 m.size, .int .i64 m.most, .slice p.a p.n p.cap, .int .i64 i, .int .i64 m.used, .int .i64 m.peak] :: OwnS 187 p ps :: BytesH 5 (ps.map Prod.fst) m.ts :: L')) (fun i => ps.length - i) m.low.toNat ⟨rfl, trivial⟩ ⟨by have := ok.low0; omega, fun j hj => ok.lowt j (by omega)⟩ (fun w h => by
      rw [show ((m.low.toNat : Nat) : Int) = m.low by have := ok.low0; omega]; exact h.to) ?_
  rintro i ρ ⟨hi, hj⟩
  have hat := at_map hps i
  by_cases hb : (i : Int) < ps.length ∧ at_ m.tk i = true
  · have hlt := hb.1
    rw [hb.2] at hat
    have hx : m.tk[i]? = some true := by
      have := hb.2
      rw [at_nat m.tk i (by omega)] at this
      rw [List.getElem?_eq_getElem (by omega), this]
    repeat' (first | ((first | refine WLA.m rfl rfl ?_ ?_ | refine WDQ.m rfl rfl ?_ ?_ | refine WLA.st rfl ?_ ?_ | refine WLA.x rfl rfl ?_ (fun x => ?_) | refine WLA.x0 rfl ?_ (fun x => ?_)); first | exact trivial | exact rfl | assumption | omega | (refine ⟨?_, ?_⟩ <;> omega) | (simp only [Room, lenS]; omega) | decide | skip) | (refine Stp.go ?_) | (refine WPA.ifT ?_) | (refine WPA.ifF ?_) | (refine WLA.no rfl rfl ?_) | (refine WDQ.no rfl rfl ?_) | ((first | refine WPA.dec ?_ | ((fail_if_success (guard_target =~ WLA _ _ _ _ _ _ (put1 _ _ (.bool true)) _)); (fail_if_success (guard_target =~ WLA _ _ _ _ _ _ (put1 _ _ (.bool false)) _)); refine WLA.dec rfl rfl ?_) | refine WLA.pk ?_ | refine WDQ.dec rfl rfl ?_); first | refine .inl ⟨by first | assumption | omega | with_reducible rfl | (refine fun h => h ?_; first | assumption | with_reducible rfl) | (simp only [lenS] <;> omega) | decide, ?_⟩ | refine .inr ⟨by first | assumption | omega | with_reducible rfl | (refine fun h => h ?_; first | assumption | with_reducible rfl) | (simp only [lenS] <;> omega) | decide, ?_⟩) | ((first | refine WPA.ifBt ?_ ?_ | refine WPA.ifBnf ?_ ?_); assumption) | ((first | refine WPA.ifBnt ?_ ?_ | refine WPA.ifBf ?_ ?_); assumption) | ((first | refine WPA.ifs ?_ ?_ | refine WPA.ifB ?_ ?_) <;> intro hc) | ((fail_if_success (guard_target =~ WLA _ _ _ _ _ _ (put1 _ _ (.bool true)) _)); (fail_if_success (guard_target =~ WLA _ _ _ _ _ _ (put1 _ _ (.bool false)) _)); (first | refine WLA.both rfl rfl ?_ ?_ | refine WLA.bothB rfl rfl ?_ ?_) <;> intro hg) | (guard_target =~ WPA _ _ _ (.region 5 _ true) _ _ _; refine WPA.drawT 19 (.q 0 (.q 1 (.q 2 (.q 3 (.q 4 (.q 5 (.q 6 (.q 7 (.q 8 (.q 9 (.q 10 (.q 11 (.q 12 (.q 13 (.q 14 (.q 15 (.q 16 (.q 17 (.q 18 .fin))))))))))))))))))) mixed ?_ ?_; kernel_rfl) | (refine WDA.finish (tl := [⟨_, _, _, _, _, _⟩, ⟨_, _, _, _, _, _⟩, ⟨_, _, _, _, _, _⟩, ⟨_, _, _, _, _, _⟩]) rfl ?_) | (refine WDQ.see rfl ?_) | ((first | refine WDQ.both rfl rfl ?_ ?_) <;> intro hg))
    refine QQ.loopS (i + 1) ⟨rfl, trivial⟩ ⟨by omega, fun j hj' => ?_⟩ (by omega) (fun w h => by rw [show ((i + 1 : Nat) : Int) = (i : Int) + 1 from rfl]; exact h.to)
    by_cases hji : j = i
    · rw [hji]; exact hx
    · exact hj j (by omega)
  · have hff : firstFree m.tk = i := by
      refine firstFree_of _ _ hj fun h2 => hb ?_
      have hi2 := (List.getElem?_eq_some_iff.1 h2).1
      refine ⟨by omega, ?_⟩
      rw [at_nat m.tk i hi2]
      exact (List.getElem?_eq_some_iff.1 h2).2
    by_cases hlt : (i : Int) < ps.length
    · have hf : (at_ ps i).2 = false := by
        rw [hat]
        cases h2 : at_ m.tk i with
        | true => exact absurd ⟨hlt, h2⟩ hb
        | false => rfl
      have hne2 : ¬ (i : Int) = ps.length := by omega
      repeat' (first | ((first | refine WLA.m rfl rfl ?_ ?_ | refine WDQ.m rfl rfl ?_ ?_ | refine WLA.st rfl ?_ ?_ | refine WLA.x rfl rfl ?_ (fun x => ?_) | refine WLA.x0 rfl ?_ (fun x => ?_)); first | exact trivial | exact rfl | assumption | omega | (refine ⟨?_, ?_⟩ <;> omega) | (simp only [Room, lenS]; omega) | decide | skip) | (refine Stp.go ?_) | (refine WPA.ifT ?_) | (refine WPA.ifF ?_) | (refine WLA.no rfl rfl ?_) | (refine WDQ.no rfl rfl ?_) | ((first | refine WPA.dec ?_ | ((fail_if_success (guard_target =~ WLA _ _ _ _ _ _ (put1 _ _ (.bool true)) _)); (fail_if_success (guard_target =~ WLA _ _ _ _ _ _ (put1 _ _ (.bool false)) _)); refine WLA.dec rfl rfl ?_) | refine WLA.pk ?_ | refine WDQ.dec rfl rfl ?_); first | refine .inl ⟨by first | assumption | omega | with_reducible rfl | (refine fun h => h ?_; first | assumption | with_reducible rfl) | (simp only [lenS] <;> omega) | decide, ?_⟩ | refine .inr ⟨by first | assumption | omega | with_reducible rfl | (refine fun h => h ?_; first | assumption | with_reducible rfl) | (simp only [lenS] <;> omega) | decide, ?_⟩) | ((first | refine WPA.ifBt ?_ ?_ | refine WPA.ifBnf ?_ ?_); assumption) | ((first | refine WPA.ifBnt ?_ ?_ | refine WPA.ifBf ?_ ?_); assumption) | ((first | refine WPA.ifs ?_ ?_ | refine WPA.ifB ?_ ?_) <;> intro hc) | ((fail_if_success (guard_target =~ WLA _ _ _ _ _ _ (put1 _ _ (.bool true)) _)); (fail_if_success (guard_target =~ WLA _ _ _ _ _ _ (put1 _ _ (.bool false)) _)); (first | refine WLA.both rfl rfl ?_ ?_ | refine WLA.bothB rfl rfl ?_ ?_) <;> intro hg) | (guard_target =~ WPA _ _ _ (.region 3 _ true) _ _ _; refine WPA.drawT 8 (.q 0 (.q 1 (.q 2 (.q 3 (.q 4 (.q 5 (.q 6 (.q 7 .fin)))))))) mixed ?_ ?_; kernel_rfl) | (guard_target =~ WPA _ _ _ (.region 5 _ true) _ _ _; refine WPA.drawT 19 (.q 0 (.q 1 (.q 2 (.q 3 (.q 4 (.q 5 (.q 6 (.q 7 (.q 8 (.q 9 (.q 10 (.q 11 (.q 12 (.q 13 (.q 14 (.q 15 (.q 16 (.q 17 (.q 18 .fin))))))))))))))))))) mixed ?_ ?_; kernel_rfl) | (guard_target =~ WPA _ _ _ (.region 7 _ true) _ _ _; refine WPA.drawT 9 (.q 0 (.q 1 (.q 2 (.q 3 (.q 4 (.q 5 (.q 6 (.q 7 (.q 8 .fin))))))))) mixed ?_ ?_; kernel_rfl) | (guard_target =~ WPA _ _ _ (.region 9 _ true) _ _ _; refine WPA.drawT 8 (.q 0 (.q 1 (.q 2 (.q 3 (.q 4 (.q 5 (.q 6 (.q 7 .fin)))))))) mixed ?_ ?_; kernel_rfl) | (guard_target =~ WPA _ _ _ (.region 11 _ true) _ _ _; refine WPA.drawT 10 (.q 0 (.q 1 (.q 2 (.q 3 (.q 4 (.q 5 (.q 6 (.q 7 (.q 8 (.q 9 .fin)))))))))) mixed ?_ ?_; kernel_rfl) | (refine WDA.finish (tl := [⟨_, _, _, _, _, _⟩]) rfl ?_) | (refine WDA.finish (tl := [⟨_, _, _, _, _, _⟩, ⟨_, _, _, _, _, _⟩]) rfl ?_) | (refine WDA.finish (tl := [⟨_, _, _, _, _, _⟩, ⟨_, _, _, _, _, _⟩, ⟨_, _, _, _, _, _⟩]) rfl ?_) | (refine WDA.finish (tl := [⟨_, _, _, _, _, _⟩, ⟨_, _, _, _, _, _⟩, ⟨_, _, _, _, _, _⟩, ⟨_, _, _, _, _, _⟩]) rfl ?_) | (refine WDQ.see rfl ?_) | ((first | refine WDQ.both rfl rfl ?_ ?_) <;> intro hg))
      refine QQ.end_ rfl () (by rw [hff]) fun w h => ?_
      subst hff
      have hp : padB m.tk = m.tk := by unfold padB; rw [if_pos (by omega)]
      have hq : padT m.tk m.ts = m.ts := by unfold padT; rw [if_pos (by omega)]
      rw [Int.toNat_natCast] at h
      refine (StoreR.fold (x := m.alloc) (p := p) (ps := ps.set (firstFree m.tk) ((at_ ps (firstFree m.tk : Int)).1, true)) (by rw [List.map_set, hps]; simp only [BS.alloc, hp]) (by simp only [BS.alloc, hp, hq, List.length_set]; exact hl)).sl ?_
      rw [bmap_set_fst]
      simp only [BS.alloc, hq]
      exact h.to
    · have he : (i : Int) = ps.length := by omega
      repeat' (first | ((first | refine WLA.m rfl rfl ?_ ?_ | refine WDQ.m rfl rfl ?_ ?_ | refine WLA.st rfl ?_ ?_ | refine WLA.x rfl rfl ?_ (fun x => ?_) | refine WLA.x0 rfl ?_ (fun x => ?_)); first | exact trivial | exact rfl | assumption | omega | (refine ⟨?_, ?_⟩ <;> omega) | (simp only [Room, lenS]; omega) | decide | skip) | (refine Stp.go ?_) | (refine WPA.ifT ?_) | (refine WPA.ifF ?_) | (refine WLA.no rfl rfl ?_) | (refine WDQ.no rfl rfl ?_) | ((first | refine WPA.dec ?_ | ((fail_if_success (guard_target =~ WLA _ _ _ _ _ _ (put1 _ _ (.bool true)) _)); (fail_if_success (guard_target =~ WLA _ _ _ _ _ _ (put1 _ _ (.bool false)) _)); refine WLA.dec rfl rfl ?_) | refine WLA.pk ?_ | refine WDQ.dec rfl rfl ?_); first | refine .inl ⟨by first | assumption | omega | with_reducible rfl | (refine fun h => h ?_; first | assumption | with_reducible rfl) | (simp only [lenS] <;> omega) | decide, ?_⟩ | refine .inr ⟨by first | assumption | omega | with_reducible rfl | (refine fun h => h ?_; first | assumption | with_reducible rfl) | (simp only [lenS] <;> omega) | decide, ?_⟩) | ((first | refine WPA.ifBt ?_ ?_ | refine WPA.ifBnf ?_ ?_); assumption) | ((first | refine WPA.ifBnt ?_ ?_ | refine WPA.ifBf ?_ ?_); assumption) | ((first | refine WPA.ifs ?_ ?_ | refine WPA.ifB ?_ ?_) <;> intro hc) | ((fail_if_success (guard_target =~ WLA _ _ _ _ _ _ (put1 _ _ (.bool true)) _)); (fail_if_success (guard_target =~ WLA _ _ _ _ _ _ (put1 _ _ (.bool false)) _)); (first | refine WLA.both rfl rfl ?_ ?_ | refine WLA.bothB rfl rfl ?_ ?_) <;> intro hg) | (guard_target =~ WPA _ _ _ (.region 3 _ true) _ _ _; refine WPA.drawT 8 (.q 0 (.q 1 (.q 2 (.q 3 (.q 4 (.q 5 (.q 6 (.q 7 .fin)))))))) mixed ?_ ?_; kernel_rfl) | (guard_target =~ WPA _ _ _ (.region 5 _ true) _ _ _; refine WPA.drawT 19 (.q 0 (.q 1 (.q 2 (.q 3 (.q 4 (.q 5 (.q 6 (.q 7 (.q 8 (.q 9 (.q 10 (.q 11 (.q 12 (.q 13 (.q 14 (.q 15 (.q 16 (.q 17 (.q 18 .fin))))))))))))))))))) mixed ?_ ?_; kernel_rfl) | (guard_target =~ WPA _ _ _ (.region 7 _ true) _ _ _; refine WPA.drawT 9 (.q 0 (.q 1 (.q 2 (.q 3 (.q 4 (.q 5 (.q 6 (.q 7 (.q 8 .fin))))))))) mixed ?_ ?_; kernel_rfl) | (guard_target =~ WPA _ _ _ (.region 9 _ true) _ _ _; refine WPA.drawT 8 (.q 0 (.q 1 (.q 2 (.q 3 (.q 4 (.q 5 (.q 6 (.q 7 .fin)))))))) mixed ?_ ?_; kernel_rfl) | (guard_target =~ WPA _ _ _ (.region 11 _ true) _ _ _; refine WPA.drawT 10 (.q 0 (.q 1 (.q 2 (.q 3 (.q 4 (.q 5 (.q 6 (.q 7 (.q 8 (.q 9 .fin)))))))))) mixed ?_ ?_; kernel_rfl) | (refine WDA.finish (tl := [⟨_, _, _, _, _, _⟩]) rfl ?_) | (refine WDA.finish (tl := [⟨_, _, _, _, _, _⟩, ⟨_, _, _, _, _, _⟩]) rfl ?_) | (refine WDA.finish (tl := [⟨_, _, _, _, _, _⟩, ⟨_, _, _, _, _, _⟩, ⟨_, _, _, _, _, _⟩]) rfl ?_) | (refine WDA.finish (tl := [⟨_, _, _, _, _, _⟩, ⟨_, _, _, _, _, _⟩, ⟨_, _, _, _, _, _⟩, ⟨_, _, _, _, _, _⟩]) rfl ?_) | (refine WDQ.see rfl ?_) | ((first | refine WDQ.both rfl rfl ?_ ?_) <;> intro hg))
      refine QQ.end_ rfl () (by rw [hff]) fun w h => ?_
      subst hff
      have hp : padB m.tk = m.tk ++ [false] := by unfold padB; rw [if_neg (by omega)]
      have hq : padT m.tk m.ts = m.ts ++ [⟨#[]⟩] := by unfold padT; rw [if_neg (by omega)]
      rw [Int.toNat_natCast] at h
      have h2 := ((Ent.cons (Ent.cons (BytesH.pad (by rw [List.length_map]; omega))))).sl h
      refine (StoreR.fold (x := m.alloc) (p := x) (ps := (ps ++ [(SV.nil, false)]).set (firstFree m.tk) ((at_ (ps ++ [(SV.nil, false)]) (firstFree m.tk : Int)).1, true)) (by rw [List.map_set, List.map_append, hps]; simp only [BS.alloc, hp]; rfl) (by simp only [BS.alloc, hp, hq, List.length_set, List.length_append]; rw [hl]; rfl)).sl ?_
      rw [bmap_set_fst, List.map_append, show List.map Prod.fst [((SV.nil, false) : Prt)] = [SV.nil] from rfl]
      simp only [BS.alloc, hq]
      exact h2.to
end Go.Proofs.YtamnobjdgjbmbaaGreat
namespace Go.Proofs.YtamnobjdgjbmbaaGreat
open Go Go.Fw Go.RowKit
set_option linter.unusedVariables false
set_option linter.unusedSimpArgs false
set_option maxRecDepth 100000
set_option maxHeartbeats 16000000
set_option synthInstance.maxHeartbeats 200000
set_option synthInstance.maxSize 100000
attribute [local irreducible] WPA WLA WDA WDQ WDE QQ seqQ blockQ loopQ fnQ OpP OpT Tr TrP SL SLd OwnS LitS Bk BkE Ob
def BS.write (m : BS) (id : Int) (t : ByteArray) : BS := { m with ts := m.ts.set id.toNat t }
def BS.free (m : BS) (id : Int) : BS := { m with tk := m.tk.set id.toNat false, ts := m.ts.set id.toNat ⟨#[]⟩, low := min m.low id, used := m.used - 1 }
theorem at_fst (ps : List Prt) (id : Int) (h0 : 0 ≤ id) (h : id < ps.length) : (at_ ps id).1 = (ps.map Prod.fst)[id.toNat]'(by rw [List.length_map]; omega) := by
  rw [at_int ps id h0 h, List.getElem_map]
theorem at_txt (ts : List ByteArray) (id : Int) (h0 : 0 ≤ id) (h : id < ts.length) : at_ ts id = ts[id.toNat]'(by omega) := at_int ts id h0 h
theorem focus_at {e : TypeId} {ps : List Prt} {ts : List ByteArray} {L : List HP} (id : Int) (h : 0 ≤ id ∧ id < ps.length) (hl : ps.length = ts.length) :
    Ent (BytesH e (ps.map Prod.fst) ts :: L) (OwnS e (at_ ps id).1 (bytesK (at_ ts id)) :: BytesX e id.toNat (ps.map Prod.fst) ts :: L) := by
  rw [at_fst ps id h.1 h.2, at_txt ts id h.1 (by omega)]
  exact BytesH.focus id.toNat (by rw [List.length_map]; omega) (by rw [List.length_map]; exact hl)
theorem back_at {e : TypeId} {ps : List Prt} {ts : List ByteArray} {L : List HP} {s : SV} {t : ByteArray} {b : Bool} (id : Int) (h : 0 ≤ id ∧ id < ps.length) (hl : ps.length = ts.length) :
    Ent (OwnS e s (bytesK t) :: BytesX e id.toNat (ps.map Prod.fst) ts :: L) (BytesH e ((ps.set id.toNat (s, b)).map Prod.fst) (ts.set id.toNat t) :: L) := by
  rw [List.map_set]
  exact BytesH.back id.toNat (by rw [List.length_map]; omega) (by rw [List.length_map]; exact hl)
theorem set_self {α : Type} [Enc α] (l : List α) (id : Int) (h : 0 ≤ id ∧ id < l.length) : l.set id.toNat (at_ l id) = l := by
  rw [at_int l id h.1 h.2, List.set_getElem_self]
theorem at_set {α : Type} [Enc α] (l : List α) (id : Int) (y : α) (h : 0 ≤ id ∧ id < l.length) : at_ (l.set id.toNat y) id = y := by
  rw [at_int _ id h.1 (by rw [List.length_set]; exact h.2), List.getElem_set_self]
section
variable {S : Nat} {m : BS} {id : Int} {L L' : List HP} {w0 : World} {I : Foot}
theorem Read_no [h : FindK L StoreR S m L'] (hh : ¬ Has m.tk id) : Tr Tryz.prog 74 #[.pointer (some ⟨S, 0, none⟩), .int .i64 id] (SL w0 I L) (fun _ : Unit => .tuple #[.string ⟨#[]⟩, .int .i64 7]) (fun _ => SL w0 I (StoreR S m :: L')) := by
  refine Tr.at h.out ?_
  refine Tr.intro Tryz.func74 rfl Tryz.ntmps74 rfl ?_
  have e : (if Has m.tk id then (0 : Int) else 7) = 7 := if_neg hh
  repeat' (first | ((first | refine WLA.m rfl rfl ?_ ?_ | refine WLA.st rfl ?_ ?_ | refine WLA.x rfl rfl ?_ (fun x => ?_) | refine WLA.x0 rfl ?_ (fun x => ?_)); first | exact trivial | exact rfl | assumption | omega | (refine ⟨?_, ?_⟩ <;> omega) | (simp only [Room, lenS]; omega) | decide | skip) | (refine Stp.go ?_) | (guard_target =~ WLA _ _ _ _ _ (⟨_, .call ⟨.value (.func 100), _, _⟩, _, _, _, _⟩ :: _) _ _; refine WLA.cq rfl rfl (e ▸ check_tr) ?_) | (refine WPA.ifT ?_) | (refine WPA.ifF ?_) | ((first | refine WPA.dec ?_); first | refine .inl ⟨by first | assumption | omega | with_reducible rfl | (refine fun h => h ?_; first | assumption | with_reducible rfl) | (simp only [lenS] <;> omega) | decide, ?_⟩ | refine .inr ⟨by first | assumption | omega | with_reducible rfl | (refine fun h => h ?_; first | assumption | with_reducible rfl) | (simp only [lenS] <;> omega) | decide, ?_⟩) | ((first | refine WPA.ifBt ?_ ?_ | refine WPA.ifBnf ?_ ?_); assumption) | ((first | refine WPA.ifBnt ?_ ?_ | refine WPA.ifBf ?_ ?_); assumption) | ((first | refine WPA.ifs ?_ ?_ | refine WPA.ifB ?_ ?_) <;> intro hc))
  exact QQ.end_ rfl () rfl fun w h => h
theorem Read_tr [h : FindK L StoreR S m L'] (hh : Has m.tk id) : Tr Tryz.prog 74 #[.pointer (some ⟨S, 0, none⟩), .int .i64 id] (SL w0 I L) (fun _ : Unit => .tuple #[.string (at_ m.ts id), .int .i64 0]) (fun _ => SL w0 I (StoreR S m :: L')) := by
  refine Tr.at h.out ?_
  refine Tr.intro Tryz.func74 rfl Tryz.ntmps74 rfl ?_
  have e : (if Has m.tk id then (0 : Int) else 7) = 0 := if_pos hh
  repeat' (first | ((first | refine WLA.m rfl rfl ?_ ?_ | refine WLA.st rfl ?_ ?_ | refine WLA.x rfl rfl ?_ (fun x => ?_) | refine WLA.x0 rfl ?_ (fun x => ?_)); first | exact trivial | exact rfl | assumption | omega | (refine ⟨?_, ?_⟩ <;> omega) | (simp only [Room, lenS]; omega) | decide | skip) | (refine Stp.go ?_) | (guard_target =~ WLA _ _ _ _ _ (⟨_, .call ⟨.value (.func 100), _, _⟩, _, _, _, _⟩ :: _) _ _; refine WLA.cq rfl rfl (e ▸ check_tr) ?_) | (refine WPA.ifT ?_) | (refine WPA.ifF ?_) | ((first | refine WPA.dec ?_); first | refine .inl ⟨by first | assumption | omega | with_reducible rfl | (refine fun h => h ?_; first | assumption | with_reducible rfl) | (simp only [lenS] <;> omega) | decide, ?_⟩ | refine .inr ⟨by first | assumption | omega | with_reducible rfl | (refine fun h => h ?_; first | assumption | with_reducible rfl) | (simp only [lenS] <;> omega) | decide, ?_⟩) | ((first | refine WPA.ifBt ?_ ?_ | refine WPA.ifBnf ?_ ?_); assumption) | ((first | refine WPA.ifBnt ?_ ?_ | refine WPA.ifBf ?_ ?_); assumption) | ((first | refine WPA.ifs ?_ ?_ | refine WPA.ifB ?_ ?_) <;> intro hc))
  refine WLA.opn ?_
  rintro ⟨⟨p, ps⟩, hps, hl⟩
  dsimp only at hps ⊢
  have hlen : ps.length = m.tk.length := by rw [← hps]; simp
  have hr : 0 ≤ id ∧ id < ps.length := by have := hh.1; omega
  refine WLA.ent (Ent.cons (Ent.cons (focus_at id hr (by omega)))) ?_
  repeat' (first | ((first | refine WLA.m rfl rfl ?_ ?_ | refine WLA.st rfl ?_ ?_ | refine WLA.x rfl rfl ?_ (fun x => ?_) | refine WLA.x0 rfl ?_ (fun x => ?_)); first | exact trivial | exact rfl | assumption | omega | (refine ⟨?_, ?_⟩ <;> omega) | (simp only [Room, lenS]; omega) | decide | skip) | (refine Stp.go ?_) | (refine WPA.ifT ?_) | (refine WPA.ifF ?_) | ((first | refine WPA.dec ?_); first | refine .inl ⟨by first | assumption | omega | with_reducible rfl | (refine fun h => h ?_; first | assumption | with_reducible rfl) | (simp only [lenS] <;> omega) | decide, ?_⟩ | refine .inr ⟨by first | assumption | omega | with_reducible rfl | (refine fun h => h ?_; first | assumption | with_reducible rfl) | (simp only [lenS] <;> omega) | decide, ?_⟩) | ((first | refine WPA.ifBt ?_ ?_ | refine WPA.ifBnf ?_ ?_); assumption) | ((first | refine WPA.ifBnt ?_ ?_ | refine WPA.ifBf ?_ ?_); assumption) | ((first | refine WPA.ifs ?_ ?_ | refine WPA.ifB ?_ ?_) <;> intro hc))
  refine QQ.end_ rfl () rfl fun w h => ?_
  refine (StoreR.fold (p := p) hps hl).sl ?_
  have h2 := (Ent.cons (Ent.cons (back_at (b := (at_ ps id).2) id hr (by omega)))).sl h
  rw [set_self ps id hr, set_self m.ts id (by omega)] at h2
  exact h2.to
theorem Write_tr [h : FindK L StoreR S m L'] {t : ByteArray} (hh : Has m.tk id) (ht : t.size ≤ m.size) (hs : m.size ≤ 65536) : Tr Tryz.prog 89 #[.pointer (some ⟨S, 0, none⟩), .int .i64 id, .string t] (SL w0 I L) (fun _ : Unit => .int .i64 0) (fun _ => SL w0 I (StoreR S (m.write id t) :: L')) := by
  refine Tr.at h.out ?_
  refine Tr.intro Tryz.func89 rfl Tryz.ntmps89 rfl ?_
  have e : (if Has m.tk id then (0 : Int) else 7) = 0 := if_pos hh
  repeat' (first | ((first | refine WLA.m rfl rfl ?_ ?_ | refine WLA.st rfl ?_ ?_ | refine WLA.x rfl rfl ?_ (fun x => ?_) | refine WLA.x0 rfl ?_ (fun x => ?_)); first | exact trivial | exact rfl | assumption | omega | (refine ⟨?_, ?_⟩ <;> omega) | (simp only [Room, lenS]; omega) | decide | skip) | (refine Stp.go ?_) | (guard_target =~ WLA _ _ _ _ _ (⟨_, .call ⟨.value (.func 100), _, _⟩, _, _, _, _⟩ :: _) _ _; refine WLA.cq rfl rfl (e ▸ check_tr) ?_) | (refine WPA.ifT ?_) | (refine WPA.ifF ?_) | ((first | refine WPA.dec ?_); first | refine .inl ⟨by first | assumption | omega | with_reducible rfl | (refine fun h => h ?_; first | assumption | with_reducible rfl) | (simp only [lenS] <;> omega) | decide, ?_⟩ | refine .inr ⟨by first | assumption | omega | with_reducible rfl | (refine fun h => h ?_; first | assumption | with_reducible rfl) | (simp only [lenS] <;> omega) | decide, ?_⟩) | ((first | refine WPA.ifBt ?_ ?_ | refine WPA.ifBnf ?_ ?_); assumption) | ((first | refine WPA.ifBnt ?_ ?_ | refine WPA.ifBf ?_ ?_); assumption) | ((first | refine WPA.ifs ?_ ?_ | refine WPA.ifB ?_ ?_) <;> intro hc))
  refine WLA.opn ?_
  rintro ⟨⟨p, ps⟩, hps, hl⟩
  dsimp only at hps ⊢
  have hlen : ps.length = m.tk.length := by rw [← hps]; simp
  have hr : 0 ≤ id ∧ id < ps.length := by have := hh.1; omega
  refine WLA.ent (Ent.cons (Ent.cons (focus_at id hr (by omega)))) ?_
  have hts : ¬ m.size < t.size := by omega
  have hbk := at_map hps id
  repeat' ((fail_if_success (guard_target =~ WPA _ _ _ (.region 9 _ _) _ _ _)); first | ((first | refine WLA.m rfl rfl ?_ ?_ | refine WLA.st rfl ?_ ?_ | refine WLA.x rfl rfl ?_ (fun x => ?_) | refine WLA.x0 rfl ?_ (fun x => ?_)); first | exact trivial | exact rfl | assumption | omega | (refine ⟨?_, ?_⟩ <;> omega) | (simp only [Room, lenS]; omega) | decide | skip) | (refine Stp.go ?_) | (refine WPA.ifT ?_) | (refine WPA.ifF ?_) | ((first | refine WPA.dec ?_); first | refine .inl ⟨by first | assumption | omega | with_reducible rfl | (refine fun h => h ?_; first | assumption | with_reducible rfl) | (simp only [lenS] <;> omega) | decide, ?_⟩ | refine .inr ⟨by first | assumption | omega | with_reducible rfl | (refine fun h => h ?_; first | assumption | with_reducible rfl) | (simp only [lenS] <;> omega) | decide, ?_⟩) | ((first | refine WPA.ifBt ?_ ?_ | refine WPA.ifBnf ?_ ?_); assumption) | ((first | refine WPA.ifBnt ?_ ?_ | refine WPA.ifBf ?_ ?_); assumption) | ((first | refine WPA.ifs ?_ ?_ | refine WPA.ifB ?_ ?_) <;> intro hc))
  · refine WPA.facts (s := x) (α := KInt .u8) (FindOwn.out) fun hf => ?_
    rw [List.length_replicate] at hf
    generalize hps' : ps.set id.toNat (x, (at_ ps id).2) = ps'
    have hx : (at_ ps' id).1 = x := by rw [← hps', at_set ps id _ hr]
    subst hx
    have hcap : (t.size : Int) ≤ (at_ ps' id).1.cap := by omega
    have hlq : ps'.length = ps.length := by rw [← hps', List.length_set]
    repeat' ((fail_if_success (guard_target =~ WPA _ _ _ (.region 10 _ _) _ _ _)); first | (guard_target =~ WLA _ _ _ _ _ (⟨_, .slice _ _ _ _ _, _, _, _, _⟩ :: _) _ _; refine WLA.reslice ?_ rfl rfl ?_; omega) | ((first | refine WLA.m rfl rfl ?_ ?_ | refine WLA.st rfl ?_ ?_ | refine WLA.x rfl rfl ?_ (fun x => ?_) | refine WLA.x0 rfl ?_ (fun x => ?_)); first | exact trivial | exact rfl | assumption | omega | (refine ⟨?_, ?_⟩ <;> omega) | (simp only [Room, lenS]; omega) | decide | skip) | (refine Stp.go ?_) | (refine WPA.ifT ?_) | (refine WPA.ifF ?_) | ((first | refine WPA.dec ?_); first | refine .inl ⟨by first | assumption | omega | with_reducible rfl | (refine fun h => h ?_; first | assumption | with_reducible rfl) | (simp only [lenS] <;> omega) | decide, ?_⟩ | refine .inr ⟨by first | assumption | omega | with_reducible rfl | (refine fun h => h ?_; first | assumption | with_reducible rfl) | (simp only [lenS] <;> omega) | decide, ?_⟩) | ((first | refine WPA.ifBt ?_ ?_ | refine WPA.ifBnf ?_ ?_); assumption) | ((first | refine WPA.ifBnt ?_ ?_ | refine WPA.ifBf ?_ ?_); assumption) | ((first | refine WPA.ifs ?_ ?_ | refine WPA.ifB ?_ ?_) <;> intro hc))
    generalize h2 : (ps'.set id.toNat ((at_ ps' id).1.upto t.size, (at_ ps' id).2)) = qs
    have hlq2 : qs.length = ps.length := (congrArg List.length h2).symm.trans ((List.length_set ..).trans hlq)
    have h3 : (at_ qs id).1 = (at_ ps' id).1.upto t.size := by rw [← h2, at_set ps' id _ (by omega)]
    have h4 : ps.set id.toNat ((at_ qs id).1, (at_ ps id).2) = qs := by
      rw [h3, ← h2]
      rw [← hps', List.set_set, at_set ps id _ hr]
    refine WPA.ent (L' := OwnC 5 1 (at_ qs id).1 :: OwnS 187 p qs :: Bk S 93 [.int .i64 m.size, .int .i64 m.most, .slice p.a p.n p.cap, .int .i64 m.low, .int .i64 m.used, .int .i64 m.peak] :: BytesX 5 id.toNat (ps.map Prod.fst) m.ts :: L') ?_ ?_
    · rw [h3]
      exact (FindOwn.out (s := (at_ ps' id).1)).trans (Ent.ownC.trans ((Ent.cUp (by omega)).trans (Ent.cons EntC.out)))
    repeat' (first | (guard_target =~ WLA _ _ _ _ _ (⟨_, .call ⟨.builtin .copy, _, _⟩, _, _, _, _⟩ :: _) _ _; refine WLA.copy ?_ rfl rfl ?_; (rw [h3]; exact Int.toNat_natCast _)) | ((first | refine WLA.m rfl rfl ?_ ?_ | refine WLA.st rfl ?_ ?_ | refine WLA.x rfl rfl ?_ (fun x => ?_) | refine WLA.x0 rfl ?_ (fun x => ?_)); first | exact trivial | exact rfl | assumption | omega | (refine ⟨?_, ?_⟩ <;> omega) | (simp only [Room, lenS]; omega) | decide | skip) | (refine Stp.go ?_) | (refine WPA.ifT ?_) | (refine WPA.ifF ?_) | ((first | refine WPA.dec ?_); first | refine .inl ⟨by first | assumption | omega | with_reducible rfl | (refine fun h => h ?_; first | assumption | with_reducible rfl) | (simp only [lenS] <;> omega) | decide, ?_⟩ | refine .inr ⟨by first | assumption | omega | with_reducible rfl | (refine fun h => h ?_; first | assumption | with_reducible rfl) | (simp only [lenS] <;> omega) | decide, ?_⟩) | ((first | refine WPA.ifBt ?_ ?_ | refine WPA.ifBnf ?_ ?_); assumption) | ((first | refine WPA.ifBnt ?_ ?_ | refine WPA.ifBf ?_ ?_); assumption) | ((first | refine WPA.ifs ?_ ?_ | refine WPA.ifB ?_ ?_) <;> intro hc))
    refine QQ.end_ rfl () rfl fun w h => ?_
    have h5 := ((back_at (b := (at_ ps id).2) id hr (by omega))).sl ((EntC.out (L' := OwnS 5 (at_ qs id).1 (bytesK t) :: BytesX 5 id.toNat (ps.map Prod.fst) m.ts :: Bk S 93 [.int .i64 m.size, .int .i64 m.most, .slice p.a p.n p.cap, .int .i64 m.low, .int .i64 m.used, .int .i64 m.peak] :: OwnS 187 p qs :: L')).sl h)
    rw [h4] at h5
    refine (StoreR.fold (x := m.write id t) (p := p) (ps := qs) (by rw [← h4, List.map_set, hps]; exact by rw [hbk]; exact set_self m.tk id (by omega)) (by simp only [BS.write, List.length_set]; exact hl)).sl ?_
    simp only [BS.write]
    exact (EntC.out (L' := Bk S 93 [.int .i64 m.size, .int .i64 m.most, .slice p.a p.n p.cap, .int .i64 m.low, .int .i64 m.used, .int .i64 m.peak] :: OwnS 187 p qs :: BytesH 5 (qs.map Prod.fst) (m.ts.set id.toNat t) :: L')).sl h5
  · have hcap : (t.size : Int) ≤ (at_ ps id).1.cap := by omega
    have hlq : ps.length = ps.length := rfl
    repeat' ((fail_if_success (guard_target =~ WPA _ _ _ (.region 10 _ _) _ _ _)); first | (guard_target =~ WLA _ _ _ _ _ (⟨_, .slice _ _ _ _ _, _, _, _, _⟩ :: _) _ _; refine WLA.reslice ?_ rfl rfl ?_; omega) | ((first | refine WLA.m rfl rfl ?_ ?_ | refine WLA.st rfl ?_ ?_ | refine WLA.x rfl rfl ?_ (fun x => ?_) | refine WLA.x0 rfl ?_ (fun x => ?_)); first | exact trivial | exact rfl | assumption | omega | (refine ⟨?_, ?_⟩ <;> omega) | (simp only [Room, lenS]; omega) | decide | skip) | (refine Stp.go ?_) | (refine WPA.ifT ?_) | (refine WPA.ifF ?_) | ((first | refine WPA.dec ?_); first | refine .inl ⟨by first | assumption | omega | with_reducible rfl | (refine fun h => h ?_; first | assumption | with_reducible rfl) | (simp only [lenS] <;> omega) | decide, ?_⟩ | refine .inr ⟨by first | assumption | omega | with_reducible rfl | (refine fun h => h ?_; first | assumption | with_reducible rfl) | (simp only [lenS] <;> omega) | decide, ?_⟩) | ((first | refine WPA.ifBt ?_ ?_ | refine WPA.ifBnf ?_ ?_); assumption) | ((first | refine WPA.ifBnt ?_ ?_ | refine WPA.ifBf ?_ ?_); assumption) | ((first | refine WPA.ifs ?_ ?_ | refine WPA.ifB ?_ ?_) <;> intro hc))
    generalize h2 : (ps.set id.toNat ((at_ ps id).1.upto t.size, (at_ ps id).2)) = qs
    have hlq2 : qs.length = ps.length := (congrArg List.length h2).symm.trans ((List.length_set ..).trans hlq)
    have h3 : (at_ qs id).1 = (at_ ps id).1.upto t.size := by rw [← h2, at_set ps id _ (by omega)]
    have h4 : ps.set id.toNat ((at_ qs id).1, (at_ ps id).2) = qs := by
      rw [h3, ← h2]
      skip
    refine WPA.ent (L' := OwnC 5 1 (at_ qs id).1 :: OwnS 187 p qs :: Bk S 93 [.int .i64 m.size, .int .i64 m.most, .slice p.a p.n p.cap, .int .i64 m.low, .int .i64 m.used, .int .i64 m.peak] :: BytesX 5 id.toNat (ps.map Prod.fst) m.ts :: L') ?_ ?_
    · rw [h3]
      exact (FindOwn.out (s := (at_ ps id).1)).trans (Ent.ownC.trans ((Ent.cUp (by omega)).trans (Ent.cons EntC.out)))
    repeat' (first | (guard_target =~ WLA _ _ _ _ _ (⟨_, .call ⟨.builtin .copy, _, _⟩, _, _, _, _⟩ :: _) _ _; refine WLA.copy ?_ rfl rfl ?_; (rw [h3]; exact Int.toNat_natCast _)) | ((first | refine WLA.m rfl rfl ?_ ?_ | refine WLA.st rfl ?_ ?_ | refine WLA.x rfl rfl ?_ (fun x => ?_) | refine WLA.x0 rfl ?_ (fun x => ?_)); first | exact trivial | exact rfl | assumption | omega | (refine ⟨?_, ?_⟩ <;> omega) | (simp only [Room, lenS]; omega) | decide | skip) | (refine Stp.go ?_) | (refine WPA.ifT ?_) | (refine WPA.ifF ?_) | ((first | refine WPA.dec ?_); first | refine .inl ⟨by first | assumption | omega | with_reducible rfl | (refine fun h => h ?_; first | assumption | with_reducible rfl) | (simp only [lenS] <;> omega) | decide, ?_⟩ | refine .inr ⟨by first | assumption | omega | with_reducible rfl | (refine fun h => h ?_; first | assumption | with_reducible rfl) | (simp only [lenS] <;> omega) | decide, ?_⟩) | ((first | refine WPA.ifBt ?_ ?_ | refine WPA.ifBnf ?_ ?_); assumption) | ((first | refine WPA.ifBnt ?_ ?_ | refine WPA.ifBf ?_ ?_); assumption) | ((first | refine WPA.ifs ?_ ?_ | refine WPA.ifB ?_ ?_) <;> intro hc))
    refine QQ.end_ rfl () rfl fun w h => ?_
    have h5 := ((back_at (b := (at_ ps id).2) id hr (by omega))).sl ((EntC.out (L' := OwnS 5 (at_ qs id).1 (bytesK t) :: BytesX 5 id.toNat (ps.map Prod.fst) m.ts :: Bk S 93 [.int .i64 m.size, .int .i64 m.most, .slice p.a p.n p.cap, .int .i64 m.low, .int .i64 m.used, .int .i64 m.peak] :: OwnS 187 p qs :: L')).sl h)
    rw [h4] at h5
    refine (StoreR.fold (x := m.write id t) (p := p) (ps := qs) (by rw [← h4, List.map_set, hps]; exact by rw [hbk]; exact set_self m.tk id (by omega)) (by simp only [BS.write, List.length_set]; exact hl)).sl ?_
    simp only [BS.write]
    exact (EntC.out (L' := Bk S 93 [.int .i64 m.size, .int .i64 m.most, .slice p.a p.n p.cap, .int .i64 m.low, .int .i64 m.used, .int .i64 m.peak] :: OwnS 187 p qs :: BytesH 5 (qs.map Prod.fst) (m.ts.set id.toNat t) :: L')).sl h5
theorem zero_one (n : Nat) : ∀ u ∈ (Builtin.zeroCells (Value.int .u8 0).cells n).toList, u.oneCell' = true := by
  intro u hu
  simp only [Builtin.zeroCells, Array.toList_map, List.mem_map] at hu
  obtain ⟨i, _, rfl⟩ := hu
  have : i % (Value.int .u8 0).cells.size = 0 := Nat.mod_one i
  rw [this]; rfl
theorem Free_tr [h : FindK L StoreR S m L'] (hh : Has m.tk id) (hu : 1 ≤ m.used ∧ m.used ≤ 1048576) : Tr Tryz.prog 99 #[.pointer (some ⟨S, 0, none⟩), .int .i64 id] (SL w0 I L) (fun _ : Unit => .int .i64 0) (fun _ => SL w0 I (StoreR S (m.free id) :: L')) := by
  refine Tr.at h.out ?_
  refine Tr.intro Tryz.func99 rfl Tryz.ntmps99 rfl ?_
  have e : (if Has m.tk id then (0 : Int) else 7) = 0 := if_pos hh
  repeat' (first | ((first | refine WLA.m rfl rfl ?_ ?_ | refine WLA.st rfl ?_ ?_ | refine WLA.x rfl rfl ?_ (fun x => ?_) | refine WLA.x0 rfl ?_ (fun x => ?_)); first | exact trivial | exact rfl | assumption | omega | (refine ⟨?_, ?_⟩ <;> omega) | (simp only [Room, lenS]; omega) | decide | skip) | (refine Stp.go ?_) | (guard_target =~ WLA _ _ _ _ _ (⟨_, .call ⟨.value (.func 100), _, _⟩, _, _, _, _⟩ :: _) _ _; refine WLA.cq rfl rfl (e ▸ check_tr) ?_) | (refine WPA.ifT ?_) | (refine WPA.ifF ?_) | ((first | refine WPA.dec ?_); first | refine .inl ⟨by first | assumption | omega | with_reducible rfl | (refine fun h => h ?_; first | assumption | with_reducible rfl) | (simp only [lenS] <;> omega) | decide, ?_⟩ | refine .inr ⟨by first | assumption | omega | with_reducible rfl | (refine fun h => h ?_; first | assumption | with_reducible rfl) | (simp only [lenS] <;> omega) | decide, ?_⟩) | ((first | refine WPA.ifBt ?_ ?_ | refine WPA.ifBnf ?_ ?_); assumption) | ((first | refine WPA.ifBnt ?_ ?_ | refine WPA.ifBf ?_ ?_); assumption) | ((first | refine WPA.ifs ?_ ?_ | refine WPA.ifB ?_ ?_) <;> intro hc))
  refine WLA.opn ?_
  rintro ⟨⟨p, ps⟩, hps, hl⟩
  dsimp only at hps ⊢
  have hlen : ps.length = m.tk.length := by rw [← hps]; simp
  have hr : 0 ≤ id ∧ id < ps.length := by have := hh.1; omega
  refine WLA.ent (Ent.cons (Ent.cons (focus_at id hr (by omega)))) ?_
  repeat' ((fail_if_success (guard_target =~ WPA _ _ _ (.region 7 _ _) _ _ _)); first | (guard_target =~ WLA _ _ _ _ _ (⟨_, .call ⟨.builtin .clear, _, _⟩, _, _, _, _⟩ :: _) _ _; refine WLA.clear (z := .int .u8 0) (sz := 1) (bytes := 1) (by kernel_rfl) rfl (zero_one 1) zero_one rfl ?_) | (guard_target =~ WLA _ _ _ _ _ (⟨_, .slice _ _ _ _ _, _, _, _, _⟩ :: _) _ _; refine WLA.reslice ?_ rfl rfl ?_; omega) | ((first | refine WLA.m rfl rfl ?_ ?_ | refine WLA.st rfl ?_ ?_ | refine WLA.x rfl rfl ?_ (fun x => ?_) | refine WLA.x0 rfl ?_ (fun x => ?_)); first | exact trivial | exact rfl | assumption | omega | (refine ⟨?_, ?_⟩ <;> omega) | (simp only [Room, lenS]; omega) | decide | skip) | (refine Stp.go ?_) | (refine WPA.ifT ?_) | (refine WPA.ifF ?_) | ((first | refine WPA.dec ?_); first | refine .inl ⟨by first | assumption | omega | with_reducible rfl | (refine fun h => h ?_; first | assumption | with_reducible rfl) | (simp only [lenS] <;> omega) | decide, ?_⟩ | refine .inr ⟨by first | assumption | omega | with_reducible rfl | (refine fun h => h ?_; first | assumption | with_reducible rfl) | (simp only [lenS] <;> omega) | decide, ?_⟩) | ((first | refine WPA.ifBt ?_ ?_ | refine WPA.ifBnf ?_ ?_); assumption) | ((first | refine WPA.ifBnt ?_ ?_ | refine WPA.ifBf ?_ ?_); assumption) | ((first | refine WPA.ifs ?_ ?_ | refine WPA.ifB ?_ ?_) <;> intro hc))
  generalize h2 : (ps.set id.toNat ((at_ ps id).1.upto 0, (at_ ps id).2)) = qs
  have hlq2 : qs.length = ps.length := (congrArg List.length h2).symm.trans (List.length_set ..)
  have h3 : (at_ qs id).1 = (at_ ps id).1.upto 0 := by rw [← h2, at_set ps id _ (by omega)]
  refine WPA.ent (L' := OwnS 5 (at_ qs id).1 (bytesK ⟨#[]⟩) :: OwnS 187 p qs :: Bk S 93 [.int .i64 m.size, .int .i64 m.most, .slice p.a p.n p.cap, .int .i64 m.low, .int .i64 m.used, .int .i64 m.peak] :: BytesX 5 id.toNat (ps.map Prod.fst) m.ts :: L') ?_ ?_
  · rw [h3]
    exact (FindC.out (s := (at_ ps id).1)).trans ((Ent.cUp (by omega)).trans ((Ent.cNone (α := KInt .u8) rfl).trans (Ent.cons EntC.out)))
  repeat' (first | ((first | refine WLA.m rfl rfl ?_ ?_ | refine WLA.st rfl ?_ ?_ | refine WLA.x rfl rfl ?_ (fun x => ?_) | refine WLA.x0 rfl ?_ (fun x => ?_)); first | exact trivial | exact rfl | assumption | omega | (refine ⟨?_, ?_⟩ <;> omega) | (simp only [Room, lenS]; omega) | decide | skip) | (refine Stp.go ?_) | (refine WPA.ifT ?_) | (refine WPA.ifF ?_) | ((first | refine WPA.dec ?_); first | refine .inl ⟨by first | assumption | omega | with_reducible rfl | (refine fun h => h ?_; first | assumption | with_reducible rfl) | (simp only [lenS] <;> omega) | decide, ?_⟩ | refine .inr ⟨by first | assumption | omega | with_reducible rfl | (refine fun h => h ?_; first | assumption | with_reducible rfl) | (simp only [lenS] <;> omega) | decide, ?_⟩) | ((first | refine WPA.ifBt ?_ ?_ | refine WPA.ifBnf ?_ ?_); assumption) | ((first | refine WPA.ifBnt ?_ ?_ | refine WPA.ifBf ?_ ?_); assumption) | ((first | refine WPA.ifs ?_ ?_ | refine WPA.ifB ?_ ?_) <;> intro hc))
  refine QQ.end_ rfl () rfl fun w h => ?_
  generalize h6 : qs.set id.toNat ((at_ qs id).1, false) = rs at h
  have h4 : ps.set id.toNat ((at_ qs id).1, false) = rs := by
    rw [← h6, ← h2, List.set_set]
  have h5 := ((back_at (b := false) id hr (by omega))).sl ((EntC.out (L' := OwnS 5 (at_ qs id).1 (bytesK ⟨#[]⟩) :: BytesX 5 id.toNat (ps.map Prod.fst) m.ts :: Bk S 93 [.int .i64 m.size, .int .i64 m.most, .slice p.a p.n p.cap, .int .i64 (min m.low id), .int .i64 (m.used - 1), .int .i64 m.peak] :: OwnS 187 p rs :: L')).sl h)
  rw [h4] at h5
  refine (StoreR.fold (x := m.free id) (p := p) (ps := rs) (by rw [← h4, List.map_set, hps]; rfl) (by simp only [BS.free, List.length_set]; exact hl)).sl ?_
  simp only [BS.free]
  exact (EntC.out (L' := Bk S 93 [.int .i64 m.size, .int .i64 m.most, .slice p.a p.n p.cap, .int .i64 (min m.low id), .int .i64 (m.used - 1), .int .i64 m.peak] :: OwnS 187 p rs :: BytesH 5 (rs.map Prod.fst) (m.ts.set id.toNat ⟨#[]⟩) :: L')).sl h5
end
end Go.Proofs.YtamnobjdgjbmbaaGreat
namespace Go.Proofs.YtamnobjdgjbmbaaGreat
open Go Go.Fw
set_option linter.unusedVariables false
set_option linter.unusedSimpArgs false
theorem firstFree_true : ∀ (l : List Bool) (j : Nat), j < firstFree l → l[j]? = some true
  | true :: l, 0, _ => rfl
  | true :: l, j + 1, h => by simp only [firstFree] at h; simpa using firstFree_true l j (by omega)
  | false :: l, j, h => by simp [firstFree] at h
  | [], j, h => by simp [firstFree] at h
theorem firstFree_false : ∀ (l : List Bool), firstFree l < l.length → l[firstFree l]? = some false
  | true :: l, h => by simp only [firstFree, List.length_cons] at h ⊢; simpa using firstFree_false l (by omega)
  | false :: l, _ => rfl
  | [], h => by simp [firstFree] at h
theorem firstFree_all : ∀ (l : List Bool), firstFree l = l.length → l.count true = l.length
  | true :: l, h => by simp only [firstFree, List.length_cons] at h; rw [List.count_cons_self, firstFree_all l (by omega)]; rfl
  | false :: l, h => by simp [firstFree] at h
  | [], _ => rfl
theorem firstFree_cnt : ∀ (l : List Bool), firstFree l ≤ l.count true
  | true :: l => by rw [List.count_cons_self]; have := firstFree_cnt l; simp only [firstFree]; omega
  | false :: l => by simp [firstFree]
  | [] => by simp [firstFree]
theorem count_set_t : ∀ (l : List Bool) (i : Nat), l[i]? = some false → (l.set i true).count true = l.count true + 1
  | [], i, h => by simp at h
  | b :: l, 0, h => by simp at h; subst h; simp
  | b :: l, i + 1, h => by
    have := count_set_t l i (by simpa using h)
    cases b <;> simp [this]
theorem count_set_f : ∀ (l : List Bool) (i : Nat), l[i]? = some true → (l.set i false).count true + 1 = l.count true
  | [], i, h => by simp at h
  | b :: l, 0, h => by simp at h; subst h; simp
  | b :: l, i + 1, h => by
    have := count_set_f l i (by simpa using h)
    cases b <;> simp [← this]
theorem padB_at (tk : List Bool) : (padB tk)[firstFree tk]? = some false := by
  unfold padB
  split
  · exact firstFree_false tk ‹_›
  · have : firstFree tk = tk.length := by have := firstFree_le tk; omega
    rw [this]; simp
theorem padB_ne (tk : List Bool) (i : Nat) (h : i ≠ firstFree tk) : (padB tk)[i]? = tk[i]? := by
  unfold padB
  split
  · rfl
  · have : firstFree tk = tk.length := by have := firstFree_le tk; omega
    rcases Nat.lt_or_ge i tk.length with h1 | h1
    · rw [List.getElem?_append_left h1]
    · rw [List.getElem?_eq_none (by simp; omega), List.getElem?_eq_none h1]
theorem padB_cnt (tk : List Bool) : (padB tk).count true = tk.count true := by
  unfold padB; split <;> simp
theorem padB_len (tk : List Bool) (ts : List ByteArray) (h : tk.length = ts.length) : (padB tk).length = (padT tk ts).length := by
  unfold padB padT; split <;> simp [h]
theorem firstFree_padB (tk : List Bool) : firstFree tk < (padB tk).length := by have := (List.getElem?_eq_some_iff.1 (padB_at tk)).1; exact this
theorem padT_at (tk : List Bool) (ts : List ByteArray) (i : Nat) (h : i < ts.length) : (padT tk ts)[i]? = ts[i]? := by
  unfold padT; split
  · rfl
  · rw [List.getElem?_append_left h]
theorem has_at {tk : List Bool} {id : Int} (h : Has tk id) : tk[id.toNat]? = some true := by
  have h2 := h.2
  rw [at_int tk id h.1.1 h.1.2] at h2
  rw [List.getElem?_eq_getElem (by have := h.1; omega), h2]
theorem has_nat {tk : List Bool} {i : Nat} : Has tk i ↔ tk[i]? = some true := by
  constructor
  · intro h; simpa using has_at h
  · intro h
    have h1 := (List.getElem?_eq_some_iff.1 h).1
    refine ⟨by omega, ?_⟩
    rw [at_nat tk i h1]
    exact (List.getElem?_eq_some_iff.1 h).2
theorem BS.Ok.new {size most : Int} (hs : 1 ≤ size ∧ size ≤ 65536) (hm : 1 ≤ most ∧ most ≤ 1048576) : (BS.mk size most [] [] 0 0 0).Ok :=
  ⟨rfl, by simp, fun j hj => by simp at hj; omega, rfl, by simp only; omega, by simp; omega, hm, hs, by simp only; omega, fun i h => by simp at h⟩
theorem BS.Ok.full {m : BS} (h : m.Ok) : m.used = m.most ↔ m.most ≤ firstFree m.tk := by
  have h1 := h.used; have h2 := h.um; have h3 := h.lm
  have hle := firstFree_le m.tk
  have hc := firstFree_cnt m.tk
  have hcl : m.tk.count true ≤ m.tk.length := List.count_le_length
  constructor
  · intro e
    rcases Nat.lt_or_ge (firstFree m.tk) m.tk.length with h4 | h4
    · have := firstFree_false m.tk h4
      have := count_set_t m.tk _ this
      have h5 : ((m.tk.set (firstFree m.tk) true).count true) ≤ m.tk.length := by have := List.count_le_length (a := true) (l := m.tk.set (firstFree m.tk) true); rw [List.length_set] at this; exact this
      omega
    · have := firstFree_all m.tk (by omega); omega
  · intro e; omega
theorem BS.Ok.alloc {m : BS} (h : m.Ok) (hu : m.used < m.most) : m.alloc.Ok := by
  have hu0 := h.used0
  have hp := firstFree_padB m.tk
  have hl := padB_len m.tk m.ts h.lens
  refine ⟨by simp only [BS.alloc, List.length_set]; exact hl, by simp only [BS.alloc, List.length_set]; omega, ?_, ?_, by simp only [BS.alloc]; omega, ?_, h.most, h.size, by simp only [BS.alloc]; have := h.peak; omega, ?_⟩
  · intro j hj
    simp only [BS.alloc] at hj ⊢
    rw [List.getElem?_set_ne (by omega), padB_ne _ _ (by omega)]
    exact firstFree_true _ _ (by omega)
  · simp only [BS.alloc]
    rw [count_set_t _ _ (padB_at m.tk), padB_cnt, h.used]; omega
  · simp only [BS.alloc, List.length_set]
    have h1 := h.used; have h3 := h.lm
    unfold padB
    split
    · exact h3
    · have := firstFree_all m.tk (by have := firstFree_le m.tk; omega)
      rw [List.length_append, List.length_singleton]; omega
  · intro i hi
    simp only [BS.alloc] at hi ⊢
    rw [List.getElem?_set] at hi
    split at hi
    · simp at hi
    · rw [padB_ne _ _ (by omega)] at hi
      have h1 := h.empty i hi
      rw [padT_at _ _ _ (List.getElem?_eq_some_iff.1 h1).1]
      exact h1
theorem BS.Ok.write {m : BS} {id : Int} {t : ByteArray} (h : m.Ok) (hh : Has m.tk id) : (m.write id t).Ok := by
  refine ⟨by simp only [BS.write, List.length_set]; exact h.lens, h.low0, h.lowt, h.used, h.um, h.lm, h.most, h.size, h.peak, ?_⟩
  intro i hi
  simp only [BS.write] at hi ⊢
  have h1 := has_at hh
  rw [List.getElem?_set_ne (fun e => by rw [e, hi] at h1; simp at h1)]
  exact h.empty i hi
theorem BS.Ok.free {m : BS} {id : Int} (h : m.Ok) (hh : Has m.tk id) : (m.free id).Ok := by
  have h1 := has_at hh
  have hc := count_set_f _ _ h1
  have hu := h.used
  have hi0 := hh.1
  have hl0 := h.low0
  have hum := h.um
  refine ⟨by simp only [BS.free, List.length_set]; exact h.lens, by simp only [BS.free, List.length_set]; omega, ?_, by simp only [BS.free]; omega, by simp only [BS.free]; omega, by simp only [BS.free, List.length_set]; exact h.lm, h.most, h.size, h.peak, ?_⟩
  · intro j hj
    simp only [BS.free] at hj ⊢
    rw [List.getElem?_set_ne (by omega)]
    exact h.lowt j (by omega)
  · intro i hi
    simp only [BS.free] at hi ⊢
    have hlen := h.lens
    by_cases e : id.toNat = i
    · subst e
      rw [List.getElem?_set_self (by omega)]
    · rw [List.getElem?_set_ne e] at hi ⊢
      exact h.empty i hi
end Go.Proofs.YtamnobjdgjbmbaaGreat
namespace Go.Proofs.YtamnobjdgjbmbaaGreat
open Go Go.Fw Go.RowKit
set_option linter.unusedVariables false
set_option linter.unusedSimpArgs false
set_option maxRecDepth 100000
set_option maxHeartbeats 16000000
set_option synthInstance.maxHeartbeats 200000
set_option synthInstance.maxSize 100000
attribute [local irreducible] WPA WLA WDA WDQ WDE QQ seqQ blockQ loopQ fnQ OpP OpT Tr TrP SL SLd OwnS LitS Bk BkE Ob
def BS.alloc' (m : BS) : BS := if m.used = m.most then m else m.alloc
def BS.write' (m : BS) (id : Int) (t : ByteArray) : BS := if Has m.tk id ∧ t.size ≤ m.size then m.write id t else m
def BS.free' (m : BS) (id : Int) : BS := if Has m.tk id then m.free id else m
theorem BS.Ok.alloc' {m : BS} (h : m.Ok) : m.alloc'.Ok := by
  unfold BS.alloc'; split
  · exact h
  · exact h.alloc (by have := h.um; omega)
theorem BS.Ok.write' {m : BS} {id : Int} {t : ByteArray} (h : m.Ok) : (m.write' id t).Ok := by
  unfold BS.write'; split
  · rename_i hh; exact h.write hh.1
  · exact h
theorem BS.Ok.free' {m : BS} {id : Int} (h : m.Ok) : (m.free' id).Ok := by
  unfold BS.free'; split
  · rename_i hh; exact h.free hh
  · exact h
theorem used_pos {m : BS} {id : Int} (ok : m.Ok) (hh : Has m.tk id) : 1 ≤ m.used ∧ m.used ≤ 1048576 := by
  have h1 := count_set_f _ _ (has_at hh)
  have := ok.used; have := ok.um; have := ok.most
  omega
end Go.Proofs.YtamnobjdgjbmbaaGreat
namespace Go.Proofs.YtamnobjdgjbmbaaGreat
open Go Go.Fw Go.RowKit
set_option linter.unusedVariables false
set_option linter.unusedSimpArgs false
set_option maxRecDepth 100000
set_option maxHeartbeats 16000000
set_option synthInstance.maxHeartbeats 200000
set_option synthInstance.maxSize 100000
attribute [local irreducible] WPA WLA WDA WDQ WDE QQ seqQ blockQ loopQ fnQ OpP OpT Tr TrP SL SLd OwnS LitS Bk BkE Ob
structure RS where
  size : Int
  most : Int
  tk : List Bool
  ts : List ByteArray
  peak : Int
def RefR (S : Nat) (x : RS) : HP := exH fun q : SV × SV => pureH (x.tk.length = x.ts.length)
  (star (Bk S 37 [.int .i64 x.size, .int .i64 x.most, .slice q.1.a q.1.n q.1.cap, .slice q.2.a q.2.n q.2.cap, .int .i64 x.peak]) (star (OwnS 9 q.1 x.ts) (OwnS 4 q.2 x.tk)))
theorem RefR.fold {S : Nat} {x : RS} {p q : SV} {L : List HP} (h2 : x.tk.length = x.ts.length) :
    Ent (Bk S 37 [.int .i64 x.size, .int .i64 x.most, .slice p.a p.n p.cap, .slice q.a q.n q.cap, .int .i64 x.peak] :: OwnS 9 p x.ts :: OwnS 4 q x.tk :: L) (RefR S x :: L) :=
  Ent.ex (p, q) (Ent.pure h2 (Ent.star (Ent.cons (Ent.star Ent.refl))))
instance {S : Nat} {x : RS} : Opn (RefR S x) { q : SV × SV // x.tk.length = x.ts.length }
    (fun q L => Bk S 37 [.int .i64 x.size, .int .i64 x.most, .slice q.1.1.a q.1.1.n q.1.1.cap, .slice q.1.2.a q.1.2.n q.1.2.cap, .int .i64 x.peak] :: OwnS 9 q.1.1 x.ts :: OwnS 4 q.1.2 x.tk :: L) := ⟨fun w0 I L w h => by
  obtain ⟨q, h⟩ := h.exH
  obtain ⟨hf, h⟩ := h.pureH
  exact ⟨⟨q, hf⟩, ((Ent.unstar).trans (Ent.cons Ent.unstar)).sl h⟩⟩
def RS.alloc (m : RS) : RS := ⟨m.size, m.most, (padB m.tk).set (firstFree m.tk) true, (padT m.tk m.ts).set (firstFree m.tk) ⟨#[]⟩, max m.peak (((padB m.tk).set (firstFree m.tk) true).count true : Nat)⟩
end Go.Proofs.YtamnobjdgjbmbaaGreat
namespace Go.Proofs.YtamnobjdgjbmbaaGreat
open Go Go.Fw Go.RowKit
set_option linter.unusedVariables false
set_option linter.unusedSimpArgs false
set_option maxRecDepth 100000
set_option maxHeartbeats 16000000
set_option synthInstance.maxHeartbeats 200000
set_option synthInstance.maxSize 100000
attribute [local irreducible] WPA WLA WDA WDQ WDE QQ seqQ blockQ loopQ fnQ OpP OpT Tr TrP SL SLd OwnS LitS Bk BkE Ob
structure Rel (m : BS) (r : RS) : Prop where
  size : r.size = m.size
  most : r.most = m.most
  tk : r.tk = m.tk
  peak : r.peak = m.peak
  len : r.ts.length = m.ts.length
  ts : ∀ i : Nat, m.tk[i]? = some true → r.ts[i]? = m.ts[i]?
def RS.alloc' (r : RS) : RS := if r.most ≤ firstFree r.tk then r else r.alloc
def RS.write' (r : RS) (id : Int) (t : ByteArray) : RS := if Has r.tk id then (if (t.size : Int) ≤ r.size then { r with ts := r.ts.set id.toNat t } else r) else r
def RS.free' (r : RS) (id : Int) : RS := if Has r.tk id then { r with tk := r.tk.set id.toNat false } else r
theorem Rel.alloc {m : BS} {r : RS} (ok : m.Ok) (h : Rel m r) : Rel m.alloc' r.alloc' := by
  have hf := ok.full
  unfold BS.alloc' RS.alloc'
  rw [h.most, h.tk]
  by_cases hu : m.used = m.most
  · rw [if_pos hu, if_pos (hf.1 hu)]; exact h
  · rw [if_neg hu, if_neg (fun e => hu (hf.2 e))]
    refine ⟨h.size, h.most, by simp only [RS.alloc, BS.alloc, h.tk], ?_, ?_, ?_⟩
    · simp only [RS.alloc, BS.alloc, h.tk, h.peak]
      rw [count_set_t _ _ (padB_at m.tk), padB_cnt, ok.used]
      rfl
    · simp only [RS.alloc, BS.alloc, h.tk, List.length_set]
      unfold padT; split
      · exact h.len
      · rw [List.length_append, List.length_append, h.len]
    · intro i hi
      have hl := ok.lens
      simp only [RS.alloc, BS.alloc, h.tk] at hi ⊢
      have hpl := padB_len m.tk m.ts hl
      have hpl2 := padB_len m.tk r.ts (by rw [h.len]; exact hl)
      have hfp := firstFree_padB m.tk
      by_cases e : firstFree m.tk = i
      · subst e
        rw [List.getElem?_set_self (by omega)]
        unfold padT
        split
        · exact (ok.empty _ (firstFree_false _ ‹_›)).symm
        · have : firstFree m.tk = m.ts.length := by have := firstFree_le m.tk; omega
          rw [this]; simp
      · rw [List.getElem?_set_ne e] at hi ⊢
        rw [padB_ne _ _ (Ne.symm e)] at hi
        have h1 := (List.getElem?_eq_some_iff.1 hi).1
        rw [padT_at _ _ _ (by rw [h.len]; omega), padT_at _ _ _ (by omega)]
        exact h.ts i hi
theorem Rel.write {m : BS} {r : RS} {id : Int} {t : ByteArray} (ok : m.Ok) (h : Rel m r) : Rel (m.write' id t) (r.write' id t) := by
  unfold BS.write' RS.write'
  rw [h.tk, h.size]
  by_cases hh : Has m.tk id
  · by_cases ht : (t.size : Int) ≤ m.size
    · rw [if_pos hh, if_pos ht, if_pos ⟨hh, ht⟩]
      refine ⟨rfl, h.most, rfl, h.peak, by simp only [BS.write, List.length_set]; exact h.len, ?_⟩
      intro i hi
      simp only [BS.write] at hi ⊢
      have hl := h.len
      rw [List.getElem?_set, List.getElem?_set, hl, h.ts i hi]
    · rw [if_pos hh, if_neg ht, if_neg (fun e => ht e.2)]; exact h
  · rw [if_neg hh, if_neg (fun e => hh e.1)]; exact h
theorem Rel.free {m : BS} {r : RS} {id : Int} (ok : m.Ok) (h : Rel m r) : Rel (m.free' id) (r.free' id) := by
  unfold BS.free' RS.free'
  rw [h.tk]
  by_cases hh : Has m.tk id
  · rw [if_pos hh, if_pos hh]
    refine ⟨h.size, h.most, rfl, h.peak, by simp only [BS.free, List.length_set]; exact h.len, ?_⟩
    intro i hi
    simp only [BS.free] at hi ⊢
    by_cases e : id.toNat = i
    · subst e; rw [List.getElem?_set_self (by have := hh.1; omega)] at hi; cases hi
    · rw [List.getElem?_set_ne e] at hi ⊢
      exact h.ts i hi
  · rw [if_neg hh, if_neg hh]; exact h
instance {ρ : Env} {A : World → Prop} {ty t : TypeId} {x : Operand} {r : RS} {S : Nat} {w0 : World} {I : Foot} {L L' : List HP} [hx : Ev ρ x (.pointer (some ⟨S, 0 + 4, none⟩))] [ht : One Tryz.prog t] [hA : InSL A w0 I L] [hb : FindK L RefR S r L'] : OpM Tryz.prog ρ A (.load t x) ty (.int .i64 r.peak) True :=
  ⟨fun _ => P_load ht.out hx.out fun w hw => by
    obtain ⟨q, hq⟩ := (inferInstance : Opn (RefR S r) _ _).out _ _ _ _ (hb.out.sl (hA.out w hw))
    exact cell_of_heap hq.bk (by simp)⟩
end Go.Proofs.YtamnobjdgjbmbaaGreat
namespace Go.Proofs.YtamnobjdgjbmbaaGreat
open Go Go.Fw Go.RowKit
set_option linter.unusedVariables false
set_option linter.unusedSimpArgs false
set_option maxRecDepth 100000
set_option maxHeartbeats 16000000
set_option synthInstance.maxHeartbeats 200000
set_option synthInstance.maxSize 100000
attribute [local irreducible] WPA WLA WDA WDQ WDE QQ seqQ blockQ loopQ fnQ OpP OpT Tr TrP SL SLd OwnS LitS Bk BkE Ob
theorem ext_full' (s : ByteArray) : s.extract 0 s.size = s := by
  ext1; rw [ByteArray.data_extract]; simp
theorem ext_size' (s : ByteArray) (f : Nat) (h : f ≤ s.size) : (s.extract f s.size).size = s.size - f := by simp
theorem ext_ext' (s : ByteArray) (f a b : Nat) (h : f + b ≤ s.size) : (s.extract f s.size).extract a b = s.extract (f + a) (f + b) := by
  apply ByteArray.ext
  simp only [ByteArray.data_extract, Array.extract_extract]
  have : s.data.size = s.size := rfl
  congr 1; omega
def fillC (t : ByteArray) (m : BS) (k : Nat) : Nat := max 1 (min (t.size - k) m.size.toNat)
def fillN (t : ByteArray) (m : BS) (ids : List Int) (k : Nat) : BS × List Int :=
  if h : k < t.size then fillN t (m.alloc.write (firstFree m.tk) (t.extract k (k + fillC t m k))) (ids ++ [(firstFree m.tk : Int)]) (k + fillC t m k) else (m, ids)
termination_by t.size - k
decreasing_by unfold fillC; omega
theorem fillN_step {t : ByteArray} {m : BS} {ids : List Int} {k : Nat} (h : k < t.size) : fillN t m ids k = fillN t (m.alloc.write (firstFree m.tk) (t.extract k (k + fillC t m k))) (ids ++ [(firstFree m.tk : Int)]) (k + fillC t m k) := by rw [fillN, dif_pos h]
theorem fillN_end {t : ByteArray} {m : BS} {ids : List Int} {k : Nat} (h : ¬ k < t.size) : fillN t m ids k = (m, ids) := by rw [fillN, dif_neg h]
theorem fillC_eq {t : ByteArray} {m : BS} {k : Nat} (h : k < t.size) (hs : 1 ≤ m.size ∧ m.size ≤ 65536) : (fillC t m k : Int) = min ((t.size - k : Nat) : Int) m.size ∧ 1 ≤ fillC t m k ∧ k + fillC t m k ≤ t.size ∧ (fillC t m k : Int) ≤ m.size := by unfold fillC; omega
theorem room_iff {n z d : Int} (hz : 1 ≤ z) : d < (n + z - 1) / z ↔ z * d < n := by
  have h := Int.le_ediv_iff_mul_le (a := d + 1) (b := n + z - 1) (c := z) (by omega)
  rw [Int.add_mul, Int.one_mul, Int.mul_comm d z] at h
  omega
theorem has_alloc (m : BS) : Has m.alloc.tk (firstFree m.tk : Nat) := by
  have h := firstFree_padB m.tk
  refine ⟨⟨by omega, ?_⟩, ?_⟩
  · show ((firstFree m.tk : Nat) : Int) < ((padB m.tk).set (firstFree m.tk) true).length
    rw [List.length_set]; omega
  · show at_ ((padB m.tk).set (firstFree m.tk) true) ((firstFree m.tk : Nat) : Int) = true
    rw [at_nat _ _ (by rw [List.length_set]; exact h), List.getElem_set_self]
structure FS where
  m : BS
  ids : List Int
  k : Nat
  s : SV
section
variable {S : Nat} {m : BS} {t : ByteArray} {L L' : List HP} {w0 : World} {I : Foot}
theorem fill_no [h : FindK L StoreR S m L'] (ok : m.Ok) (ht : t.size ≤ 1000000000000) (hr : m.size * (m.most - m.used) < t.size) :
    Tr Tryz.prog 57 #[.pointer (some ⟨S, 0, none⟩), .string t] (SL w0 I L) (fun _ : Unit => .tuple #[.slice none 0 0, .int .i64 6]) (fun _ => SL w0 I L) := by
  refine Tr.intro Tryz.func57 rfl Tryz.ntmps57 rfl ?_
  have hu0 := ok.used0
  have hum := ok.um
  have hz := ok.size
  have hm := ok.most
  have hg := (room_iff (n := t.size) (d := m.most - m.used) hz.1).2 hr
  repeat' (first | ((first | refine WLA.m rfl rfl ?_ ?_ | refine WDQ.m rfl rfl ?_ ?_ | refine WLA.st rfl ?_ ?_ | refine WLA.x rfl rfl ?_ (fun x => ?_) | refine WLA.x0 rfl ?_ (fun x => ?_)); first | exact trivial | exact rfl | assumption | omega | (refine ⟨?_, ?_⟩ <;> omega) | (simp only [Room, lenS]; omega) | decide | skip) | (refine Stp.go ?_) | (guard_target =~ WLA _ _ _ _ _ (⟨_, .call ⟨.value (.func 86), _, _⟩, _, _, _, _⟩ :: _) _ _; refine WLA.cq rfl rfl (Size_tr) ?_) | (guard_target =~ WLA _ _ _ _ _ (⟨_, .call ⟨.value (.func 87), _, _⟩, _, _, _, _⟩ :: _) _ _; refine WLA.cq rfl rfl (Left_tr ⟨hu0, hum⟩ hm.2) ?_) | (refine WPA.ifT ?_) | (refine WPA.ifF ?_) | ((first | refine WPA.dec ?_); first | refine .inl ⟨by first | assumption | omega | with_reducible rfl | (refine fun h => h ?_; first | assumption | with_reducible rfl) | (simp only [lenS] <;> omega) | decide, ?_⟩ | refine .inr ⟨by first | assumption | omega | with_reducible rfl | (refine fun h => h ?_; first | assumption | with_reducible rfl) | (simp only [lenS] <;> omega) | decide, ?_⟩) | ((first | refine WPA.ifBt ?_ ?_ | refine WPA.ifBnf ?_ ?_); assumption) | ((first | refine WPA.ifBnt ?_ ?_ | refine WPA.ifBf ?_ ?_); assumption) | ((first | refine WPA.ifs ?_ ?_ | refine WPA.ifB ?_ ?_) <;> intro hc) | (guard_target =~ WPA _ _ _ (.region 2 _ true) _ _ _; refine WPA.drawT 11 (.q 0 (.q 1 (.q 2 (.q 3 (.q 4 (.q 5 (.q 6 (.q 7 (.q 8 (.q 9 (.q 10 .fin))))))))))) mixed ?_ ?_; kernel_rfl) | (refine WDA.finish (tl := [⟨_, _, _, _, _, _⟩]) rfl ?_) | (refine WDQ.see rfl ?_) | (guard_target =~ WDQ _ _ _ _ _ _ _ ⟨_, .call ⟨.value (.func 86), _, _⟩, _, _, _, _⟩ _ _ _; refine WDQ.cq rfl rfl (Size_tr) ?_) | (guard_target =~ WDQ _ _ _ _ _ _ _ ⟨_, .call ⟨.value (.func 87), _, _⟩, _, _, _, _⟩ _ _ _; refine WDQ.cq rfl rfl (Left_tr ⟨hu0, hum⟩ hm.2) ?_))
  exact QQ.end_ rfl () rfl fun w h => h
theorem fill_tr [h : FindK L StoreR S m L'] (ok : m.Ok) (ht : t.size ≤ 1000000000000) (hr : ¬ m.size * (m.most - m.used) < t.size) :
    Tr Tryz.prog 57 #[.pointer (some ⟨S, 0, none⟩), .string t] (SL w0 I L) (fun s : SV => .tuple #[.slice s.a s.n s.cap, .int .i64 0]) (fun s => SL w0 I (OwnS 3 s (fillN t m [] 0).2 :: StoreR S (fillN t m [] 0).1 :: L')) := by
  refine Tr.at h.out ?_
  refine Tr.intro Tryz.func57 rfl Tryz.ntmps57 rfl ?_
  have hu0 := ok.used0
  have hum := ok.um
  have hz := ok.size
  have hm := ok.most
  have hg := mt (room_iff (n := t.size) (d := m.most - m.used) hz.1).1 hr
  have hfull := ext_full' t
  repeat' (first | ((first | refine WLA.m rfl rfl ?_ ?_ | refine WDQ.m rfl rfl ?_ ?_ | refine WLA.st rfl ?_ ?_ | refine WLA.x rfl rfl ?_ (fun x => ?_) | refine WLA.x0 rfl ?_ (fun x => ?_)); first | exact trivial | exact rfl | assumption | omega | (refine ⟨?_, ?_⟩ <;> omega) | (simp only [Room, lenS]; omega) | decide | skip) | (refine Stp.go ?_) | (guard_target =~ WLA _ _ _ _ _ (⟨_, .call ⟨.value (.func 86), _, _⟩, _, _, _, _⟩ :: _) _ _; refine WLA.cq rfl rfl (Size_tr) ?_) | (guard_target =~ WLA _ _ _ _ _ (⟨_, .call ⟨.value (.func 87), _, _⟩, _, _, _, _⟩ :: _) _ _; refine WLA.cq rfl rfl (Left_tr ⟨hu0, hum⟩ hm.2) ?_) | (refine WPA.ifT ?_) | (refine WPA.ifF ?_) | ((first | refine WPA.dec ?_); first | refine .inl ⟨by first | assumption | omega | with_reducible rfl | (refine fun h => h ?_; first | assumption | with_reducible rfl) | (simp only [lenS] <;> omega) | decide, ?_⟩ | refine .inr ⟨by first | assumption | omega | with_reducible rfl | (refine fun h => h ?_; first | assumption | with_reducible rfl) | (simp only [lenS] <;> omega) | decide, ?_⟩) | ((first | refine WPA.ifBt ?_ ?_ | refine WPA.ifBnf ?_ ?_); assumption) | ((first | refine WPA.ifBnt ?_ ?_ | refine WPA.ifBf ?_ ?_); assumption) | ((first | refine WPA.ifs ?_ ?_ | refine WPA.ifB ?_ ?_) <;> intro hc) | (guard_target =~ WPA _ _ _ (.region 2 _ true) _ _ _; refine WPA.drawT 11 (.q 0 (.q 1 (.q 2 (.q 3 (.q 4 (.q 5 (.q 6 (.q 7 (.q 8 (.q 9 (.q 10 .fin))))))))))) mixed ?_ ?_; kernel_rfl) | (refine WDA.finish (tl := [⟨_, _, _, _, _, _⟩]) rfl ?_) | (refine WDQ.see rfl ?_) | (guard_target =~ WDQ _ _ _ _ _ _ _ ⟨_, .call ⟨.value (.func 86), _, _⟩, _, _, _, _⟩ _ _ _; refine WDQ.cq rfl rfl (Size_tr) ?_) | (guard_target =~ WDQ _ _ _ _ _ _ _ ⟨_, .call ⟨.value (.func 87), _, _⟩, _, _, _, _⟩ _ _ _; refine WDQ.cq rfl rfl (Left_tr ⟨hu0, hum⟩ hm.2) ?_))
  refine WPA.ent (L' := OwnS 3 SV.nil ([] : List Int) :: StoreR S m :: L') (Ent.ownNil Ent.refl) ?_
  refine WPA.loopS (σ := FS) (fun y => [(0, .pointer (some ⟨S, 0, none⟩)), (1, .string (t.extract y.k t.size)), (6, .slice y.s.a y.s.n y.s.cap)]) (fun y => (y.k ≤ t.size ∧ y.ids.length ≤ y.k) ∧ y.m.Ok ∧ fillN t y.m y.ids y.k = fillN t m [] 0 ∧ ((t.size - y.k : Nat) : Int) ≤ y.m.size * (y.m.most - y.m.used))
    (fun y => SL w0 I (OwnS 3 y.s y.ids :: StoreR S y.m :: L')) (fun y => t.size - y.k) ⟨m, [], 0, SV.nil⟩ ⟨rfl, by show _ = Value.string (t.extract 0 t.size); rw [hfull]; rfl, rfl, trivial⟩ ⟨⟨Nat.zero_le _, Nat.le_refl _⟩, ok, rfl, by show ((t.size - 0 : Nat) : Int) ≤ m.size * (m.most - m.used); omega⟩ (fun w h => h.to) ?_
  rintro ⟨m1, ids, k, s⟩ ρ ⟨⟨hk, hil⟩, ok1, hF, hR⟩
  dsimp only at hk hil ok1 hF hR ⊢
  have hsz := ext_size' t k hk
  by_cases hlt : k < t.size
  · have hlt' : (0 : Int) < (t.extract k t.size).size := by omega
    have hz1 := ok1.size
    obtain ⟨c1, c2, c3, c4⟩ := fillC_eq hlt hz1
    have hum1 := ok1.um
    have hu : m1.used < m1.most := by
      rcases Int.lt_or_eq_of_le hum1 with h | h
      · exact h
      · rw [h, Int.sub_self, Int.mul_zero] at hR; omega
    have hmin : min (((t.extract k t.size).size : Nat) : Int) m1.alloc.size = (fillC t m1 k : Nat) := by rw [hsz]; exact c1.symm
    have hok2 := (ok1.alloc hu).write (has_alloc m1) (t := t.extract k (k + fillC t m1 k))
    have hstep := fillN_step (ids := ids) hlt (m := m1)
    have hsl : (t.extract k t.size).extract (Int.toNat 0) ((fillC t m1 k : Nat) : Int).toNat = t.extract k (k + fillC t m1 k) := by rw [Int.toNat_natCast, ext_ext' _ _ _ _ (by omega)]; rfl
    have hsr : (t.extract k t.size).extract ((fillC t m1 k : Nat) : Int).toNat (((t.extract k t.size).size : Nat) : Int).toNat = t.extract (k + fillC t m1 k) t.size := by rw [Int.toNat_natCast, Int.toNat_natCast, hsz, ext_ext' _ _ _ _ (by omega), show k + (t.size - k) = t.size by omega]
    have hsp : (t.extract k (k + fillC t m1 k)).size = fillC t m1 k := by rw [ByteArray.size_extract]; omega
    have hR2 : ((t.size - (k + fillC t m1 k) : Nat) : Int) ≤ m1.size * (m1.most - (m1.used + 1)) := by
      have e : m1.size * (m1.most - (m1.used + 1)) = m1.size * (m1.most - m1.used) - m1.size := by rw [← Int.sub_sub, Int.mul_sub m1.size (m1.most - m1.used) 1, Int.mul_one]
      rw [e]
      rcases Int.le_total ((t.size - k : Nat) : Int) m1.size with hle | hle
      · have : 0 ≤ m1.size * (m1.most - m1.used - 1) := Int.mul_nonneg (by omega) (by omega)
        rw [Int.mul_sub, Int.mul_one] at this
        omega
      · omega
    generalize fillC t m1 k = c at c1 c2 c3 c4 hmin hok2 hstep hsl hsr hsp hR2
    have hcc : (0 : Int) ≤ c ∧ (c : Int) ≤ (t.extract k t.size).size := by omega
    have hroom : Room (ids.length + 1) 1 := ⟨by omega, by omega⟩
    repeat' (first | ((rw [hmin])) | ((rw [hsl])) | ((rw [hsr])) | ((first | refine WLA.m rfl rfl ?_ ?_ | refine WLA.st rfl ?_ ?_ | refine WLA.x rfl rfl ?_ (fun x => ?_) | refine WLA.x0 rfl ?_ (fun x => ?_)); first | exact trivial | exact rfl | assumption | omega | (refine ⟨?_, ?_⟩ <;> omega) | (simp only [Room, lenS]; omega) | decide | skip) | (refine Stp.go ?_) | (guard_target =~ WLA _ _ _ _ _ (⟨_, .call ⟨.value (.func 88), _, _⟩, _, _, _, _⟩ :: _) _ _; refine WLA.call rfl rfl (Alloc_tr ok1 hu) ?_; rintro ⟨⟩) | (guard_target =~ WLA _ _ _ _ _ (⟨_, .call ⟨.value (.func 86), _, _⟩, _, _, _, _⟩ :: _) _ _; refine WLA.cq rfl rfl (Size_tr) ?_) | (guard_target =~ WLA _ _ _ _ _ (⟨_, .call ⟨.value (.func 89), _, _⟩, _, _, _, _⟩ :: _) _ _; refine WLA.call rfl rfl (Write_tr (has_alloc m1) (t := t.extract k (k + c)) (by show _ ≤ m1.size; omega) (by show m1.size ≤ _; omega)) ?_; rintro ⟨⟩) | (refine WPA.ifT ?_) | (refine WPA.ifF ?_) | ((first | refine WPA.dec ?_); first | refine .inl ⟨by first | assumption | omega | with_reducible rfl | (refine fun h => h ?_; first | assumption | with_reducible rfl) | (simp only [lenS] <;> omega) | decide, ?_⟩ | refine .inr ⟨by first | assumption | omega | with_reducible rfl | (refine fun h => h ?_; first | assumption | with_reducible rfl) | (simp only [lenS] <;> omega) | decide, ?_⟩) | ((first | refine WPA.ifBt ?_ ?_ | refine WPA.ifBnf ?_ ?_); assumption) | ((first | refine WPA.ifBnt ?_ ?_ | refine WPA.ifBf ?_ ?_); assumption) | ((first | refine WPA.ifs ?_ ?_ | refine WPA.ifB ?_ ?_) <;> intro hc))
    exact QQ.loopS ⟨m1.alloc.write (firstFree m1.tk) (t.extract k (k + c)), ids ++ [(firstFree m1.tk : Int)], k + c, x⟩ ⟨rfl, rfl, rfl, trivial⟩ ⟨⟨c3, by show (ids ++ [_]).length ≤ k + c; rw [List.length_append]; show _ + 1 ≤ _; omega⟩, hok2, hstep.symm.trans hF, hR2⟩ (by dsimp only; omega) (fun w h => h.to)
  · have hlt' : ¬ (0 : Int) < (t.extract k t.size).size := by omega
    rw [fillN_end hlt] at hF
    rw [← hF]
    repeat' (first | ((first | refine WLA.m rfl rfl ?_ ?_ | refine WLA.st rfl ?_ ?_ | refine WLA.x rfl rfl ?_ (fun x => ?_) | refine WLA.x0 rfl ?_ (fun x => ?_)); first | exact trivial | exact rfl | assumption | omega | (refine ⟨?_, ?_⟩ <;> omega) | (simp only [Room, lenS]; omega) | decide | skip) | (refine Stp.go ?_) | (refine WPA.ifT ?_) | (refine WPA.ifF ?_) | ((first | refine WPA.dec ?_); first | refine .inl ⟨by first | assumption | omega | with_reducible rfl | (refine fun h => h ?_; first | assumption | with_reducible rfl) | (simp only [lenS] <;> omega) | decide, ?_⟩ | refine .inr ⟨by first | assumption | omega | with_reducible rfl | (refine fun h => h ?_; first | assumption | with_reducible rfl) | (simp only [lenS] <;> omega) | decide, ?_⟩) | ((first | refine WPA.ifBt ?_ ?_ | refine WPA.ifBnf ?_ ?_); assumption) | ((first | refine WPA.ifBnt ?_ ?_ | refine WPA.ifBf ?_ ?_); assumption) | ((first | refine WPA.ifs ?_ ?_ | refine WPA.ifB ?_ ?_) <;> intro hc))
    exact QQ.end_ rfl s rfl fun w h => h.to
end
end Go.Proofs.YtamnobjdgjbmbaaGreat
