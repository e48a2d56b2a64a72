/- Texts that TallyStats_law leans on, part 11. Conditions: none. -/
import Derived.Test.YtamnobjdgjbmbaaGreatQs10
namespace Go.Proofs.YtamnobjdgjbmbaaGreat
open Go Go.Fw Go.RowKit
set_option linter.unusedVariables false
set_option linter.unusedSimpArgs false
set_option maxRecDepth 100000
set_option maxHeartbeats 16000000
set_option synthInstance.maxHeartbeats 200000
set_option synthInstance.maxSize 100000
attribute [local irreducible] WPA WLA WDA WDQ WDE QQ seqQ blockQ loopQ fnQ OpP OpT Tr TrP SL SLd OwnS LitS Bk BkE Ob
theorem ext_full' (s : ByteArray) : s.extract 0 s.size = s := by
  ext1; rw [ByteArray.data_extract]; simp
theorem ext_size' (s : ByteArray) (f : Nat) (h : f ≤ s.size) : (s.extract f s.size).size = s.size - f := by simp
theorem ext_ext' (s : ByteArray) (f a b : Nat) (h : f + b ≤ s.size) : (s.extract f s.size).extract a b = s.extract (f + a) (f + b) := by
  apply ByteArray.ext
  simp only [ByteArray.data_extract, Array.extract_extract]
  have : s.data.size = s.size := rfl
  congr 1; omega
def fillC (t : ByteArray) (m : BS) (k : Nat) : Nat := max 1 (min (t.size - k) m.size.toNat)
def fillN (t : ByteArray) (m : BS) (ids : List Int) (k : Nat) : BS × List Int :=
  if h : k < t.size then fillN t (m.alloc.write (firstFree m.tk) (t.extract k (k + fillC t m k))) (ids ++ [(firstFree m.tk : Int)]) (k + fillC t m k) else (m, ids)
termination_by t.size - k
decreasing_by unfold fillC; omega
theorem fillN_step {t : ByteArray} {m : BS} {ids : List Int} {k : Nat} (h : k < t.size) : fillN t m ids k = fillN t (m.alloc.write (firstFree m.tk) (t.extract k (k + fillC t m k))) (ids ++ [(firstFree m.tk : Int)]) (k + fillC t m k) := by rw [fillN, dif_pos h]
theorem fillN_end {t : ByteArray} {m : BS} {ids : List Int} {k : Nat} (h : ¬ k < t.size) : fillN t m ids k = (m, ids) := by rw [fillN, dif_neg h]
theorem fillC_eq {t : ByteArray} {m : BS} {k : Nat} (h : k < t.size) (hs : 1 ≤ m.size ∧ m.size ≤ 65536) : (fillC t m k : Int) = min ((t.size - k : Nat) : Int) m.size ∧ 1 ≤ fillC t m k ∧ k + fillC t m k ≤ t.size ∧ (fillC t m k : Int) ≤ m.size := by unfold fillC; omega
theorem room_iff {n z d : Int} (hz : 1 ≤ z) : d < (n + z - 1) / z ↔ z * d < n := by
  have h := Int.le_ediv_iff_mul_le (a := d + 1) (b := n + z - 1) (c := z) (by omega)
  rw [Int.add_mul, Int.one_mul, Int.mul_comm d z] at h
  omega
theorem has_alloc (m : BS) : Has m.alloc.tk (firstFree m.tk : Nat) := by
  have h := firstFree_padB m.tk
  refine ⟨⟨by omega, ?_⟩, ?_⟩
  · show ((firstFree m.tk : Nat) : Int) < ((padB m.tk).set (firstFree m.tk) true).length
    rw [List.length_set]; omega
  · show at_ ((padB m.tk).set (firstFree m.tk) true) ((firstFree m.tk : Nat) : Int) = true
    rw [at_nat _ _ (by rw [List.length_set]; exact h), List.getElem_set_self]
structure FS where
  m : BS
  ids : List Int
  k : Nat
  s : SV
section
variable {S : Nat} {m : BS} {t : ByteArray} {L L' : List HP} {w0 : World} {I : Foot}
theorem fill_no [h : FindK L StoreR S m L'] (ok : m.Ok) (ht : t.size ≤ 1000000000000) (hr : m.size * (m.most - m.used) < t.size) :
    Tr Tryz.prog 57 #[.pointer (some ⟨S, 0, none⟩), .string t] (SL w0 I L) (fun _ : Unit => .tuple #[.slice none 0 0, .int .i64 6]) (fun _ => SL w0 I L) := by
  refine Tr.intro Tryz.func57 rfl Tryz.ntmps57 rfl ?_
  have hu0 := ok.used0
  have hum := ok.um
  have hz := ok.size
  have hm := ok.most
  have hg := (room_iff (n := t.size) (d := m.most - m.used) hz.1).2 hr
  repeat' (first | ((first | refine WLA.m rfl rfl ?_ ?_ | refine WDQ.m rfl rfl ?_ ?_ | refine WLA.st rfl ?_ ?_ | refine WLA.x rfl rfl ?_ (fun x => ?_) | refine WLA.x0 rfl ?_ (fun x => ?_)); first | exact trivial | exact rfl | assumption | omega | (refine ⟨?_, ?_⟩ <;> omega) | (simp only [Room, lenS]; omega) | decide | skip) | (refine Stp.go ?_) | (guard_target =~ WLA _ _ _ _ _ (⟨_, .call ⟨.value (.func 86), _, _⟩, _, _, _, _⟩ :: _) _ _; refine WLA.cq rfl rfl (Size_tr) ?_) | (guard_target =~ WLA _ _ _ _ _ (⟨_, .call ⟨.value (.func 87), _, _⟩, _, _, _, _⟩ :: _) _ _; refine WLA.cq rfl rfl (Left_tr ⟨hu0, hum⟩ hm.2) ?_) | (refine WPA.ifT ?_) | (refine WPA.ifF ?_) | ((first | refine WPA.dec ?_); first | refine .inl ⟨by first | assumption | omega | with_reducible rfl | (refine fun h => h ?_; first | assumption | with_reducible rfl) | (simp only [lenS] <;> omega) | decide, ?_⟩ | refine .inr ⟨by first | assumption | omega | with_reducible rfl | (refine fun h => h ?_; first | assumption | with_reducible rfl) | (simp only [lenS] <;> omega) | decide, ?_⟩) | ((first | refine WPA.ifBt ?_ ?_ | refine WPA.ifBnf ?_ ?_); assumption) | ((first | refine WPA.ifBnt ?_ ?_ | refine WPA.ifBf ?_ ?_); assumption) | ((first | refine WPA.ifs ?_ ?_ | refine WPA.ifB ?_ ?_) <;> intro hc) | (guard_target =~ WPA _ _ _ (.region 2 _ true) _ _ _; refine WPA.drawT 11 (.q 0 (.q 1 (.q 2 (.q 3 (.q 4 (.q 5 (.q 6 (.q 7 (.q 8 (.q 9 (.q 10 .fin))))))))))) mixed ?_ ?_; kernel_rfl) | (refine WDA.finish (tl := [⟨_, _, _, _, _, _⟩]) rfl ?_) | (refine WDQ.see rfl ?_) | (guard_target =~ WDQ _ _ _ _ _ _ _ ⟨_, .call ⟨.value (.func 86), _, _⟩, _, _, _, _⟩ _ _ _; refine WDQ.cq rfl rfl (Size_tr) ?_) | (guard_target =~ WDQ _ _ _ _ _ _ _ ⟨_, .call ⟨.value (.func 87), _, _⟩, _, _, _, _⟩ _ _ _; refine WDQ.cq rfl rfl (Left_tr ⟨hu0, hum⟩ hm.2) ?_))
  exact QQ.end_ rfl () rfl fun w h => h
theorem fill_tr [h : FindK L StoreR S m L'] (ok : m.Ok) (ht : t.size ≤ 1000000000000) (hr : ¬ m.size * (m.most - m.used) < t.size) :
    Tr Tryz.prog 57 #[.pointer (some ⟨S, 0, none⟩), .string t] (SL w0 I L) (fun s : SV => .tuple #[.slice s.a s.n s.cap, .int .i64 0]) (fun s => SL w0 I (OwnS 3 s (fillN t m [] 0).2 :: StoreR S (fillN t m [] 0).1 :: L')) := by
  refine Tr.at h.out ?_
  refine Tr.intro Tryz.func57 rfl Tryz.ntmps57 rfl ?_
  have hu0 := ok.used0
  have hum := ok.um
  have hz := ok.size
  have hm := ok.most
  have hg := mt (room_iff (n := t.size) (d := m.most - m.used) hz.1).1 hr
  have hfull := ext_full' t
  repeat' (first | ((first | refine WLA.m rfl rfl ?_ ?_ | refine WDQ.m rfl rfl ?_ ?_ | refine WLA.st rfl ?_ ?_ | refine WLA.x rfl rfl ?_ (fun x => ?_) | refine WLA.x0 rfl ?_ (fun x => ?_)); first | exact trivial | exact rfl | assumption | omega | (refine ⟨?_, ?_⟩ <;> omega) | (simp only [Room, lenS]; omega) | decide | skip) | (refine Stp.go ?_) | (guard_target =~ WLA _ _ _ _ _ (⟨_, .call ⟨.value (.func 86), _, _⟩, _, _, _, _⟩ :: _) _ _; refine WLA.cq rfl rfl (Size_tr) ?_) | (guard_target =~ WLA _ _ _ _ _ (⟨_, .call ⟨.value (.func 87), _, _⟩, _, _, _, _⟩ :: _) _ _; refine WLA.cq rfl rfl (Left_tr ⟨hu0, hum⟩ hm.2) ?_) | (refine WPA.ifT ?_) | (refine WPA.ifF ?_) | ((first | refine WPA.dec ?_); first | refine .inl ⟨by first | assumption | omega | with_reducible rfl | (refine fun h => h ?_; first | assumption | with_reducible rfl) | (simp only [lenS] <;> omega) | decide, ?_⟩ | refine .inr ⟨by first | assumption | omega | with_reducible rfl | (refine fun h => h ?_; first | assumption | with_reducible rfl) | (simp only [lenS] <;> omega) | decide, ?_⟩) | ((first | refine WPA.ifBt ?_ ?_ | refine WPA.ifBnf ?_ ?_); assumption) | ((first | refine WPA.ifBnt ?_ ?_ | refine WPA.ifBf ?_ ?_); assumption) | ((first | refine WPA.ifs ?_ ?_ | refine WPA.ifB ?_ ?_) <;> intro hc) | (guard_target =~ WPA _ _ _ (.region 2 _ true) _ _ _; refine WPA.drawT 11 (.q 0 (.q 1 (.q 2 (.q 3 (.q 4 (.q 5 (.q 6 (.q 7 (.q 8 (.q 9 (.q 10 .fin))))))))))) mixed ?_ ?_; kernel_rfl) | (refine WDA.finish (tl := [⟨_, _, _, _, _, _⟩]) rfl ?_) | (refine WDQ.see rfl ?_) | (guard_target =~ WDQ _ _ _ _ _ _ _ ⟨_, .call ⟨.value (.func 86), _, _⟩, _, _, _, _⟩ _ _ _; refine WDQ.cq rfl rfl (Size_tr) ?_) | (guard_target =~ WDQ _ _ _ _ _ _ _ ⟨_, .call ⟨.value (.func 87), _, _⟩, _, _, _, _⟩ _ _ _; refine WDQ.cq rfl rfl (Left_tr ⟨hu0, hum⟩ hm.2) ?_))
  refine WPA.ent (L' := OwnS 3 SV.nil ([] : List Int) :: StoreR S m :: L') (Ent.ownNil Ent.refl) ?_
  refine WPA.loopS (σ := FS) (fun y => [(0, .pointer (some ⟨S, 0, none⟩)), (1, .string (t.extract y.k t.size)), (6, .slice y.s.a y.s.n y.s.cap)]) (fun y => (y.k ≤ t.size ∧ y.ids.length ≤ y.k) ∧ y.m.Ok ∧ fillN t y.m y.ids y.k = fillN t m [] 0 ∧ ((t.size - y.k : Nat) : Int) ≤ y.m.size * (y.m.most - y.m.used))
    (fun y => SL w0 I (OwnS 3 y.s y.ids :: StoreR S y.m :: L')) (fun y => t.size - y.k) ⟨m, [], 0, SV.nil⟩ ⟨rfl, by show _ = Value.string (t.extract 0 t.size); rw [hfull]; rfl, rfl, trivial⟩ ⟨⟨Nat.zero_le _, Nat.le_refl _⟩, ok, rfl, by show ((t.size - 0 : Nat) : Int) ≤ m.size * (m.most - m.used); omega⟩ (fun w h => h.to) ?_
  rintro ⟨m1, ids, k, s⟩ ρ ⟨⟨hk, hil⟩, ok1, hF, hR⟩
  dsimp only at hk hil ok1 hF hR ⊢
  have hsz := ext_size' t k hk
  by_cases hlt : k < t.size
  · have hlt' : (0 : Int) < (t.extract k t.size).size := by omega
    have hz1 := ok1.size
    obtain ⟨c1, c2, c3, c4⟩ := fillC_eq hlt hz1
    have hum1 := ok1.um
    have hu : m1.used < m1.most := by
      rcases Int.lt_or_eq_of_le hum1 with h | h
      · exact h
      · rw [h, Int.sub_self, Int.mul_zero] at hR; omega
    have hmin : min (((t.extract k t.size).size : Nat) : Int) m1.alloc.size = (fillC t m1 k : Nat) := by rw [hsz]; exact c1.symm
    have hok2 := (ok1.alloc hu).write (has_alloc m1) (t := t.extract k (k + fillC t m1 k))
    have hstep := fillN_step (ids := ids) hlt (m := m1)
    have hsl : (t.extract k t.size).extract (Int.toNat 0) ((fillC t m1 k : Nat) : Int).toNat = t.extract k (k + fillC t m1 k) := by rw [Int.toNat_natCast, ext_ext' _ _ _ _ (by omega)]; rfl
    have hsr : (t.extract k t.size).extract ((fillC t m1 k : Nat) : Int).toNat (((t.extract k t.size).size : Nat) : Int).toNat = t.extract (k + fillC t m1 k) t.size := by rw [Int.toNat_natCast, Int.toNat_natCast, hsz, ext_ext' _ _ _ _ (by omega), show k + (t.size - k) = t.size by omega]
    have hsp : (t.extract k (k + fillC t m1 k)).size = fillC t m1 k := by rw [ByteArray.size_extract]; omega
    have hR2 : ((t.size - (k + fillC t m1 k) : Nat) : Int) ≤ m1.size * (m1.most - (m1.used + 1)) := by
      have e : m1.size * (m1.most - (m1.used + 1)) = m1.size * (m1.most - m1.used) - m1.size := by rw [← Int.sub_sub, Int.mul_sub m1.size (m1.most - m1.used) 1, Int.mul_one]
      rw [e]
      rcases Int.le_total ((t.size - k : Nat) : Int) m1.size with hle | hle
      · have : 0 ≤ m1.size * (m1.most - m1.used - 1) := Int.mul_nonneg (by omega) (by omega)
        rw [Int.mul_sub, Int.mul_one] at this
        omega
      · omega
    generalize fillC t m1 k = c at c1 c2 c3 c4 hmin hok2 hstep hsl hsr hsp hR2
    have hcc : (0 : Int) ≤ c ∧ (c : Int) ≤ (t.extract k t.size).size := by omega
    have hroom : Room (ids.length + 1) 1 := ⟨by omega, by omega⟩
    repeat' (first | ((rw [hmin])) | ((rw [hsl])) | ((rw [hsr])) | ((first | refine WLA.m rfl rfl ?_ ?_ | refine WLA.st rfl ?_ ?_ | refine WLA.x rfl rfl ?_ (fun x => ?_) | refine WLA.x0 rfl ?_ (fun x => ?_)); first | exact trivial | exact rfl | assumption | omega | (refine ⟨?_, ?_⟩ <;> omega) | (simp only [Room, lenS]; omega) | decide | skip) | (refine Stp.go ?_) | (guard_target =~ WLA _ _ _ _ _ (⟨_, .call ⟨.value (.func 88), _, _⟩, _, _, _, _⟩ :: _) _ _; refine WLA.call rfl rfl (Alloc_tr ok1 hu) ?_; rintro ⟨⟩) | (guard_target =~ WLA _ _ _ _ _ (⟨_, .call ⟨.value (.func 86), _, _⟩, _, _, _, _⟩ :: _) _ _; refine WLA.cq rfl rfl (Size_tr) ?_) | (guard_target =~ WLA _ _ _ _ _ (⟨_, .call ⟨.value (.func 89), _, _⟩, _, _, _, _⟩ :: _) _ _; refine WLA.call rfl rfl (Write_tr (has_alloc m1) (t := t.extract k (k + c)) (by show _ ≤ m1.size; omega) (by show m1.size ≤ _; omega)) ?_; rintro ⟨⟩) | (refine WPA.ifT ?_) | (refine WPA.ifF ?_) | ((first | refine WPA.dec ?_); first | refine .inl ⟨by first | assumption | omega | with_reducible rfl | (refine fun h => h ?_; first | assumption | with_reducible rfl) | (simp only [lenS] <;> omega) | decide, ?_⟩ | refine .inr ⟨by first | assumption | omega | with_reducible rfl | (refine fun h => h ?_; first | assumption | with_reducible rfl) | (simp only [lenS] <;> omega) | decide, ?_⟩) | ((first | refine WPA.ifBt ?_ ?_ | refine WPA.ifBnf ?_ ?_); assumption) | ((first | refine WPA.ifBnt ?_ ?_ | refine WPA.ifBf ?_ ?_); assumption) | ((first | refine WPA.ifs ?_ ?_ | refine WPA.ifB ?_ ?_) <;> intro hc))
    exact QQ.loopS ⟨m1.alloc.write (firstFree m1.tk) (t.extract k (k + c)), ids ++ [(firstFree m1.tk : Int)], k + c, x⟩ ⟨rfl, rfl, rfl, trivial⟩ ⟨⟨c3, by show (ids ++ [_]).length ≤ k + c; rw [List.length_append]; show _ + 1 ≤ _; omega⟩, hok2, hstep.symm.trans hF, hR2⟩ (by dsimp only; omega) (fun w h => h.to)
  · have hlt' : ¬ (0 : Int) < (t.extract k t.size).size := by omega
    rw [fillN_end hlt] at hF
    rw [← hF]
    repeat' (first | ((first | refine WLA.m rfl rfl ?_ ?_ | refine WLA.st rfl ?_ ?_ | refine WLA.x rfl rfl ?_ (fun x => ?_) | refine WLA.x0 rfl ?_ (fun x => ?_)); first | exact trivial | exact rfl | assumption | omega | (refine ⟨?_, ?_⟩ <;> omega) | (simp only [Room, lenS]; omega) | decide | skip) | (refine Stp.go ?_) | (refine WPA.ifT ?_) | (refine WPA.ifF ?_) | ((first | refine WPA.dec ?_); first | refine .inl ⟨by first | assumption | omega | with_reducible rfl | (refine fun h => h ?_; first | assumption | with_reducible rfl) | (simp only [lenS] <;> omega) | decide, ?_⟩ | refine .inr ⟨by first | assumption | omega | with_reducible rfl | (refine fun h => h ?_; first | assumption | with_reducible rfl) | (simp only [lenS] <;> omega) | decide, ?_⟩) | ((first | refine WPA.ifBt ?_ ?_ | refine WPA.ifBnf ?_ ?_); assumption) | ((first | refine WPA.ifBnt ?_ ?_ | refine WPA.ifBf ?_ ?_); assumption) | ((first | refine WPA.ifs ?_ ?_ | refine WPA.ifB ?_ ?_) <;> intro hc))
    exact QQ.end_ rfl s rfl fun w h => h.to
end
end Go.Proofs.YtamnobjdgjbmbaaGreat
namespace Go.Proofs.YtamnobjdgjbmbaaGreat
open Go Go.Fw Go.RowKit
set_option linter.unusedVariables false
set_option linter.unusedSimpArgs false
set_option maxRecDepth 100000
set_option maxHeartbeats 16000000
set_option synthInstance.maxHeartbeats 200000
set_option synthInstance.maxSize 100000
attribute [local irreducible] WPA WLA WDA WDQ WDE QQ seqQ blockQ loopQ fnQ OpP OpT Tr TrP SL SLd OwnS LitS Bk BkE Ob
structure GS where
  m : BS
  r : RS
  ids : List Int
  k : Nat
  s : SV
section
variable {S : Nat} {m : BS} {r : RS} {t : ByteArray} {L L' : List HP} {w0 : World} {I : Foot}
theorem rAlloc_go [h : FindK L RefR S r L'] {f : Nat} (hf : firstFree r.tk = f) (hn : ¬ r.most ≤ f) (hl : r.tk.length ≤ 1048576) (hm : r.most ≤ 1048576) : Tr Tryz.prog 69 #[.pointer (some ⟨S, 0, none⟩)] (SL w0 I L)
    (fun _ : Unit => .tuple #[.int .i64 (f : Int), .int .i64 0]) (fun _ => SL w0 I (RefR S r.alloc :: L')) := by
  have := rAlloc_tr (w0 := w0) (I := I) (L := L) (L' := L') (S := S) (m := r) hl hm
  rw [if_neg (by rw [hf]; exact hn), if_neg (by rw [hf]; exact hn), if_neg (by rw [hf]; exact hn), hf] at this
  exact this
theorem rFill_no [h : FindK L RefR S r L'] (ok : m.Ok) (rel : Rel m r) (hl : m.most ≤ 1048576) (ht : t.size ≤ 1000000000000) (hr : m.size * (m.most - m.used) < t.size) :
    Tr Tryz.prog 41 #[.pointer (some ⟨S, 0, none⟩), .string t] (SL w0 I L) (fun _ : Unit => .tuple #[.slice none 0 0, .int .i64 6]) (fun _ => SL w0 I (RefR S r :: L')) := by
  refine Tr.at h.out (Tr.opn ?_)
  rintro ⟨⟨p, q⟩, hlt0⟩
  dsimp only
  refine Tr.intro Tryz.func41 rfl Tryz.ntmps41 rfl ?_
  have hu0 := ok.used0
  have hum := ok.um
  have hz := ok.size
  have hm := ok.most
  have hlm := ok.lm
  have hu : m.used = ((r.tk.count true : Nat) : Int) := by rw [rel.tk]; exact ok.used
  have hrl : r.tk.length ≤ 1048576 := by rw [rel.tk]; omega
  rw [← rel.size, ← rel.most, hu] at hr
  rw [hu, ← rel.most] at hum
  rw [← rel.size] at hz
  rw [← rel.most] at hm
  rw [hu] at hu0
  have hp : 0 ≤ r.size * (r.most - (r.tk.count true : Nat)) ∧ r.size * (r.most - (r.tk.count true : Nat)) ≤ 68719476736 := by
    refine ⟨Int.mul_nonneg (by omega) (by omega), ?_⟩
    exact Int.le_trans (Int.mul_le_mul hz.2 (by omega : _ ≤ (1048576 : Int)) (by omega) (by omega)) (by decide)
  repeat' (first | ((first | refine WLA.m rfl rfl ?_ ?_ | refine WDQ.m rfl rfl ?_ ?_ | refine WLA.st rfl ?_ ?_ | refine WLA.x rfl rfl ?_ (fun x => ?_) | refine WLA.x0 rfl ?_ (fun x => ?_)); first | exact trivial | exact rfl | assumption | omega | (refine ⟨?_, ?_⟩ <;> omega) | (simp only [Room, lenS]; omega) | decide | skip) | (refine Stp.go ?_) | (guard_target =~ WLA _ _ _ _ _ (⟨_, .call ⟨.value (.func 17), _, _⟩, _, _, _, _⟩ :: _) _ _; refine WLA.cq rfl rfl (rUsed_in hrl) ?_) | (refine WPA.ifT ?_) | (refine WPA.ifF ?_) | ((first | refine WPA.dec ?_); first | refine .inl ⟨by first | assumption | omega | with_reducible rfl | (refine fun h => h ?_; first | assumption | with_reducible rfl) | (simp only [lenS] <;> omega) | decide, ?_⟩ | refine .inr ⟨by first | assumption | omega | with_reducible rfl | (refine fun h => h ?_; first | assumption | with_reducible rfl) | (simp only [lenS] <;> omega) | decide, ?_⟩) | ((first | refine WPA.ifBt ?_ ?_ | refine WPA.ifBnf ?_ ?_); assumption) | ((first | refine WPA.ifBnt ?_ ?_ | refine WPA.ifBf ?_ ?_); assumption) | ((first | refine WPA.ifs ?_ ?_ | refine WPA.ifB ?_ ?_) <;> intro hc) | (guard_target =~ WPA _ _ _ (.region 2 _ true) _ _ _; refine WPA.drawT 14 (.q 0 (.q 1 (.q 2 (.q 3 (.q 4 (.q 5 (.q 6 (.q 7 (.q 8 (.q 9 (.q 10 (.q 11 (.q 12 (.q 13 .fin)))))))))))))) mixed ?_ ?_; kernel_rfl) | (refine WDA.finish (tl := [⟨_, _, _, _, _, _⟩]) rfl ?_) | (refine WDQ.see rfl ?_) | (guard_target =~ WDQ _ _ _ _ _ _ _ ⟨_, .call ⟨.value (.func 17), _, _⟩, _, _, _, _⟩ _ _ _; refine WDQ.cq rfl rfl (rUsed_in hrl) ?_))
  exact QQ.end_ rfl () rfl fun w h => (RefR.fold (x := r) (p := p) (q := q) hlt0).sl h.to
theorem rFill_tr [h : FindK L RefR S r L'] (ok : m.Ok) (rel : Rel m r) (hl : m.most ≤ 1048576) (ht : t.size ≤ 1000000000000) (hr : ¬ m.size * (m.most - m.used) < t.size) :
    Tr Tryz.prog 41 #[.pointer (some ⟨S, 0, none⟩), .string t] (SL w0 I L) (fun s : SV × { r' : RS // Rel (fillN t m [] 0).1 r' } => .tuple #[.slice s.1.a s.1.n s.1.cap, .int .i64 0]) (fun s => SL w0 I (OwnS 3 s.1 (fillN t m [] 0).2 :: RefR S s.2.1 :: L')) := by
  refine Tr.at h.out (Tr.opn ?_)
  rintro ⟨⟨p, q⟩, hlt0⟩
  dsimp only
  refine Tr.intro Tryz.func41 rfl Tryz.ntmps41 rfl ?_
  have hu0 := ok.used0
  have hum := ok.um
  have hz := ok.size
  have hm := ok.most
  have hlm := ok.lm
  have hr0 := hr
  have hu : m.used = ((r.tk.count true : Nat) : Int) := by rw [rel.tk]; exact ok.used
  have hrl : r.tk.length ≤ 1048576 := by rw [rel.tk]; omega
  rw [← rel.size, ← rel.most, hu] at hr
  rw [hu, ← rel.most] at hum
  rw [← rel.size] at hz
  rw [← rel.most] at hm
  rw [hu] at hu0
  have hp : 0 ≤ r.size * (r.most - (r.tk.count true : Nat)) ∧ r.size * (r.most - (r.tk.count true : Nat)) ≤ 68719476736 := by
    refine ⟨Int.mul_nonneg (by omega) (by omega), ?_⟩
    exact Int.le_trans (Int.mul_le_mul hz.2 (by omega : _ ≤ (1048576 : Int)) (by omega) (by omega)) (by decide)
  have hfull := ext_full' t
  repeat' (first | ((first | refine WLA.m rfl rfl ?_ ?_ | refine WDQ.m rfl rfl ?_ ?_ | refine WLA.st rfl ?_ ?_ | refine WLA.x rfl rfl ?_ (fun x => ?_) | refine WLA.x0 rfl ?_ (fun x => ?_)); first | exact trivial | exact rfl | assumption | omega | (refine ⟨?_, ?_⟩ <;> omega) | (simp only [Room, lenS]; omega) | decide | skip) | (refine Stp.go ?_) | (guard_target =~ WLA _ _ _ _ _ (⟨_, .call ⟨.value (.func 17), _, _⟩, _, _, _, _⟩ :: _) _ _; refine WLA.cq rfl rfl (rUsed_in hrl) ?_) | (refine WPA.ifT ?_) | (refine WPA.ifF ?_) | ((first | refine WPA.dec ?_); first | refine .inl ⟨by first | assumption | omega | with_reducible rfl | (refine fun h => h ?_; first | assumption | with_reducible rfl) | (simp only [lenS] <;> omega) | decide, ?_⟩ | refine .inr ⟨by first | assumption | omega | with_reducible rfl | (refine fun h => h ?_; first | assumption | with_reducible rfl) | (simp only [lenS] <;> omega) | decide, ?_⟩) | ((first | refine WPA.ifBt ?_ ?_ | refine WPA.ifBnf ?_ ?_); assumption) | ((first | refine WPA.ifBnt ?_ ?_ | refine WPA.ifBf ?_ ?_); assumption) | ((first | refine WPA.ifs ?_ ?_ | refine WPA.ifB ?_ ?_) <;> intro hc) | (guard_target =~ WPA _ _ _ (.region 2 _ true) _ _ _; refine WPA.drawT 14 (.q 0 (.q 1 (.q 2 (.q 3 (.q 4 (.q 5 (.q 6 (.q 7 (.q 8 (.q 9 (.q 10 (.q 11 (.q 12 (.q 13 .fin)))))))))))))) mixed ?_ ?_; kernel_rfl) | (refine WDA.finish (tl := [⟨_, _, _, _, _, _⟩]) rfl ?_) | (refine WDQ.see rfl ?_) | (guard_target =~ WDQ _ _ _ _ _ _ _ ⟨_, .call ⟨.value (.func 17), _, _⟩, _, _, _, _⟩ _ _ _; refine WDQ.cq rfl rfl (rUsed_in hrl) ?_))
  refine WPA.ent (L' := OwnS 3 SV.nil ([] : List Int) :: RefR S r :: L') (Ent.ownNil (RefR.fold (x := r) (p := p) (q := q) hlt0)) ?_
  refine WPA.loopS (σ := GS) (fun y => [(0, .pointer (some ⟨S, 0, none⟩)), (1, .string (t.extract y.k t.size)), (6, .slice y.s.a y.s.n y.s.cap)]) (fun y => (y.k ≤ t.size ∧ y.ids.length ≤ y.k) ∧ (y.m.Ok ∧ Rel y.m y.r ∧ y.m.most = m.most) ∧ fillN t y.m y.ids y.k = fillN t m [] 0 ∧ ((t.size - y.k : Nat) : Int) ≤ y.m.size * (y.m.most - y.m.used))
    (fun y => SL w0 I (OwnS 3 y.s y.ids :: RefR S y.r :: L')) (fun y => t.size - y.k) ⟨m, r, [], 0, SV.nil⟩ ⟨rfl, by show _ = Value.string (t.extract 0 t.size); rw [hfull]; rfl, rfl, trivial⟩ ⟨⟨Nat.zero_le _, Nat.le_refl _⟩, ⟨ok, rel, rfl⟩, rfl, by show ((t.size - 0 : Nat) : Int) ≤ m.size * (m.most - m.used); omega⟩ (fun w h => h.to) ?_
  rintro ⟨m1, r1, ids, k, s⟩ ρ ⟨⟨hk, hil⟩, ⟨ok1, rel1, hmo⟩, hF, hR⟩
  dsimp only at hk hil ok1 rel1 hmo hF hR ⊢
  have hsz := ext_size' t k hk
  by_cases hlt : k < t.size
  · have hne : t.extract k t.size ≠ ⟨#[]⟩ := fun e => by rw [e] at hsz; have : (⟨#[]⟩ : ByteArray).size = 0 := rfl; omega
    have hz1 := ok1.size
    obtain ⟨c1, c2, c3, c4⟩ := fillC_eq hlt hz1
    have hum1 := ok1.um
    have hlm1 := ok1.lm
    have hu : m1.used < m1.most := by
      rcases Int.lt_or_eq_of_le hum1 with h | h
      · exact h
      · rw [h, Int.sub_self, Int.mul_zero] at hR; omega
    have hff : ¬ r1.most ≤ (firstFree m1.tk : Nat) := by rw [rel1.most]; exact fun h => by have := ok1.full.2 h; omega
    have rel2 := rel1.alloc ok1
    rw [BS.alloc', if_neg (by omega), RS.alloc', if_neg (by rw [rel1.tk]; exact hff)] at rel2
    have rel3 := rel2.write (id := (firstFree m1.tk : Nat)) (t := t.extract k (k + fillC t m1 k)) (ok1.alloc hu)
    have hrsz : r1.alloc.size = m1.size := rel1.size
    have hmin : min (((t.extract k t.size).size : Nat) : Int) r1.alloc.size = (fillC t m1 k : Nat) := by rw [hrsz, hsz]; exact c1.symm
    have hok2 := (ok1.alloc hu).write (has_alloc m1) (t := t.extract k (k + fillC t m1 k))
    have hstep := fillN_step (ids := ids) hlt (m := m1)
    have hsl : (t.extract k t.size).extract (Int.toNat 0) ((fillC t m1 k : Nat) : Int).toNat = t.extract k (k + fillC t m1 k) := by rw [Int.toNat_natCast, ext_ext' _ _ _ _ (by omega)]; rfl
    have hsr : (t.extract k t.size).extract ((fillC t m1 k : Nat) : Int).toNat (((t.extract k t.size).size : Nat) : Int).toNat = t.extract (k + fillC t m1 k) t.size := by rw [Int.toNat_natCast, Int.toNat_natCast, hsz, ext_ext' _ _ _ _ (by omega), show k + (t.size - k) = t.size by omega]
    have hsp : (t.extract k (k + fillC t m1 k)).size = fillC t m1 k := by rw [ByteArray.size_extract]; omega
    have hR2 : ((t.size - (k + fillC t m1 k) : Nat) : Int) ≤ m1.size * (m1.most - (m1.used + 1)) := by
      have e : m1.size * (m1.most - (m1.used + 1)) = m1.size * (m1.most - m1.used) - m1.size := by rw [← Int.sub_sub, Int.mul_sub m1.size (m1.most - m1.used) 1, Int.mul_one]
      rw [e]
      rcases Int.le_total ((t.size - k : Nat) : Int) m1.size with hle | hle
      · have : 0 ≤ m1.size * (m1.most - m1.used - 1) := Int.mul_nonneg (by omega) (by omega)
        rw [Int.mul_sub, Int.mul_one] at this
        omega
      · omega
    rw [BS.write', if_pos ⟨has_alloc m1, by show _ ≤ m1.size; omega⟩] at rel3
    generalize fillC t m1 k = c at c1 c2 c3 c4 hmin hok2 hstep hsl hsr hsp hR2 rel3
    have hcc : (0 : Int) ≤ c ∧ (c : Int) ≤ (t.extract k t.size).size := by omega
    have hroom : Room (ids.length + 1) 1 := ⟨by omega, by omega⟩
    repeat' ((fail_if_success (guard_target =~ WPA _ _ _ (.region 6 _ _) _ _ _)); first | ((first | refine WLA.m rfl rfl ?_ ?_ | refine WLA.st rfl ?_ ?_ | refine WLA.x rfl rfl ?_ (fun x => ?_) | refine WLA.x0 rfl ?_ (fun x => ?_)); first | exact trivial | exact rfl | assumption | omega | (refine ⟨?_, ?_⟩ <;> omega) | (simp only [Room, lenS]; omega) | decide | skip) | (refine Stp.go ?_) | (guard_target =~ WLA _ _ _ _ _ (⟨_, .call ⟨.value (.func 69), _, _⟩, _, _, _, _⟩ :: _) _ _; refine WLA.call rfl rfl (rAlloc_go (f := firstFree m1.tk) (by rw [rel1.tk]) hff (by rw [rel1.tk]; omega) (by rw [rel1.most, hmo]; omega)) ?_; rintro ⟨⟩) | (refine WPA.ifT ?_) | (refine WPA.ifF ?_) | ((first | refine WPA.dec ?_); first | refine .inl ⟨by first | assumption | omega | with_reducible rfl | (refine fun h => h ?_; first | assumption | with_reducible rfl) | (simp only [lenS] <;> omega) | decide, ?_⟩ | refine .inr ⟨by first | assumption | omega | with_reducible rfl | (refine fun h => h ?_; first | assumption | with_reducible rfl) | (simp only [lenS] <;> omega) | decide, ?_⟩) | ((first | refine WPA.ifBt ?_ ?_ | refine WPA.ifBnf ?_ ?_); assumption) | ((first | refine WPA.ifBnt ?_ ?_ | refine WPA.ifBf ?_ ?_); assumption) | ((first | refine WPA.ifs ?_ ?_ | refine WPA.ifB ?_ ?_) <;> intro hc))
    refine WPA.opn ?_
    rintro ⟨⟨p, q⟩, hl2⟩
    dsimp only
    repeat' ((fail_if_success (guard_target =~ WPA _ _ _ (.region 7 _ _) _ _ _)); first | ((rw [hmin])) | ((first | refine WLA.m rfl rfl ?_ ?_ | refine WLA.st rfl ?_ ?_ | refine WLA.x rfl rfl ?_ (fun x => ?_) | refine WLA.x0 rfl ?_ (fun x => ?_)); first | exact trivial | exact rfl | assumption | omega | (refine ⟨?_, ?_⟩ <;> omega) | (simp only [Room, lenS]; omega) | decide | skip) | (refine Stp.go ?_) | (refine WPA.ifT ?_) | (refine WPA.ifF ?_) | ((first | refine WPA.dec ?_); first | refine .inl ⟨by first | assumption | omega | with_reducible rfl | (refine fun h => h ?_; first | assumption | with_reducible rfl) | (simp only [lenS] <;> omega) | decide, ?_⟩ | refine .inr ⟨by first | assumption | omega | with_reducible rfl | (refine fun h => h ?_; first | assumption | with_reducible rfl) | (simp only [lenS] <;> omega) | decide, ?_⟩) | ((first | refine WPA.ifBt ?_ ?_ | refine WPA.ifBnf ?_ ?_); assumption) | ((first | refine WPA.ifBnt ?_ ?_ | refine WPA.ifBf ?_ ?_); assumption) | ((first | refine WPA.ifs ?_ ?_ | refine WPA.ifB ?_ ?_) <;> intro hc))
    refine WPA.ent (L' := RefR S r1.alloc :: OwnS 3 s ids :: L') (RefR.fold (x := r1.alloc) (p := p) (q := q) hl2) ?_
    repeat' (first | ((rw [hsl])) | ((rw [hsr])) | ((first | refine WLA.m rfl rfl ?_ ?_ | refine WLA.st rfl ?_ ?_ | refine WLA.x rfl rfl ?_ (fun x => ?_) | refine WLA.x0 rfl ?_ (fun x => ?_)); first | exact trivial | exact rfl | assumption | omega | (refine ⟨?_, ?_⟩ <;> omega) | (simp only [Room, lenS]; omega) | decide | skip) | (refine Stp.go ?_) | (guard_target =~ WLA _ _ _ _ _ (⟨_, .call ⟨.value (.func 70), _, _⟩, _, _, _, _⟩ :: _) _ _; refine WLA.call rfl rfl (rWrite_k (t := t.extract k (k + c)) (by rw [hrsz]; omega)) ?_; rintro ⟨⟩) | (refine WPA.ifT ?_) | (refine WPA.ifF ?_) | ((first | refine WPA.dec ?_); first | refine .inl ⟨by first | assumption | omega | with_reducible rfl | (refine fun h => h ?_; first | assumption | with_reducible rfl) | (simp only [lenS] <;> omega) | decide, ?_⟩ | refine .inr ⟨by first | assumption | omega | with_reducible rfl | (refine fun h => h ?_; first | assumption | with_reducible rfl) | (simp only [lenS] <;> omega) | decide, ?_⟩) | ((first | refine WPA.ifBt ?_ ?_ | refine WPA.ifBnf ?_ ?_); assumption) | ((first | refine WPA.ifBnt ?_ ?_ | refine WPA.ifBf ?_ ?_); assumption) | ((first | refine WPA.ifs ?_ ?_ | refine WPA.ifB ?_ ?_) <;> intro hc))
    exact QQ.loopS ⟨m1.alloc.write (firstFree m1.tk) (t.extract k (k + c)), r1.alloc.write' (firstFree m1.tk) (t.extract k (k + c)), ids ++ [(firstFree m1.tk : Int)], k + c, x⟩ ⟨rfl, rfl, rfl, trivial⟩ ⟨⟨c3, by show (ids ++ [_]).length ≤ k + c; rw [List.length_append]; show _ + 1 ≤ _; omega⟩, ⟨hok2, rel3, hmo⟩, hstep.symm.trans hF, hR2⟩ (by dsimp only; omega) (fun w h => h.to)
  · have hne : t.extract k t.size = ⟨#[]⟩ := by
      apply ByteArray.ext
      apply Array.eq_empty_of_size_eq_zero
      show (t.extract k t.size).size = 0
      omega
    rw [fillN_end hlt] at hF
    rw [← hF]
    repeat' (first | ((first | refine WLA.m rfl rfl ?_ ?_ | refine WLA.st rfl ?_ ?_ | refine WLA.x rfl rfl ?_ (fun x => ?_) | refine WLA.x0 rfl ?_ (fun x => ?_)); first | exact trivial | exact rfl | assumption | omega | (refine ⟨?_, ?_⟩ <;> omega) | (simp only [Room, lenS]; omega) | decide | skip) | (refine Stp.go ?_) | (refine WPA.ifT ?_) | (refine WPA.ifF ?_) | ((first | refine WPA.dec ?_); first | refine .inl ⟨by first | assumption | omega | with_reducible rfl | (refine fun h => h ?_; first | assumption | with_reducible rfl) | (simp only [lenS] <;> omega) | decide, ?_⟩ | refine .inr ⟨by first | assumption | omega | with_reducible rfl | (refine fun h => h ?_; first | assumption | with_reducible rfl) | (simp only [lenS] <;> omega) | decide, ?_⟩) | ((first | refine WPA.ifBt ?_ ?_ | refine WPA.ifBnf ?_ ?_); assumption) | ((first | refine WPA.ifBnt ?_ ?_ | refine WPA.ifBf ?_ ?_); assumption) | ((first | refine WPA.ifs ?_ ?_ | refine WPA.ifB ?_ ?_) <;> intro hc))
    exact QQ.end_ rfl (s, ⟨r1, rel1⟩) rfl fun w h => h.to
end
end Go.Proofs.YtamnobjdgjbmbaaGreat
namespace Go.Proofs.YtamnobjdgjbmbaaGreat
open Go Go.Fw Go.RowKit
set_option linter.unusedVariables false
set_option linter.unusedSimpArgs false
set_option maxRecDepth 100000
set_option maxHeartbeats 16000000
set_option synthInstance.maxHeartbeats 200000
set_option synthInstance.maxSize 100000
attribute [local irreducible] WPA WLA WDA WDQ WDE QQ seqQ blockQ loopQ fnQ OpP OpT Tr TrP SL SLd OwnS LitS Bk BkE Ob
attribute [local irreducible] vS keyS
structure WS where
  i : Nat
  ls : SV
theorem WPA.aptr {ro : Option Nat} {P : Program} {n : Nat} {Q : Hnd} {ρ : Env} {w0 : World} {I : Foot} {L : List HP} {c : Code} {s : SV} {l : List Int} (h : SlI I s Int inferInstance l) (hl : 1 ≤ l.length) (k : s.a ≠ none → WPA ro P n c Q ρ (SL w0 I L)) : WPA ro P n c Q ρ (SL w0 I L) :=
  WPA.ofEx (τ := { _u : Unit // s.a ≠ none }) (B := fun _ => SL w0 I L) (fun w hA => ⟨⟨(), by
    have h1 := h.out w fun b o hb => hA.mem b o hb
    rcases h1.plain with h2 | ⟨b, o, h2⟩
    · have := h1.len; omega
    · rw [h2]; exact fun h => by cases h⟩, hA⟩) fun x => k x.2
theorem chk1_zero {n N : Int} {pl : Option (List Int)} {g : List Int} (c0 : chk1 n pl g N = 0) : (g.length : Int) = n ∧ okKey g ∧ 1 ≤ N ∧ N ≤ 1099511627776 := by
  unfold chk1 at c0
  by_cases c1 : (g.length : Int) ≠ n
  · rw [if_pos c1] at c0; exact absurd c0 (by decide)
  rw [if_neg c1] at c0
  by_cases c2 : ¬ okKey g
  · rw [if_pos c2] at c0; exact absurd c0 (by decide)
  rw [if_neg c2] at c0
  by_cases c3 : N < 1 ∨ 1099511627776 < N
  · rw [if_pos c3] at c0; exact absurd c0 (by decide)
  exact ⟨Classical.byContradiction c1, Classical.byContradiction c2, by omega⟩
theorem wr_take {o : Int} {ms : List Ct} {i : Nat} (hz : fstN (wrE o ms) i = 0) : ∀ m ∈ ms.take i, (m.1.length : Int) = o ∧ okKey m.1 ∧ 1 ≤ m.2 ∧ m.2 ≤ 1099511627776 := by
  intro m hm
  obtain ⟨j, hj, e⟩ := List.mem_iff_getElem.1 hm
  rw [List.length_take] at hj
  rw [List.getElem_take] at e
  have h := fstN_zero hz j (by omega)
  unfold wrE at h
  rw [List.getD_eq_getElem?_getD, List.getElem?_eq_getElem (by omega), Option.getD_some, e] at h
  exact chk1_zero h
theorem wrong_zero {o : Int} {ms : List Ct} (h : wrong o ms = 0) : (1 ≤ o ∧ o ≤ 8) ∧ fstN (wrE o ms) ms.length = 0 := by
  unfold wrong at h
  by_cases c : o < 1 ∨ 8 < o
  · rw [if_pos c] at h; exact absurd h (by decide)
  · rw [if_neg c] at h; exact ⟨by omega, h⟩
theorem wrong_good {o : Int} {ms : List Ct} (h : wrong o ms = 0) : ∀ m ∈ ms, (m.1.length : Int) = o ∧ okKey m.1 ∧ 1 ≤ m.2 ∧ m.2 ≤ 1099511627776 := by
  have := wr_take (wrong_zero h).2
  rw [List.take_length] at this
  exact this
section
variable {S : Nat} {m : BS} {kg : SV → List Int} {L L' : List HP} {w0 : World} {I : Foot}
def errW (o : Int) (ms : List Ct) (m : BS) : Int := if wrong o ms ≠ 0 then wrong o ms else if m.size * (m.most - m.used) < (byS ms).size then 6 else 0
theorem errW_bad {o : Int} {ms : List Ct} {m : BS} (h : wrong o ms ≠ 0) : errW o ms m = wrong o ms := if_pos h
theorem errW_ok {o : Int} {ms : List Ct} {m : BS} (h : wrong o ms = 0) : errW o ms m = if m.size * (m.most - m.used) < (byS ms).size then 6 else 0 := if_neg (fun k => k h)
def WrX (o : Int) (ms : List Ct) (m : BS) (e a b : Int) (m' : BS) (ids : List Int) : Prop := (e ≠ 0 ∧ a = 0 ∧ b = 0 ∧ m' = m ∧ ids = []) ∨ (e = 0 ∧ a = o ∧ b = ms.length ∧ m' = (fillN (byS ms) m [] 0).1 ∧ ids = (fillN (byS ms) m [] 0).2)
theorem WrX.no {o : Int} {ms : List Ct} {m : BS} {e a b : Int} {m' : BS} {ids : List Int} (h : WrX o ms m e a b m' ids) (he : e ≠ 0) : a = 0 ∧ b = 0 ∧ m' = m ∧ ids = [] := h.elim (fun h => h.2) fun h => absurd h.1 he
theorem runWrite_tr {o e a b : Int} {m' : BS} {ids : List Int} {s : SV} {ps : List Pe} [h : FindK L StoreR S m L'] (ok : m.Ok) (hs : SlI I s Pe inferInstance ps) (hg : GrG I kg ps) (hl : ∀ p ∈ ps, (kg p.1).length ≤ 1000) (hn : ps.length ≤ 1000000) (he : e = errW o (ps.map (ctP kg)) m) (hx : WrX o (ps.map (ctP kg)) m e a b m' ids) :
    Tr Tryz.prog 22 #[.pointer (some ⟨S, 0, none⟩), .int .i64 o, .slice s.a s.n s.cap] (SL w0 I L) (fun r : SV => .tuple #[.agg #[.int .i64 a, .int .i64 b, .slice r.a r.n r.cap], .int .i64 e]) (fun r => SL w0 I (OwnS 3 r ids :: StoreR S m' :: L')) := by
  refine Tr.at h.out ?_
  refine Tr.intro Tryz.func22 rfl Tryz.ntmps22 rfl ?_
  by_cases h1 : 1 ≤ o ∧ o ≤ 8
  case neg =>
    have hd : decide (1 ≤ o ∧ o ≤ 8) = false := decide_eq_false h1
    have hw : wrong o (ps.map (ctP kg)) = 1 := by unfold wrong; rw [if_pos (by omega)]
    rw [errW_bad (by rw [hw]; decide), hw] at he
    subst he
    obtain ⟨rfl, rfl, rfl, rfl⟩ := hx.no (by decide)
    repeat' (first | ((rw [hd])) | ((first | refine WLA.m rfl rfl ?_ ?_ | refine WLA.st rfl ?_ ?_ | refine WLA.x rfl rfl ?_ (fun x => ?_) | refine WLA.x0 rfl ?_ (fun x => ?_)); first | exact trivial | exact rfl | assumption | omega | (refine ⟨?_, ?_⟩ <;> omega) | (simp only [Room, lenS]; omega) | decide | skip) | (refine Stp.go ?_) | (guard_target =~ WLA _ _ _ _ _ (⟨_, .call ⟨.value (.func 48), _, _⟩, _, _, _, _⟩ :: _) _ _; refine WLA.cq rfl rfl (order_tr) ?_) | (refine WPA.ifT ?_) | (refine WPA.ifF ?_) | ((first | refine WPA.dec ?_); first | refine .inl ⟨by first | assumption | omega | with_reducible rfl | (refine fun h => h ?_; first | assumption | with_reducible rfl) | (simp only [lenS] <;> omega) | decide, ?_⟩ | refine .inr ⟨by first | assumption | omega | with_reducible rfl | (refine fun h => h ?_; first | assumption | with_reducible rfl) | (simp only [lenS] <;> omega) | decide, ?_⟩) | ((first | refine WPA.ifBt ?_ ?_ | refine WPA.ifBnf ?_ ?_); assumption) | ((first | refine WPA.ifBnt ?_ ?_ | refine WPA.ifBf ?_ ?_); assumption) | ((first | refine WPA.ifs ?_ ?_ | refine WPA.ifB ?_ ?_) <;> intro hc))
    exact QQ.endc rfl SV.nil rfl fun w h => (Ent.ownNil Ent.refl).sl (h.to : SL w0 I (StoreR S m' :: L') w)
  have hd : decide (1 ≤ o ∧ o ≤ 8) = true := decide_eq_true h1
  repeat' (first | ((rw [hd])) | ((first | refine WLA.m rfl rfl ?_ ?_ | refine WLA.st rfl ?_ ?_ | refine WLA.x rfl rfl ?_ (fun x => ?_) | refine WLA.x0 rfl ?_ (fun x => ?_)); first | exact trivial | exact rfl | assumption | omega | (refine ⟨?_, ?_⟩ <;> omega) | (simp only [Room, lenS]; omega) | decide | skip) | (refine Stp.go ?_) | (guard_target =~ WLA _ _ _ _ _ (⟨_, .call ⟨.value (.func 48), _, _⟩, _, _, _, _⟩ :: _) _ _; refine WLA.cq rfl rfl (order_tr) ?_) | (refine WPA.ifT ?_) | (refine WPA.ifF ?_) | ((first | refine WPA.dec ?_); first | refine .inl ⟨by first | assumption | omega | with_reducible rfl | (refine fun h => h ?_; first | assumption | with_reducible rfl) | (simp only [lenS] <;> omega) | decide, ?_⟩ | refine .inr ⟨by first | assumption | omega | with_reducible rfl | (refine fun h => h ?_; first | assumption | with_reducible rfl) | (simp only [lenS] <;> omega) | decide, ?_⟩) | ((first | refine WPA.ifBt ?_ ?_ | refine WPA.ifBnf ?_ ?_); assumption) | ((first | refine WPA.ifBnt ?_ ?_ | refine WPA.ifBf ?_ ?_); assumption) | ((first | refine WPA.ifs ?_ ?_ | refine WPA.ifB ?_ ?_) <;> intro hc))
  revert x; intro W
  revert x; intro R
  refine WPA.ent (L' := WrtR W ⟨#[]⟩ :: Bk R 44 [.int .i64 0, .int .i64 0, .slice none 0 0] :: StoreR S m :: L') WrtR.new ?_
  refine WPA.loopS (σ := WS) (fun y => [(0, .pointer (some ⟨S, 0, none⟩)), (1, .int .i64 o), (2, .slice s.a s.n s.cap), (6, .pointer (some ⟨R, 0, none⟩)), (7, .int .i64 0), (8, .pointer (some ⟨W, 0, none⟩)), (9, .slice y.ls.a y.ls.n y.ls.cap), (25, .slice s.a s.n s.cap), (26, .int .i64 ps.length), (27, .int .i64 y.i)]) (fun y => y.i ≤ ps.length ∧ fstN (wrE o (ps.map (ctP kg))) y.i = 0 ∧ (y.i = 0 → y.ls = SV.nil) ∧ (∀ j, y.i = j + 1 → y.ls = (at_ ps (j : Int)).1)) (fun y => SL w0 I (WrtR W (byS ((ps.map (ctP kg)).take y.i)) :: Bk R 44 [.int .i64 0, .int .i64 0, .slice none 0 0] :: StoreR S m :: L')) (fun y => ps.length - y.i) ⟨0, SV.nil⟩ ⟨rfl, rfl, rfl, rfl, rfl, rfl, rfl, rfl, rfl, rfl, trivial⟩ ⟨Nat.zero_le _, rfl, fun _ => rfl, fun j h => by cases h⟩ (fun w h => (h.to : SL w0 I (WrtR W ⟨#[]⟩ :: Bk R 44 [.int .i64 0, .int .i64 0, .slice none 0 0] :: StoreR S m :: L') w)) ?_
  rintro ⟨i, ls⟩ ρ ⟨hi, hz, hl0, hl1⟩
  dsimp only at hi hz hl0 hl1 ⊢
  have hfin : ∀ {e' : Int}, i < ps.length → e' ≠ 0 → wrE o (ps.map (ctP kg)) i = e' → e = e' := fun {e'} hil h0 h => by
    have hw : wrong o (ps.map (ctP kg)) = e' := by unfold wrong; rw [if_neg (by omega), List.length_map, fstN_here hz (by rw [h]; exact h0) _ hil, h]
    rw [he, errW_bad (by rw [hw]; exact h0), hw]
  by_cases hil : i < ps.length
  · have hil' : (0 : Int) ≤ i ∧ (i : Int) < ps.length := by omega
    have hlt : (i : Int) < ps.length := by omega
    have hmi : at_ ps (i : Int) ∈ ps := by rw [at_nat ps i hil]; exact List.getElem_mem _
    have hgi := hg _ hmi
    have hli := hl _ hmi
    have hw : wrE o (ps.map (ctP kg)) i = chk1 o (prvG (ps.map (ctP kg)) i) (kg (at_ ps (i : Int)).1) (at_ ps (i : Int)).2 := by unfold wrE; rw [ct_at hil]
    have hnx : ∀ j, i + 1 = j + 1 → (at_ ps (i : Int)).1 = (at_ ps (j : Int)).1 := fun j hj => by rw [Nat.succ.inj hj]
    have hlast : ∀ {c : Code} {n : Nat} {ro : Option Nat} {P : Program} {Q : Hnd} {ρ : Env} {A : List HP}, (((ls.a = none ∧ prvG (ps.map (ctP kg)) i = none) ∨ ∃ l : List Int, ls.a ≠ none ∧ SlI I ls Int inferInstance l ∧ l.length ≤ 1000000 ∧ prvG (ps.map (ctP kg)) i = some l) → WPA ro P n c Q ρ (SL w0 I A)) → WPA ro P n c Q ρ (SL w0 I A) := by
      intro c n ro P Q ρ A k
      cases i with
      | zero => exact k (.inl ⟨by rw [hl0 rfl]; rfl, rfl⟩)
      | succ j =>
        have hj : j < ps.length := by omega
        have hmj : at_ ps (j : Int) ∈ ps := by rw [at_nat ps j hj]; exact List.getElem_mem _
        have hwj := fstN_zero hz j (by omega)
        have hlj := hl _ hmj
        have e1 := hl1 j rfl
        have hgj := hg _ hmj
        have ep : prvG (ps.map (ctP kg)) (j + 1) = some (kg (at_ ps (j : Int)).1) := by unfold prvG; rw [if_neg (by omega), Nat.add_sub_cancel, ct_at hj]
        have hol : ((kg (at_ ps (j : Int)).1).length : Int) = o := by
          unfold wrE chk1 at hwj
          rw [ct_at hj] at hwj
          by_cases c1 : ((kg (at_ ps (j : Int)).1).length : Int) = o
          · exact c1
          · rw [if_pos c1] at hwj; exact absurd hwj (by decide)
        rw [← e1] at hgj ep hlj hol
        exact WPA.aptr hgj (by omega) fun ha => k (.inr ⟨_, ha, hgj, by omega, ep⟩)
    refine hlast fun hpl => ?_
    clear hlast
    generalize prvG (ps.map (ctP kg)) i = pl at hw hpl
    have hbs := congrArg byS (ct_take (kg := kg) hil)
    rw [byS_snoc] at hbs
    generalize hee : at_ ps (i : Int) = el at hgi hli hw hnx hbs
    obtain ⟨gs, N⟩ := el
    dsimp only at hgi hli hw hnx hbs
    generalize kg gs = g at hgi hli hw hbs
    by_cases c0 : chk1 o pl g N = 0
    · have hok := (chk1_zero c0).2
      obtain ⟨n, rfl⟩ : ∃ n : Nat, N = (n : Int) := ⟨N.toNat, by omega⟩
      rw [Int.toNat_natCast] at hbs
      have hby := byS_len (o := 0) (ms := (ps.map (ctP kg)).take i) i (by rw [List.length_take, List.length_map]; omega) fun m h => by have := wr_take hz m h; omega
      generalize byS (List.take i (ps.map (ctP kg))) = t0 at hby hbs
      have hks := keyS_size g
      have hb64 : (0 : Int) ≤ n ∧ (n : Int) ≤ 18446744073709551615 := by omega
      repeat' (first | ((rw [hee])) | ((first | refine WLA.m rfl rfl ?_ ?_ | refine WLA.st rfl ?_ ?_ | refine WLA.x rfl rfl ?_ (fun x => ?_) | refine WLA.x0 rfl ?_ (fun x => ?_)); first | exact trivial | exact rfl | assumption | omega | (refine ⟨?_, ?_⟩ <;> omega) | (simp only [Room, lenS]; omega) | decide | skip) | (refine Stp.go ?_) | (guard_target =~ WLA _ _ _ _ _ (⟨_, .call ⟨.value (.func 54), _, _⟩, _, _, _, _⟩ :: _) _ _; refine WLA.call rfl rfl (rchk_tr hgi hpl (by omega) c0.symm (if_pos rfl).symm) ?_; rintro ⟨⟩) | (guard_target =~ WLA _ _ _ _ _ (⟨_, .call ⟨.value (.func 55), _, _⟩, _, _, _, _⟩ :: _) _ _; refine WLA.call rfl rfl (WRaw_tr (by omega)) ?_; rintro ⟨⟩) | (guard_target =~ WLA _ _ _ _ _ (⟨_, .call ⟨.value (.func 56), _, _⟩, _, _, _, _⟩ :: _) _ _; refine WLA.call rfl rfl (WNum_tr (by omega) (by rw [ByteArray.size_append]; omega)) ?_; rintro ⟨⟩) | (refine WPA.ifT ?_) | (refine WPA.ifF ?_) | ((first | refine WPA.dec ?_); first | refine .inl ⟨by first | assumption | omega | with_reducible rfl | (refine fun h => h ?_; first | assumption | with_reducible rfl) | (simp only [lenS] <;> omega) | decide, ?_⟩ | refine .inr ⟨by first | assumption | omega | with_reducible rfl | (refine fun h => h ?_; first | assumption | with_reducible rfl) | (simp only [lenS] <;> omega) | decide, ?_⟩) | ((first | refine WPA.ifBt ?_ ?_ | refine WPA.ifBnf ?_ ?_); assumption) | ((first | refine WPA.ifBnt ?_ ?_ | refine WPA.ifBf ?_ ?_); assumption) | ((first | refine WPA.ifs ?_ ?_ | refine WPA.ifB ?_ ?_) <;> intro hc))
      exact QQ.loopS ⟨i + 1, gs⟩ ⟨rfl, rfl, rfl, rfl, rfl, rfl, rfl, rfl, rfl, rfl, trivial⟩ ⟨hil, by rw [fstN_succ hz, hw, c0], fun h => absurd h (Nat.succ_ne_zero i), hnx⟩ (by dsimp only; omega) (fun w h => by dsimp only; rw [hbs]; exact h.to)
    · have e1 := hfin hil c0 hw
      rw [← e1] at c0
      obtain ⟨rfl, rfl, rfl, rfl⟩ := hx.no c0
      repeat' (first | ((rw [hee])) | ((first | refine WLA.m rfl rfl ?_ ?_ | refine WLA.st rfl ?_ ?_ | refine WLA.x rfl rfl ?_ (fun x => ?_) | refine WLA.x0 rfl ?_ (fun x => ?_)); first | exact trivial | exact rfl | assumption | omega | (refine ⟨?_, ?_⟩ <;> omega) | (simp only [Room, lenS]; omega) | decide | skip) | (refine Stp.go ?_) | (guard_target =~ WLA _ _ _ _ _ (⟨_, .call ⟨.value (.func 54), _, _⟩, _, _, _, _⟩ :: _) _ _; refine WLA.call rfl rfl (rchk_tr hgi hpl (by omega) e1 (if_neg c0).symm) ?_; rintro ⟨⟩) | (refine WPA.ifT ?_) | (refine WPA.ifF ?_) | ((first | refine WPA.dec ?_); first | refine .inl ⟨by first | assumption | omega | with_reducible rfl | (refine fun h => h ?_; first | assumption | with_reducible rfl) | (simp only [lenS] <;> omega) | decide, ?_⟩ | refine .inr ⟨by first | assumption | omega | with_reducible rfl | (refine fun h => h ?_; first | assumption | with_reducible rfl) | (simp only [lenS] <;> omega) | decide, ?_⟩) | ((first | refine WPA.ifBt ?_ ?_ | refine WPA.ifBnf ?_ ?_); assumption) | ((first | refine WPA.ifBnt ?_ ?_ | refine WPA.ifBf ?_ ?_); assumption) | ((first | refine WPA.ifs ?_ ?_ | refine WPA.ifB ?_ ?_) <;> intro hc))
      exact QQ.endc rfl SV.nil rfl fun w h => (Ent.ownNil Ent.refl).sl (h.to : SL w0 I (StoreR S m' :: L') w)
  · have hlt : ¬ (i : Int) < ps.length := by omega
    have hie : i = ps.length := by omega
    subst hie
    clear hfin hl0 hl1
    rw [List.take_of_length_le (by rw [List.length_map]; exact Nat.le_refl _)]
    have hw0 : wrong o (ps.map (ctP kg)) = 0 := by unfold wrong; rw [if_neg (by omega), List.length_map]; exact hz
    rw [errW_ok hw0] at he
    have hgood := wrong_good hw0
    have hby := byS_len (o := 0) (ms := ps.map (ctP kg)) ps.length (by rw [List.length_map]) fun m h => by
      obtain ⟨p, hp, rfl⟩ := List.mem_map.1 h
      have h1 := hl p hp
      have h2 := hgood _ h
      refine ⟨?_, h2.2.2.2⟩
      show ((kg p.1).length : Int) ≤ 1000
      omega
    unfold WrX at hx
    rw [List.length_map] at hx
    generalize byS (ps.map (ctP kg)) = t at he hx hby
    by_cases hr : m.size * (m.most - m.used) < t.size
    · rw [if_pos hr] at he
      subst he
      obtain ⟨rfl, rfl, rfl, rfl⟩ := (hx.elim (fun h => h.2) fun h => absurd h.1 (by decide))
      repeat' (first | ((first | refine WLA.m rfl rfl ?_ ?_ | refine WLA.st rfl ?_ ?_ | refine WLA.x rfl rfl ?_ (fun x => ?_) | refine WLA.x0 rfl ?_ (fun x => ?_)); first | exact trivial | exact rfl | assumption | omega | (refine ⟨?_, ?_⟩ <;> omega) | (simp only [Room, lenS]; omega) | decide | skip) | (refine Stp.go ?_) | (guard_target =~ WLA _ _ _ _ _ (⟨_, .call ⟨.value (.func 58), _, _⟩, _, _, _, _⟩ :: _) _ _; refine WLA.call rfl rfl (WBytes_tr) ?_; rintro ⟨⟩) | (guard_target =~ WLA _ _ _ _ _ (⟨_, .call ⟨.value (.func 57), _, _⟩, _, _, _, _⟩ :: _) _ _; refine WLA.call rfl rfl (fill_no ok (by omega) hr) ?_; rintro ⟨⟩) | (refine WPA.ifT ?_) | (refine WPA.ifF ?_) | ((first | refine WPA.dec ?_); first | refine .inl ⟨by first | assumption | omega | with_reducible rfl | (refine fun h => h ?_; first | assumption | with_reducible rfl) | (simp only [lenS] <;> omega) | decide, ?_⟩ | refine .inr ⟨by first | assumption | omega | with_reducible rfl | (refine fun h => h ?_; first | assumption | with_reducible rfl) | (simp only [lenS] <;> omega) | decide, ?_⟩) | ((first | refine WPA.ifBt ?_ ?_ | refine WPA.ifBnf ?_ ?_); assumption) | ((first | refine WPA.ifBnt ?_ ?_ | refine WPA.ifBf ?_ ?_); assumption) | ((first | refine WPA.ifs ?_ ?_ | refine WPA.ifB ?_ ?_) <;> intro hc))
      exact QQ.endc rfl SV.nil rfl fun w h => (Ent.ownNil Ent.refl).sl (h.to : SL w0 I (StoreR S m' :: L') w)
    · rw [if_neg hr] at he
      subst he
      obtain ⟨rfl, rfl, rfl, rfl⟩ := hx.elim (fun h => absurd rfl h.1) fun h => h.2
      repeat' (first | ((first | refine WLA.m rfl rfl ?_ ?_ | refine WLA.st rfl ?_ ?_ | refine WLA.x rfl rfl ?_ (fun x => ?_) | refine WLA.x0 rfl ?_ (fun x => ?_)); first | exact trivial | exact rfl | assumption | omega | (refine ⟨?_, ?_⟩ <;> omega) | (simp only [Room, lenS]; omega) | decide | skip) | (refine Stp.go ?_) | (guard_target =~ WLA _ _ _ _ _ (⟨_, .call ⟨.value (.func 58), _, _⟩, _, _, _, _⟩ :: _) _ _; refine WLA.call rfl rfl (WBytes_tr) ?_; rintro ⟨⟩) | (guard_target =~ WLA _ _ _ _ _ (⟨_, .call ⟨.value (.func 57), _, _⟩, _, _, _, _⟩ :: _) _ _; refine WLA.call rfl rfl (fill_tr ok (by omega) hr) ?_; rintro ids) | (refine WPA.ifT ?_) | (refine WPA.ifF ?_) | ((first | refine WPA.dec ?_); first | refine .inl ⟨by first | assumption | omega | with_reducible rfl | (refine fun h => h ?_; first | assumption | with_reducible rfl) | (simp only [lenS] <;> omega) | decide, ?_⟩ | refine .inr ⟨by first | assumption | omega | with_reducible rfl | (refine fun h => h ?_; first | assumption | with_reducible rfl) | (simp only [lenS] <;> omega) | decide, ?_⟩) | ((first | refine WPA.ifBt ?_ ?_ | refine WPA.ifBnf ?_ ?_); assumption) | ((first | refine WPA.ifBnt ?_ ?_ | refine WPA.ifBf ?_ ?_); assumption) | ((first | refine WPA.ifs ?_ ?_ | refine WPA.ifB ?_ ?_) <;> intro hc))
      exact QQ.endc rfl ids rfl fun w h => h.to
end
end Go.Proofs.YtamnobjdgjbmbaaGreat
namespace Go.Proofs.YtamnobjdgjbmbaaGreat
open Go Go.Fw Go.RowKit
set_option linter.unusedVariables false
set_option linter.unusedSimpArgs false
set_option maxRecDepth 100000
set_option maxHeartbeats 16000000
set_option synthInstance.maxHeartbeats 200000
set_option synthInstance.maxSize 100000
attribute [local irreducible] WPA WLA WDA WDQ WDE QQ seqQ blockQ loopQ fnQ OpP OpT Tr TrP SL SLd OwnS LitS Bk BkE Ob
def bN (s : ByteArray) (i : Nat) : Nat := (bt s (i : Int)).toNat
theorem bN_bt (s : ByteArray) (i : Nat) : bt s (i : Int) = (bN s i : Int) := by have := bt_range s i; unfold bN; omega
theorem bN_lt (s : ByteArray) (i : Nat) : bN s i < 256 := by have := bt_range s i; unfold bN; omega
def ledN (s : ByteArray) : Nat → Nat → Nat
  | 0, n => n
  | f + 1, n => if n < s.size ∧ 128 ≤ bN s n then ledN s f (n + 1) else n
def lead (s : ByteArray) : Nat := ledN s 10 0
theorem led_go {s : ByteArray} {n : Nat} (h : n < 10) (h1 : n < s.size) (h2 : 128 ≤ bN s n) : ledN s (10 - (n + 1)) (n + 1) = ledN s (10 - n) n := by
  rw [show 10 - n = (10 - (n + 1)) + 1 by omega, ledN, if_pos ⟨h1, h2⟩]
theorem led_stop {s : ByteArray} {n : Nat} (h : n < 10) (h1 : ¬ (n < s.size ∧ 128 ≤ bN s n)) : ledN s (10 - n) n = n := by
  rw [show 10 - n = (10 - (n + 1)) + 1 by omega, ledN, if_neg h1]
def valR (s : ByteArray) : Nat → Nat → Nat
  | _, 0 => 0
  | j, m + 1 => bN s j % 128 + 128 * valR s (j + 1) m
theorem valR_snoc {s : ByteArray} : ∀ (m j : Nat), valR s j (m + 1) = valR s j m + bN s (j + m) % 128 * 128 ^ m
  | 0, j => by simp [valR]
  | m + 1, j => by
    rw [valR, valR_snoc m (j + 1), valR, Nat.pow_succ, show j + 1 + m = j + (m + 1) by omega, Nat.mul_add]
    have : 128 * (bN s (j + (m + 1)) % 128 * 128 ^ m) = bN s (j + (m + 1)) % 128 * (128 ^ m * 128) := by rw [Nat.mul_comm 128, Nat.mul_assoc]
    omega
theorem valR_lt {s : ByteArray} : ∀ (m j : Nat), valR s j m < 128 ^ m
  | 0, j => by simp [valR]
  | m + 1, j => by
    have := valR_lt (s := s) m (j + 1)
    rw [valR, Nat.pow_succ]; omega
theorem valR_top {s : ByteArray} (m j : Nat) : valR s j (m + 1) < (bN s (j + m) % 128 + 1) * 128 ^ m := by
  have := valR_lt (s := s) m j
  rw [valR_snoc, Nat.add_mul, Nat.one_mul]; omega
theorem p128 : (128 : Nat) ^ 9 = 9223372036854775808 := by decide
theorem p128le {n : Nat} (h : n ≤ 9) : (128 : Nat) ^ n ≤ 9223372036854775808 := by rw [← p128]; exact Nat.pow_le_pow_right (by omega) h
theorem valR_max {s : ByteArray} {n : Nat} (h : n ≤ 9) (hb : n = 9 → bN s n ≤ 1) : valR s 0 (n + 1) ≤ 18446744073709551615 := by
  by_cases e : n = 9
  · subst e
    have h1 := valR_top (s := s) 9 0
    have h2 := hb rfl
    rw [Nat.zero_add, p128] at h1
    have : (bN s 9 % 128 + 1) * 9223372036854775808 ≤ 2 * 9223372036854775808 := Nat.mul_le_mul (by omega) (by omega)
    omega
  · have h1 := valR_lt (s := s) (n + 1) 0
    have h2 := p128le (n := n + 1) (by omega)
    omega
def numR (s : ByteArray) : Nat × Nat × Int :=
  if lead s = 10 then (0, 0, 3) else if lead s = s.size then (0, 0, 2) else if (lead s = 9 ∧ 1 < bN s (lead s)) ∨ (0 < lead s ∧ bN s (lead s) = 0) then (0, 0, 3) else (valR s 0 (lead s + 1), lead s + 1, 0)
theorem num_full {s : ByteArray} (h : lead s = 10) : numR s = (0, 0, 3) := if_pos h
theorem num_short {s : ByteArray} (h : lead s ≠ 10) (h1 : lead s = s.size) : numR s = (0, 0, 2) := by rw [numR, if_neg h, if_pos h1]
theorem num_bad {s : ByteArray} (h : lead s ≠ 10) (h1 : lead s ≠ s.size) (h2 : (lead s = 9 ∧ 1 < bN s (lead s)) ∨ (0 < lead s ∧ bN s (lead s) = 0)) : numR s = (0, 0, 3) := by rw [numR, if_neg h, if_neg h1, if_pos h2]
theorem num_ok {s : ByteArray} (h : lead s ≠ 10) (h1 : lead s ≠ s.size) (h2 : ¬ ((lead s = 9 ∧ 1 < bN s (lead s)) ∨ (0 < lead s ∧ bN s (lead s) = 0))) : numR s = (valR s 0 (lead s + 1), lead s + 1, 0) := by rw [numR, if_neg h, if_neg h1, if_neg h2]
theorem two7 (n : Nat) : (2 : Nat) ^ (7 * n) = 128 ^ n := by rw [Nat.pow_mul]
theorem or_step {s : ByteArray} {n : Nat} (h : n ≤ 9) (hb : n = 9 → bN s n ≤ 1) (k : Int) (hk : k = 7 * (n : Int)) :
    Go.bits .or .u64 (valR s 0 n : Int) (IntKind.u64.wrap (((bN s n % 128 : Nat) : Int) * 2 ^ k.toNat)) = (valR s 0 (n + 1) : Int) := by
  have e : k.toNat = 7 * n := by omega
  have e2 : (((bN s n % 128 : Nat) : Int) * 2 ^ k.toNat) = ((bN s n % 128 * 128 ^ n : Nat) : Int) := by
    rw [e]; push_cast; rw [show (2 : Int) ^ (7 * n) = ((2 ^ (7 * n) : Nat) : Int) by push_cast; rfl, two7]; push_cast; rfl
  have hmax := valR_max h hb
  rw [valR_snoc, Nat.zero_add] at hmax
  have hlt := valR_lt (s := s) n 0
  rw [e2, wrap_u64 (by omega), or_u64 (7 * n) ⟨by omega, ?_⟩ (by omega) ?_ (by omega), valR_snoc, Nat.zero_add]
  · push_cast; rfl
  · have : (2 : Int) ^ (7 * n) = ((128 ^ n : Nat) : Int) := by rw [← two7]; push_cast; rfl
    rw [this]; omega
  · have : (2 : Int) ^ (7 * n) = ((128 ^ n : Nat) : Int) := by rw [← two7]; push_cast; rfl
    rw [this]
    have : (bN s n % 128 * 128 ^ n) % 128 ^ n = 0 := Nat.mul_mod_left _ _
    omega
attribute [local instance] shlU
section
variable {L : List HP} {w0 : World} {I : Foot}
theorem number_tr {s : ByteArray} : Tr Tryz.prog 105 #[.string s] (SL w0 I L) (fun _ : Unit => .tuple #[.int .u64 ((numR s).1 : Nat), .int .i64 ((numR s).2.1 : Nat), .int .i64 (numR s).2.2]) (fun _ => SL w0 I L) := by
  refine Tr.intro Tryz.func105 rfl Tryz.ntmps105 rfl ?_
  repeat' (first | ((first | refine WLA.m rfl rfl ?_ ?_ | refine WLA.st rfl ?_ ?_ | refine WLA.x rfl rfl ?_ (fun x => ?_) | refine WLA.x0 rfl ?_ (fun x => ?_)); first | exact trivial | exact rfl | assumption | omega | (refine ⟨?_, ?_⟩ <;> omega) | (simp only [Room, lenS]; omega) | decide | skip) | (refine Stp.go ?_) | (refine WPA.ifT ?_) | (refine WPA.ifF ?_) | ((first | refine WPA.dec ?_); first | refine .inl ⟨by first | assumption | omega | with_reducible rfl | (refine fun h => h ?_; first | assumption | with_reducible rfl) | (simp only [lenS] <;> omega) | decide, ?_⟩ | refine .inr ⟨by first | assumption | omega | with_reducible rfl | (refine fun h => h ?_; first | assumption | with_reducible rfl) | (simp only [lenS] <;> omega) | decide, ?_⟩) | ((first | refine WPA.ifBt ?_ ?_ | refine WPA.ifBnf ?_ ?_); assumption) | ((first | refine WPA.ifBnt ?_ ?_ | refine WPA.ifBf ?_ ?_); assumption) | ((first | refine WPA.ifs ?_ ?_ | refine WPA.ifB ?_ ?_) <;> intro hc))
  refine WPA.loopS (σ := Nat × Int) (fun y => [(0, .string s), (5, .int .u64 y.2), (6, .int .i64 y.1)]) (fun y => (y.1 ≤ 10 ∧ y.1 ≤ s.size) ∧ ledN s (10 - y.1) y.1 = lead s ∧ (y.1 ≤ 9 → y.2 = valR s 0 y.1)) (fun y => SL w0 I L) (fun y => 10 - y.1) (0, 0) ⟨rfl, rfl, rfl, trivial⟩ ⟨⟨Nat.zero_le _, Nat.zero_le _⟩, rfl, fun _ => rfl⟩ (fun w h => h.to) ?_
  rintro ⟨n, v⟩ ρ ⟨⟨hn, hnl⟩, hl, hv⟩
  dsimp only at hn hnl hl hv ⊢
  by_cases h10 : n < 10
  · have h10' : (n : Int) < 10 := by omega
    have hv' := hv (by omega)
    subst hv'
    have hbb := bN_bt s n
    have hbl := bN_lt s n
    by_cases hns : n = s.size
    · have hns' : (n : Int) = s.size := by omega
      rw [led_stop h10 (by omega)] at hl
      rw [num_short (by omega) (by omega)]
      repeat' (first | ((first | refine WLA.m rfl rfl ?_ ?_ | refine WLA.st rfl ?_ ?_ | refine WLA.x rfl rfl ?_ (fun x => ?_) | refine WLA.x0 rfl ?_ (fun x => ?_)); first | exact trivial | exact rfl | assumption | omega | (refine ⟨?_, ?_⟩ <;> omega) | (simp only [Room, lenS]; omega) | decide | skip) | (refine Stp.go ?_) | (refine WPA.ifT ?_) | (refine WPA.ifF ?_) | ((first | refine WPA.dec ?_); first | refine .inl ⟨by first | assumption | omega | with_reducible rfl | (refine fun h => h ?_; first | assumption | with_reducible rfl) | (simp only [lenS] <;> omega) | decide, ?_⟩ | refine .inr ⟨by first | assumption | omega | with_reducible rfl | (refine fun h => h ?_; first | assumption | with_reducible rfl) | (simp only [lenS] <;> omega) | decide, ?_⟩) | ((first | refine WPA.ifBt ?_ ?_ | refine WPA.ifBnf ?_ ?_); assumption) | ((first | refine WPA.ifBnt ?_ ?_ | refine WPA.ifBf ?_ ?_); assumption) | ((first | refine WPA.ifs ?_ ?_ | refine WPA.ifB ?_ ?_) <;> intro hc))
      exact QQ.end_ rfl () rfl fun w h => h
    have hns' : ¬ (n : Int) = s.size := by omega
    have hlt : n < s.size := by omega
    have hlt' : (0 : Int) ≤ n ∧ (n : Int) < s.size := by omega
    have hand := and_u8 (bN s n) hbl
    have h7 : (0 : Int) ≤ 7 * (n : Int) ∧ 7 * (n : Int) ≤ 64 := by omega
    by_cases hb : 128 ≤ bN s n
    · have hb' : (128 : Int) ≤ (bN s n : Int) := by omega
      have hl2 := led_go h10 hlt hb
      have hor : n + 1 ≤ 9 → _ := fun h9 => or_step (s := s) (n := n) (by omega) (by omega) (7 * (n : Int)) rfl
      generalize bN s n = b at *
      repeat' (first | ((rw [hbb])) | ((rw [hand])) | ((first | refine WLA.m rfl rfl ?_ ?_ | refine WLA.st rfl ?_ ?_ | refine WLA.x rfl rfl ?_ (fun x => ?_) | refine WLA.x0 rfl ?_ (fun x => ?_)); first | exact trivial | exact rfl | assumption | omega | (refine ⟨?_, ?_⟩ <;> omega) | (simp only [Room, lenS]; omega) | decide | skip) | (refine Stp.go ?_) | (refine WPA.ifT ?_) | (refine WPA.ifF ?_) | ((first | refine WPA.dec ?_); first | refine .inl ⟨by first | assumption | omega | with_reducible rfl | (refine fun h => h ?_; first | assumption | with_reducible rfl) | (simp only [lenS] <;> omega) | decide, ?_⟩ | refine .inr ⟨by first | assumption | omega | with_reducible rfl | (refine fun h => h ?_; first | assumption | with_reducible rfl) | (simp only [lenS] <;> omega) | decide, ?_⟩) | ((first | refine WPA.ifBt ?_ ?_ | refine WPA.ifBnf ?_ ?_); assumption) | ((first | refine WPA.ifBnt ?_ ?_ | refine WPA.ifBf ?_ ?_); assumption) | ((first | refine WPA.ifs ?_ ?_ | refine WPA.ifB ?_ ?_) <;> intro hc))
      exact QQ.loopS (n + 1, _) ⟨rfl, rfl, rfl, trivial⟩ ⟨⟨h10, hlt⟩, hl2.trans hl, hor⟩ (by dsimp only; omega) (fun w h => h)
    rw [led_stop h10 (by omega)] at hl
    have hb' : ¬ (128 : Int) ≤ (bN s n : Int) := by omega
    by_cases hbad : (n = 9 ∧ 1 < bN s n) ∨ (0 < n ∧ bN s n = 0)
    · rw [num_bad (by omega) (by omega) (by rw [← hl]; exact hbad)]
      clear hl
      generalize bN s n = b at *
      by_cases h9 : n = 9
      · subst h9
        by_cases hb1 : 1 < b
        · have hb1' : (1 : Int) < b := by omega
          repeat' (first | ((rw [hbb])) | ((rw [hand])) | ((first | refine WLA.m rfl rfl ?_ ?_ | refine WLA.st rfl ?_ ?_ | refine WLA.x rfl rfl ?_ (fun x => ?_) | refine WLA.x0 rfl ?_ (fun x => ?_)); first | exact trivial | exact rfl | assumption | omega | (refine ⟨?_, ?_⟩ <;> omega) | (simp only [Room, lenS]; omega) | decide | skip) | (refine Stp.go ?_) | (refine WPA.ifT ?_) | (refine WPA.ifF ?_) | (refine WLA.no rfl rfl ?_) | ((first | refine WPA.dec ?_ | ((fail_if_success (guard_target =~ WLA _ _ _ _ _ _ (put1 _ _ (.bool true)) _)); (fail_if_success (guard_target =~ WLA _ _ _ _ _ _ (put1 _ _ (.bool false)) _)); refine WLA.dec rfl rfl ?_) | refine WLA.pk ?_); first | refine .inl ⟨by first | assumption | omega | with_reducible rfl | (refine fun h => h ?_; first | assumption | with_reducible rfl) | (simp only [lenS] <;> omega) | decide, ?_⟩ | refine .inr ⟨by first | assumption | omega | with_reducible rfl | (refine fun h => h ?_; first | assumption | with_reducible rfl) | (simp only [lenS] <;> omega) | decide, ?_⟩) | ((first | refine WPA.ifBt ?_ ?_ | refine WPA.ifBnf ?_ ?_); assumption) | ((first | refine WPA.ifBnt ?_ ?_ | refine WPA.ifBf ?_ ?_); assumption) | ((first | refine WPA.ifs ?_ ?_ | refine WPA.ifB ?_ ?_) <;> intro hc) | ((fail_if_success (guard_target =~ WLA _ _ _ _ _ _ (put1 _ _ (.bool true)) _)); (fail_if_success (guard_target =~ WLA _ _ _ _ _ _ (put1 _ _ (.bool false)) _)); (first | refine WLA.both rfl rfl ?_ ?_ | refine WLA.bothB rfl rfl ?_ ?_) <;> intro hg))
          exact QQ.end_ rfl () rfl fun w h => h
        · have hb1' : ¬ (1 : Int) < b := by omega
          have hb0 : b = 0 := by omega
          subst hb0
          repeat' (first | ((rw [hbb])) | ((rw [hand])) | ((first | refine WLA.m rfl rfl ?_ ?_ | refine WLA.st rfl ?_ ?_ | refine WLA.x rfl rfl ?_ (fun x => ?_) | refine WLA.x0 rfl ?_ (fun x => ?_)); first | exact trivial | exact rfl | assumption | omega | (refine ⟨?_, ?_⟩ <;> omega) | (simp only [Room, lenS]; omega) | decide | skip) | (refine Stp.go ?_) | (refine WPA.ifT ?_) | (refine WPA.ifF ?_) | (refine WLA.no rfl rfl ?_) | ((first | refine WPA.dec ?_ | ((fail_if_success (guard_target =~ WLA _ _ _ _ _ _ (put1 _ _ (.bool true)) _)); (fail_if_success (guard_target =~ WLA _ _ _ _ _ _ (put1 _ _ (.bool false)) _)); refine WLA.dec rfl rfl ?_) | refine WLA.pk ?_); first | refine .inl ⟨by first | assumption | omega | with_reducible rfl | (refine fun h => h ?_; first | assumption | with_reducible rfl) | (simp only [lenS] <;> omega) | decide, ?_⟩ | refine .inr ⟨by first | assumption | omega | with_reducible rfl | (refine fun h => h ?_; first | assumption | with_reducible rfl) | (simp only [lenS] <;> omega) | decide, ?_⟩) | ((first | refine WPA.ifBt ?_ ?_ | refine WPA.ifBnf ?_ ?_); assumption) | ((first | refine WPA.ifBnt ?_ ?_ | refine WPA.ifBf ?_ ?_); assumption) | ((first | refine WPA.ifs ?_ ?_ | refine WPA.ifB ?_ ?_) <;> intro hc) | ((fail_if_success (guard_target =~ WLA _ _ _ _ _ _ (put1 _ _ (.bool true)) _)); (fail_if_success (guard_target =~ WLA _ _ _ _ _ _ (put1 _ _ (.bool false)) _)); (first | refine WLA.both rfl rfl ?_ ?_ | refine WLA.bothB rfl rfl ?_ ?_) <;> intro hg))
          exact QQ.end_ rfl () rfl fun w h => h
      · have h9' : ¬ (n : Int) = 9 := by omega
        have hn0 : (0 : Int) < n := by omega
        have hb0 : b = 0 := by omega
        subst hb0
        repeat' (first | ((rw [hbb])) | ((rw [hand])) | ((first | refine WLA.m rfl rfl ?_ ?_ | refine WLA.st rfl ?_ ?_ | refine WLA.x rfl rfl ?_ (fun x => ?_) | refine WLA.x0 rfl ?_ (fun x => ?_)); first | exact trivial | exact rfl | assumption | omega | (refine ⟨?_, ?_⟩ <;> omega) | (simp only [Room, lenS]; omega) | decide | skip) | (refine Stp.go ?_) | (refine WPA.ifT ?_) | (refine WPA.ifF ?_) | (refine WLA.no rfl rfl ?_) | ((first | refine WPA.dec ?_ | ((fail_if_success (guard_target =~ WLA _ _ _ _ _ _ (put1 _ _ (.bool true)) _)); (fail_if_success (guard_target =~ WLA _ _ _ _ _ _ (put1 _ _ (.bool false)) _)); refine WLA.dec rfl rfl ?_) | refine WLA.pk ?_); first | refine .inl ⟨by first | assumption | omega | with_reducible rfl | (refine fun h => h ?_; first | assumption | with_reducible rfl) | (simp only [lenS] <;> omega) | decide, ?_⟩ | refine .inr ⟨by first | assumption | omega | with_reducible rfl | (refine fun h => h ?_; first | assumption | with_reducible rfl) | (simp only [lenS] <;> omega) | decide, ?_⟩) | ((first | refine WPA.ifBt ?_ ?_ | refine WPA.ifBnf ?_ ?_); assumption) | ((first | refine WPA.ifBnt ?_ ?_ | refine WPA.ifBf ?_ ?_); assumption) | ((first | refine WPA.ifs ?_ ?_ | refine WPA.ifB ?_ ?_) <;> intro hc) | ((fail_if_success (guard_target =~ WLA _ _ _ _ _ _ (put1 _ _ (.bool true)) _)); (fail_if_success (guard_target =~ WLA _ _ _ _ _ _ (put1 _ _ (.bool false)) _)); (first | refine WLA.both rfl rfl ?_ ?_ | refine WLA.bothB rfl rfl ?_ ?_) <;> intro hg))
        exact QQ.end_ rfl () rfl fun w h => h
    · rw [num_ok (by omega) (by omega) (by rw [← hl]; exact hbad), ← hl]
      have hor := or_step (s := s) (n := n) (by omega) (by omega) (7 * (n : Int)) rfl
      clear hl
      generalize bN s n = b at *
      by_cases h9 : n = 9
      · subst h9
        have hb1' : ¬ (1 : Int) < b := by omega
        have hb0 : ¬ (b : Int) = 0 := by omega
        repeat' (first | ((rw [hbb])) | ((rw [hand])) | ((rw [hor])) | ((first | refine WLA.m rfl rfl ?_ ?_ | refine WLA.st rfl ?_ ?_ | refine WLA.x rfl rfl ?_ (fun x => ?_) | refine WLA.x0 rfl ?_ (fun x => ?_)); first | exact trivial | exact rfl | assumption | omega | (refine ⟨?_, ?_⟩ <;> omega) | (simp only [Room, lenS]; omega) | decide | skip) | (refine Stp.go ?_) | (refine WPA.ifT ?_) | (refine WPA.ifF ?_) | (refine WLA.no rfl rfl ?_) | ((first | refine WPA.dec ?_ | ((fail_if_success (guard_target =~ WLA _ _ _ _ _ _ (put1 _ _ (.bool true)) _)); (fail_if_success (guard_target =~ WLA _ _ _ _ _ _ (put1 _ _ (.bool false)) _)); refine WLA.dec rfl rfl ?_) | refine WLA.pk ?_); first | refine .inl ⟨by first | assumption | omega | with_reducible rfl | (refine fun h => h ?_; first | assumption | with_reducible rfl) | (simp only [lenS] <;> omega) | decide, ?_⟩ | refine .inr ⟨by first | assumption | omega | with_reducible rfl | (refine fun h => h ?_; first | assumption | with_reducible rfl) | (simp only [lenS] <;> omega) | decide, ?_⟩) | ((first | refine WPA.ifBt ?_ ?_ | refine WPA.ifBnf ?_ ?_); assumption) | ((first | refine WPA.ifBnt ?_ ?_ | refine WPA.ifBf ?_ ?_); assumption) | ((first | refine WPA.ifs ?_ ?_ | refine WPA.ifB ?_ ?_) <;> intro hc) | ((fail_if_success (guard_target =~ WLA _ _ _ _ _ _ (put1 _ _ (.bool true)) _)); (fail_if_success (guard_target =~ WLA _ _ _ _ _ _ (put1 _ _ (.bool false)) _)); (first | refine WLA.both rfl rfl ?_ ?_ | refine WLA.bothB rfl rfl ?_ ?_) <;> intro hg))
        exact QQ.end_ rfl () rfl fun w h => h
      · have h9' : ¬ (n : Int) = 9 := by omega
        by_cases h0 : 0 < n
        · have hn0 : (0 : Int) < n := by omega
          have hb0 : ¬ (b : Int) = 0 := by omega
          repeat' (first | ((rw [hbb])) | ((rw [hand])) | ((rw [hor])) | ((first | refine WLA.m rfl rfl ?_ ?_ | refine WLA.st rfl ?_ ?_ | refine WLA.x rfl rfl ?_ (fun x => ?_) | refine WLA.x0 rfl ?_ (fun x => ?_)); first | exact trivial | exact rfl | assumption | omega | (refine ⟨?_, ?_⟩ <;> omega) | (simp only [Room, lenS]; omega) | decide | skip) | (refine Stp.go ?_) | (refine WPA.ifT ?_) | (refine WPA.ifF ?_) | (refine WLA.no rfl rfl ?_) | ((first | refine WPA.dec ?_ | ((fail_if_success (guard_target =~ WLA _ _ _ _ _ _ (put1 _ _ (.bool true)) _)); (fail_if_success (guard_target =~ WLA _ _ _ _ _ _ (put1 _ _ (.bool false)) _)); refine WLA.dec rfl rfl ?_) | refine WLA.pk ?_); first | refine .inl ⟨by first | assumption | omega | with_reducible rfl | (refine fun h => h ?_; first | assumption | with_reducible rfl) | (simp only [lenS] <;> omega) | decide, ?_⟩ | refine .inr ⟨by first | assumption | omega | with_reducible rfl | (refine fun h => h ?_; first | assumption | with_reducible rfl) | (simp only [lenS] <;> omega) | decide, ?_⟩) | ((first | refine WPA.ifBt ?_ ?_ | refine WPA.ifBnf ?_ ?_); assumption) | ((first | refine WPA.ifBnt ?_ ?_ | refine WPA.ifBf ?_ ?_); assumption) | ((first | refine WPA.ifs ?_ ?_ | refine WPA.ifB ?_ ?_) <;> intro hc) | ((fail_if_success (guard_target =~ WLA _ _ _ _ _ _ (put1 _ _ (.bool true)) _)); (fail_if_success (guard_target =~ WLA _ _ _ _ _ _ (put1 _ _ (.bool false)) _)); (first | refine WLA.both rfl rfl ?_ ?_ | refine WLA.bothB rfl rfl ?_ ?_) <;> intro hg))
          exact QQ.end_ rfl () rfl fun w h => h
        · have hn0 : ¬ (0 : Int) < n := by omega
          repeat' (first | ((rw [hbb])) | ((rw [hand])) | ((rw [hor])) | ((first | refine WLA.m rfl rfl ?_ ?_ | refine WLA.st rfl ?_ ?_ | refine WLA.x rfl rfl ?_ (fun x => ?_) | refine WLA.x0 rfl ?_ (fun x => ?_)); first | exact trivial | exact rfl | assumption | omega | (refine ⟨?_, ?_⟩ <;> omega) | (simp only [Room, lenS]; omega) | decide | skip) | (refine Stp.go ?_) | (refine WPA.ifT ?_) | (refine WPA.ifF ?_) | (refine WLA.no rfl rfl ?_) | ((first | refine WPA.dec ?_ | ((fail_if_success (guard_target =~ WLA _ _ _ _ _ _ (put1 _ _ (.bool true)) _)); (fail_if_success (guard_target =~ WLA _ _ _ _ _ _ (put1 _ _ (.bool false)) _)); refine WLA.dec rfl rfl ?_) | refine WLA.pk ?_); first | refine .inl ⟨by first | assumption | omega | with_reducible rfl | (refine fun h => h ?_; first | assumption | with_reducible rfl) | (simp only [lenS] <;> omega) | decide, ?_⟩ | refine .inr ⟨by first | assumption | omega | with_reducible rfl | (refine fun h => h ?_; first | assumption | with_reducible rfl) | (simp only [lenS] <;> omega) | decide, ?_⟩) | ((first | refine WPA.ifBt ?_ ?_ | refine WPA.ifBnf ?_ ?_); assumption) | ((first | refine WPA.ifBnt ?_ ?_ | refine WPA.ifBf ?_ ?_); assumption) | ((first | refine WPA.ifs ?_ ?_ | refine WPA.ifB ?_ ?_) <;> intro hc) | ((fail_if_success (guard_target =~ WLA _ _ _ _ _ _ (put1 _ _ (.bool true)) _)); (fail_if_success (guard_target =~ WLA _ _ _ _ _ _ (put1 _ _ (.bool false)) _)); (first | refine WLA.both rfl rfl ?_ ?_ | refine WLA.bothB rfl rfl ?_ ?_) <;> intro hg))
          exact QQ.end_ rfl () rfl fun w h => h
  · have h10' : ¬ (n : Int) < 10 := by omega
    have e10 : n = 10 := by omega
    subst e10
    rw [num_full hl.symm]
    repeat' (first | ((first | refine WLA.m rfl rfl ?_ ?_ | refine WLA.st rfl ?_ ?_ | refine WLA.x rfl rfl ?_ (fun x => ?_) | refine WLA.x0 rfl ?_ (fun x => ?_)); first | exact trivial | exact rfl | assumption | omega | (refine ⟨?_, ?_⟩ <;> omega) | (simp only [Room, lenS]; omega) | decide | skip) | (refine Stp.go ?_) | (refine WPA.ifT ?_) | (refine WPA.ifF ?_) | ((first | refine WPA.dec ?_); first | refine .inl ⟨by first | assumption | omega | with_reducible rfl | (refine fun h => h ?_; first | assumption | with_reducible rfl) | (simp only [lenS] <;> omega) | decide, ?_⟩ | refine .inr ⟨by first | assumption | omega | with_reducible rfl | (refine fun h => h ?_; first | assumption | with_reducible rfl) | (simp only [lenS] <;> omega) | decide, ?_⟩) | ((first | refine WPA.ifBt ?_ ?_ | refine WPA.ifBnf ?_ ?_); assumption) | ((first | refine WPA.ifBnt ?_ ?_ | refine WPA.ifBf ?_ ?_); assumption) | ((first | refine WPA.ifs ?_ ?_ | refine WPA.ifB ?_ ?_) <;> intro hc))
    exact QQ.end_ rfl () rfl fun w h => h
end
end Go.Proofs.YtamnobjdgjbmbaaGreat
namespace Go.Fw
open Go Go.RowKit
set_option linter.unusedVariables false
set_option linter.unusedSimpArgs false
section
variable {ro : Option Nat} {P : Program} {N n i : Nat} {ops : Array Oper} {Q : Hnd} {T : World → Prop} {ρ : Env} {A : World → Prop} {r : Plan} {ty : TypeId} {pos : String} {af : Array Edge} {g : Option (Nat × Bool)} {d : Tmp}
theorem WDW.callV {c : Operand} {caps : List Value} {f : FuncId} {args : List Operand} {argTypes : Array TypeId} {vs : List Value} {w0 : World} {I : Foot} {L : List HP} {τ : Type} {val : τ → Value} {B : τ → World → Prop} [hv : EvAll ρ args vs] [hcv : Ev ρ c (.func (.func f) #[] caps.toArray)] [hf : Callb P f] [hA : InSL A w0 I L] (hw : Region.wanted ⟨some d, .call { callee := .value c, args := args.toArray, argTypes := argTypes }, ty, pos, af, g⟩ (yieldedE N ops ρ) = true) (hd : Nat.blt d N = true)
    (hc : Tr P f (vs ++ caps).toArray (SL w0 I L) val B) [hdr : ∀ x, DrC (B x)] [hT : ∀ x, SubT (B x) T] (k : ∀ x, WDA ro P N ops Q T n r (put1 ρ d (val x)) (B x)) : WDW ro P N ops Q T n ⟨some d, .call { callee := .value c, args := args.toArray, argTypes := argTypes }, ty, pos, af, g⟩ r ρ A :=
  fun i hi => ⟨_, τ, val, B, hi, hw, fun w hA => OpT.callV hc _ _ _ _ w hA, fun x => (hdr x).out, fun x => (hT x).out, fun x => by show WDA ro P N ops Q T n r (upd N ρ d (val x)) (B x); rw [upd_put1 hd]; exact k x⟩
end
end Go.Fw
