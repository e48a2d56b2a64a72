/- Keys stand as n-grams do; GramKeys, GramParses. Conditions: none. -/
import Derived.Test.YtlodbajaoadhdaaGr5
namespace Go.Proofs.Ytlodbajaoadhdaa
open Go Go.Fw Go.RowKit
set_option linter.unusedVariables false
set_option linter.unusedSimpArgs false
set_option maxRecDepth 100000
set_option maxHeartbeats 16000000
set_option synthInstance.maxHeartbeats 200000
set_option synthInstance.maxSize 100000
attribute [local irreducible] WPA WLA WDA WDQ WDE QQ seqQ blockQ loopQ fnQ OpP OpT Tr TrP SL SLd OwnS LitS Bk BkE Ob
attribute [local irreducible] RowH
theorem u8n {p : Int} (h : 0 ≤ p ∧ p < 256) : (UInt8.ofNat p.toNat).toNat = p.toNat := by rw [UInt8.toNat_ofNat']; exact Nat.mod_eq_of_lt (by omega)
theorem u8lt {p q : Int} (h : 0 ≤ p ∧ p < 256) (k : 0 ≤ q ∧ q < 256) : (UInt8.ofNat p.toNat < UInt8.ofNat q.toNat) ↔ p < q := by rw [UInt8.lt_iff_toNat_lt, u8n h, u8n k]; omega
theorem u8eq {p q : Int} (h : 0 ≤ p ∧ p < 256) (k : 0 ≤ q ∧ q < 256) : (UInt8.ofNat p.toNat = UInt8.ofNat q.toNat) ↔ p = q := by
  rw [← UInt8.toNat_inj, u8n h, u8n k]; omega
theorem less_key : ∀ {a b : List Int}, okKey a → okKey b → a.length = b.length → (Op.bytesLess (a.flatMap b3) (b.flatMap b3) = true ↔ cmpL a b < 0)
  | [], [], _, _, _ => by simp [Op.bytesLess, cmpL]
  | [], _ :: _, _, _, h => by simp at h
  | _ :: _, [], _, _, h => by simp at h
  | x :: a, y :: b, ha, hb, hl => by
    have ih := less_key (a := a) (b := b) (fun v hv => ha v (List.mem_cons_of_mem _ hv)) (fun v hv => hb v (List.mem_cons_of_mem _ hv)) (by simpa using hl)
    have hx := ha x (List.mem_cons_self ..)
    have hy := hb y (List.mem_cons_self ..)
    have e : ∀ (v : Int) (l : List Int), (v :: l).flatMap b3 = UInt8.ofNat (v / 65536).toNat :: UInt8.ofNat (v / 256 % 256).toNat :: UInt8.ofNat (v % 256).toNat :: l.flatMap b3 := fun v l => rfl
    rw [e, e]
    simp only [Op.bytesLess, Bool.or_eq_true, Bool.and_eq_true, decide_eq_true_eq, beq_iff_eq]
    rw [u8lt (by omega) (by omega), u8lt (by omega) (by omega), u8lt (by omega) (by omega), u8eq (by omega) (by omega), u8eq (by omega) (by omega), u8eq (by omega) (by omega), ih, cmpL]
    by_cases h1 : x < y
    · rw [if_pos h1]
      refine ⟨fun _ => by decide, fun _ => ?_⟩
      by_cases g1 : x / 65536 < y / 65536
      · exact .inl g1
      · refine .inr ⟨by omega, ?_⟩
        by_cases g2 : x / 256 % 256 < y / 256 % 256
        · exact .inl g2
        · exact .inr ⟨by omega, .inl (by omega)⟩
    · rw [if_neg h1]
      by_cases h2 : y < x
      · rw [if_pos h2]
        refine ⟨fun h => ?_, fun h => by omega⟩
        rcases h with h | ⟨h, h' | ⟨h', h'' | ⟨h'', -⟩⟩⟩ <;> omega
      · rw [if_neg h2]
        have hxy : x = y := by omega
        subst hxy
        refine ⟨fun h => ?_, fun h => .inr ⟨rfl, .inr ⟨rfl, .inr ⟨rfl, h⟩⟩⟩⟩
        rcases h with h | ⟨h, h' | ⟨h', h'' | ⟨h'', h3⟩⟩⟩
        · omega
        · omega
        · omega
        · exact h3
theorem keyS_inj : ∀ {a b : List Int}, okKey a → okKey b → a.flatMap b3 = b.flatMap b3 → a = b
  | [], [], _, _, _ => rfl
  | [], _ :: _, _, _, h => by simp [b3] at h
  | _ :: _, [], _, _, h => by simp [b3] at h
  | x :: a, y :: b, ha, hb, h => by
    have hx := ha x (List.mem_cons_self ..)
    have hy := hb y (List.mem_cons_self ..)
    have e : ∀ (v : Int) (l : List Int), (v :: l).flatMap b3 = UInt8.ofNat (v / 65536).toNat :: UInt8.ofNat (v / 256 % 256).toNat :: UInt8.ofNat (v % 256).toNat :: l.flatMap b3 := fun v l => rfl
    rw [e, e] at h
    simp only [List.cons.injEq] at h
    obtain ⟨h1, h2, h3, h4⟩ := h
    rw [u8eq (by omega) (by omega)] at h1 h2 h3
    rw [keyS_inj (fun v hv => ha v (List.mem_cons_of_mem _ hv)) (fun v hv => hb v (List.mem_cons_of_mem _ hv)) h4, show x = y by omega]
theorem keyS_eq {a b : List Int} (ha : okKey a) (hb : okKey b) : keyS a = keyS b ↔ cmpL a b = 0 := by
  rw [cmp_zero]
  refine ⟨fun h => keyS_inj ha hb ?_, fun h => by rw [h]⟩
  have := congrArg (fun t : ByteArray => t.data.toList) h
  simpa [keyS] using this
theorem bt_get {t : ByteArray} {i : Nat} (h : i < t.data.toList.length) : bt t (i : Int) = ((t.data.toList[i]).toNat : Int) := by
  have h2 : (i : Int).toNat < t.size := by rw [Int.toNat_natCast]; simpa using h
  unfold bt
  rw [dif_pos h2]
  simp only [Int.toNat_natCast]
  rfl
theorem par3_range (t : ByteArray) (j : Nat) : In24 (par3 t j) := by
  have q0 := bt_range t ((3 * j : Nat) : Int)
  have q1 := bt_range t (((3 * j : Nat) : Int) + 1)
  have q2 := bt_range t (((3 * j : Nat) : Int) + 2)
  unfold par3
  exact ⟨by omega, by omega⟩
theorem parL_ok (t : ByteArray) : okKey (parL t) := by
  intro v hv
  obtain ⟨j, -, rfl⟩ := List.mem_map.1 hv
  exact par3_range t j
theorem b3_par {t : ByteArray} {j : Nat} (h : 3 * j + 2 < t.data.toList.length) : b3 (par3 t j) = [t.data.toList[3 * j], t.data.toList[3 * j + 1], t.data.toList[3 * j + 2]] := by
  have e0 := bt_get (t := t) (i := 3 * j) (by omega)
  have e1 := bt_get (t := t) (i := 3 * j + 1) (by omega)
  have e2 := bt_get (t := t) (i := 3 * j + 2) h
  have e1' : ((3 * j + 1 : Nat) : Int) = ((3 * j : Nat) : Int) + 1 := by omega
  have e2' : ((3 * j + 2 : Nat) : Int) = ((3 * j : Nat) : Int) + 2 := by omega
  rw [e1'] at e1
  rw [e2'] at e2
  have l0 := (t.data.toList[3 * j]).toNat_lt
  have l1 := (t.data.toList[3 * j + 1]).toNat_lt
  have l2 := (t.data.toList[3 * j + 2]).toNat_lt
  have k : ∀ (u : UInt8) (z : Int), z = (u.toNat : Int) → UInt8.ofNat z.toNat = u := fun u z hz => by
    subst hz; rw [Int.toNat_natCast]; exact UInt8.ofNat_toNat
  unfold b3 par3
  rw [e0, e1, e2]
  congr 1
  · exact k _ _ (by omega)
  congr 1
  · exact k _ _ (by omega)
  congr 1
  exact k _ _ (by omega)
theorem keyS_par {t : ByteArray} (h : t.size % 3 = 0) : keyS (parL t) = t := by
  have hl : t.data.toList.length = t.size := Array.length_toList
  have key : ∀ n : Nat, 3 * n ≤ t.size → ((List.range n).map (par3 t)).flatMap b3 = t.data.toList.take (3 * n) := by
    intro n
    induction n with
    | zero => intro _; simp
    | succ n ih =>
      intro hn
      rw [List.range_succ, List.map_append, List.flatMap_append, ih (by omega), List.map_cons, List.map_nil, List.flatMap_cons, List.flatMap_nil, List.append_nil, b3_par (by omega)]
      rw [show 3 * (n + 1) = 3 * n + 1 + 1 + 1 by omega, List.take_add_one, List.take_add_one, List.take_add_one, List.getElem?_eq_getElem (by omega), List.getElem?_eq_getElem (by omega), List.getElem?_eq_getElem (by omega)]
      simp
  apply ByteArray.ext
  apply Array.toList_inj.1
  show (parL t).flatMap b3 = _
  unfold parL
  rw [key _ (by omega), List.take_of_length_le (by omega)]
theorem parL_key {xs : List Int} (h : okKey xs) : parL (keyS xs) = xs := by
  have h1 := keyS_par (t := keyS xs) (by rw [keyS_size]; omega)
  refine keyS_inj (parL_ok _) h ?_
  have := congrArg (fun t : ByteArray => t.data.toList) h1
  simpa [keyS] using this
theorem GramParses_tr {w0 : World} {I : Foot} {t : ByteArray} : Tr Try.prog 7 #[.string t] (SL w0 I []) (fun _ : Unit => .bool true) (fun _ => SL w0 I []) := by
  refine Tr.intro Try.func7 rfl Try.ntmps7 rfl ?_
  by_cases h1 : (300 : Int) < t.size
  · skip
    repeat' ((fail_if_success (guard_target =~ WPA _ _ _ (.region 3 _ _) _ _ _)); first | ((first | refine WLA.m rfl rfl ?_ ?_ | refine WLA.st rfl ?_ ?_ | refine WLA.x rfl rfl ?_ (fun x => ?_) | refine WLA.x0 rfl ?_ (fun x => ?_)); first | exact trivial | exact rfl | assumption | omega | (refine ⟨?_, ?_⟩ <;> omega) | (simp only [Room, List.length_set, List.length_append, List.length_cons, List.length_nil, List.length_replicate]; omega) | decide | skip) | (refine Stp.go ?_) | (guard_target =~ WLA _ _ _ _ _ (⟨_, .call ⟨.value (.func 29), _, _⟩, _, _, _, _⟩ :: _) _ _; first | (refine WLA.call rfl rfl (live_tr18 _ _ _) ?_; rintro ⟨⟩) | (refine WLA.call0 rfl (live_tr18 _ _ _) ?_; rintro ⟨⟩)) | (refine WPA.ifT ?_) | (refine WPA.ifF ?_) | ((first | refine WPA.dec ?_); first | refine .inl ⟨by first | assumption | omega | with_reducible rfl | (refine fun h => h ?_; first | assumption | with_reducible rfl) | (simp only [List.length_append, List.length_cons, List.length_nil, List.length_set] <;> omega) | decide, ?_⟩ | refine .inr ⟨by first | assumption | omega | with_reducible rfl | (refine fun h => h ?_; first | assumption | with_reducible rfl) | (simp only [List.length_append, List.length_cons, List.length_nil, List.length_set] <;> omega) | decide, ?_⟩) | ((first | refine WPA.ifBt ?_ ?_ | refine WPA.ifBnf ?_ ?_); assumption) | ((first | refine WPA.ifBnt ?_ ?_ | refine WPA.ifBf ?_ ?_); assumption) | ((first | refine WPA.ifs ?_ ?_ | refine WPA.ifB ?_ ?_) <;> intro hc))
    exact QQ.end_ rfl () rfl fun w h => h.to
  by_cases h2 : t.size % 3 = 0
  · have h2' : ¬ (t.size : Int) % 3 ≠ 0 := by omega
    have hl : (parL t).length = t.size / 3 := by unfold parL; rw [List.length_map, List.length_range]
    have hl' : ((parL t).length : Int) = (t.size : Int) / 3 := by omega
    have hl2 : (parL t).length ≤ 1000000 := by omega
    repeat' (first | ((first | refine WLA.m rfl rfl ?_ ?_ | refine WLA.st rfl ?_ ?_ | refine WLA.x rfl rfl ?_ (fun x => ?_) | refine WLA.x0 rfl ?_ (fun x => ?_)); first | exact trivial | exact rfl | assumption | omega | (refine ⟨?_, ?_⟩ <;> omega) | (simp only [Room, List.length_set, List.length_append, List.length_cons, List.length_nil, List.length_replicate]; omega) | decide | skip) | (refine Stp.go ?_) | (guard_target =~ WLA _ _ _ _ _ (⟨_, .call ⟨.value (.func 36), _, _⟩, _, _, _, _⟩ :: _) _ _; first | (refine WLA.call rfl rfl (gParse_ok h2 (by omega)) ?_; rintro r) | (refine WLA.call0 rfl (gParse_ok h2 (by omega)) ?_; rintro r)) | (guard_target =~ WLA _ _ _ _ _ (⟨_, .call ⟨.value (.func 35), _, _⟩, _, _, _, _⟩ :: _) _ _; first | (refine WLA.call rfl rfl (rKey_tr (k := t) (e := true) hl2 (.inl ⟨parL_ok t, (keyS_par h2).symm, rfl⟩)) ?_; rintro ⟨⟩) | (refine WLA.call0 rfl (rKey_tr (k := t) (e := true) hl2 (.inl ⟨parL_ok t, (keyS_par h2).symm, rfl⟩)) ?_; rintro ⟨⟩)) | (guard_target =~ WLA _ _ _ _ _ (⟨_, .call ⟨.value (.func 29), _, _⟩, _, _, _, _⟩ :: _) _ _; first | (refine WLA.call rfl rfl (live_tr18 _ _ _) ?_; rintro ⟨⟩) | (refine WLA.call0 rfl (live_tr18 _ _ _) ?_; rintro ⟨⟩)) | (refine WPA.ifT ?_) | (refine WPA.ifF ?_) | (refine WLA.no rfl rfl ?_) | ((first | refine WPA.dec ?_ | ((fail_if_success (guard_target =~ WLA _ _ _ _ _ _ (put1 _ _ (.bool true)) _)); (fail_if_success (guard_target =~ WLA _ _ _ _ _ _ (put1 _ _ (.bool false)) _)); refine WLA.dec rfl rfl ?_) | refine WLA.pk ?_); first | refine .inl ⟨by first | assumption | omega | with_reducible rfl | (refine fun h => h ?_; first | assumption | with_reducible rfl) | (simp only [List.length_append, List.length_cons, List.length_nil, List.length_set] <;> omega) | decide, ?_⟩ | refine .inr ⟨by first | assumption | omega | with_reducible rfl | (refine fun h => h ?_; first | assumption | with_reducible rfl) | (simp only [List.length_append, List.length_cons, List.length_nil, List.length_set] <;> omega) | decide, ?_⟩) | ((first | refine WPA.ifBt ?_ ?_ | refine WPA.ifBnf ?_ ?_); assumption) | ((first | refine WPA.ifBnt ?_ ?_ | refine WPA.ifBf ?_ ?_); assumption) | ((first | refine WPA.ifs ?_ ?_ | refine WPA.ifB ?_ ?_) <;> intro hc) | ((fail_if_success (guard_target =~ WLA _ _ _ _ _ _ (put1 _ _ (.bool true)) _)); (fail_if_success (guard_target =~ WLA _ _ _ _ _ _ (put1 _ _ (.bool false)) _)); (first | refine WLA.both rfl rfl ?_ ?_ | refine WLA.bothB rfl rfl ?_ ?_) <;> intro hg))
    exact QQ.end_ rfl () rfl fun w h => h.to
  · have h2' : (t.size : Int) % 3 ≠ 0 := by omega
    repeat' (first | ((first | refine WLA.m rfl rfl ?_ ?_ | refine WLA.st rfl ?_ ?_ | refine WLA.x rfl rfl ?_ (fun x => ?_) | refine WLA.x0 rfl ?_ (fun x => ?_)); first | exact trivial | exact rfl | assumption | omega | (refine ⟨?_, ?_⟩ <;> omega) | (simp only [Room, List.length_set, List.length_append, List.length_cons, List.length_nil, List.length_replicate]; omega) | decide | skip) | (refine Stp.go ?_) | (guard_target =~ WLA _ _ _ _ _ (⟨_, .call ⟨.value (.func 36), _, _⟩, _, _, _, _⟩ :: _) _ _; first | (refine WLA.call rfl rfl (gParse_no h2) ?_; rintro ⟨⟩) | (refine WLA.call0 rfl (gParse_no h2) ?_; rintro ⟨⟩)) | (guard_target =~ WLA _ _ _ _ _ (⟨_, .call ⟨.value (.func 29), _, _⟩, _, _, _, _⟩ :: _) _ _; first | (refine WLA.call rfl rfl (live_tr18 _ _ _) ?_; rintro ⟨⟩) | (refine WLA.call0 rfl (live_tr18 _ _ _) ?_; rintro ⟨⟩)) | (refine WPA.ifT ?_) | (refine WPA.ifF ?_) | (refine WLA.no rfl rfl ?_) | ((first | refine WPA.dec ?_ | ((fail_if_success (guard_target =~ WLA _ _ _ _ _ _ (put1 _ _ (.bool true)) _)); (fail_if_success (guard_target =~ WLA _ _ _ _ _ _ (put1 _ _ (.bool false)) _)); refine WLA.dec rfl rfl ?_) | refine WLA.pk ?_); first | refine .inl ⟨by first | assumption | omega | with_reducible rfl | (refine fun h => h ?_; first | assumption | with_reducible rfl) | (simp only [List.length_append, List.length_cons, List.length_nil, List.length_set] <;> omega) | decide, ?_⟩ | refine .inr ⟨by first | assumption | omega | with_reducible rfl | (refine fun h => h ?_; first | assumption | with_reducible rfl) | (simp only [List.length_append, List.length_cons, List.length_nil, List.length_set] <;> omega) | decide, ?_⟩) | ((first | refine WPA.ifBt ?_ ?_ | refine WPA.ifBnf ?_ ?_); assumption) | ((first | refine WPA.ifBnt ?_ ?_ | refine WPA.ifBf ?_ ?_); assumption) | ((first | refine WPA.ifs ?_ ?_ | refine WPA.ifB ?_ ?_) <;> intro hc) | ((fail_if_success (guard_target =~ WLA _ _ _ _ _ _ (put1 _ _ (.bool true)) _)); (fail_if_success (guard_target =~ WLA _ _ _ _ _ _ (put1 _ _ (.bool false)) _)); (first | refine WLA.both rfl rfl ?_ ?_ | refine WLA.bothB rfl rfl ?_ ?_) <;> intro hg))
    exact QQ.end_ rfl () rfl fun w h => h.to
theorem GramParses_law (W : World) (t : ByteArray) (h : gStr W t) : Calls Try.prog 7 #[.string t] W fun e w' => e = .returned (.bool true) ∧ Below W.heap.size W w' := Calls.below GramParses_tr
theorem GramKeys_tr {w0 : World} {I : Foot} {a b : SV} {xs ys : List Int} [ha : SlI I a Int inferInstance xs] [hb : SlI I b Int inferInstance ys] :
    Tr Try.prog 6 #[.slice a.a a.n a.cap, .slice b.a b.n b.cap] (SL w0 I []) (fun _ : Unit => .bool true) (fun _ => SL w0 I []) := by
  refine Tr.intro Try.func6 rfl Try.ntmps6 rfl ?_
  by_cases h1 : (100 : Int) < xs.length
  · skip
    repeat' ((fail_if_success (guard_target =~ WPA _ _ _ (.region 3 _ _) _ _ _)); first | ((first | refine WLA.m rfl rfl ?_ ?_ | refine WLA.st rfl ?_ ?_ | refine WLA.x rfl rfl ?_ (fun x => ?_) | refine WLA.x0 rfl ?_ (fun x => ?_)); first | exact trivial | exact rfl | assumption | omega | (refine ⟨?_, ?_⟩ <;> omega) | (simp only [Room, List.length_set, List.length_append, List.length_cons, List.length_nil, List.length_replicate]; omega) | decide | skip) | (refine Stp.go ?_) | (guard_target =~ WLA _ _ _ _ _ (⟨_, .call ⟨.value (.func 29), _, _⟩, _, _, _, _⟩ :: _) _ _; first | (refine WLA.call rfl rfl (live_tr18 _ _ _) ?_; rintro ⟨⟩) | (refine WLA.call0 rfl (live_tr18 _ _ _) ?_; rintro ⟨⟩)) | (refine WPA.ifT ?_) | (refine WPA.ifF ?_) | (refine WLA.no rfl rfl ?_) | ((first | refine WPA.dec ?_ | ((fail_if_success (guard_target =~ WLA _ _ _ _ _ _ (put1 _ _ (.bool true)) _)); (fail_if_success (guard_target =~ WLA _ _ _ _ _ _ (put1 _ _ (.bool false)) _)); refine WLA.dec rfl rfl ?_) | refine WLA.pk ?_); first | refine .inl ⟨by first | assumption | omega | with_reducible rfl | (refine fun h => h ?_; first | assumption | with_reducible rfl) | (simp only [List.length_append, List.length_cons, List.length_nil, List.length_set] <;> omega) | decide, ?_⟩ | refine .inr ⟨by first | assumption | omega | with_reducible rfl | (refine fun h => h ?_; first | assumption | with_reducible rfl) | (simp only [List.length_append, List.length_cons, List.length_nil, List.length_set] <;> omega) | decide, ?_⟩) | ((first | refine WPA.ifBt ?_ ?_ | refine WPA.ifBnf ?_ ?_); assumption) | ((first | refine WPA.ifBnt ?_ ?_ | refine WPA.ifBf ?_ ?_); assumption) | ((first | refine WPA.ifs ?_ ?_ | refine WPA.ifB ?_ ?_) <;> intro hc) | ((fail_if_success (guard_target =~ WLA _ _ _ _ _ _ (put1 _ _ (.bool true)) _)); (fail_if_success (guard_target =~ WLA _ _ _ _ _ _ (put1 _ _ (.bool false)) _)); (first | refine WLA.both rfl rfl ?_ ?_ | refine WLA.bothB rfl rfl ?_ ?_) <;> intro hg))
    exact QQ.end_ rfl () rfl fun w h => h.to
  by_cases h2 : (100 : Int) < ys.length
  · skip
    repeat' ((fail_if_success (guard_target =~ WPA _ _ _ (.region 3 _ _) _ _ _)); first | ((first | refine WLA.m rfl rfl ?_ ?_ | refine WLA.st rfl ?_ ?_ | refine WLA.x rfl rfl ?_ (fun x => ?_) | refine WLA.x0 rfl ?_ (fun x => ?_)); first | exact trivial | exact rfl | assumption | omega | (refine ⟨?_, ?_⟩ <;> omega) | (simp only [Room, List.length_set, List.length_append, List.length_cons, List.length_nil, List.length_replicate]; omega) | decide | skip) | (refine Stp.go ?_) | (guard_target =~ WLA _ _ _ _ _ (⟨_, .call ⟨.value (.func 29), _, _⟩, _, _, _, _⟩ :: _) _ _; first | (refine WLA.call rfl rfl (live_tr18 _ _ _) ?_; rintro ⟨⟩) | (refine WLA.call0 rfl (live_tr18 _ _ _) ?_; rintro ⟨⟩)) | (refine WPA.ifT ?_) | (refine WPA.ifF ?_) | (refine WLA.no rfl rfl ?_) | ((first | refine WPA.dec ?_ | ((fail_if_success (guard_target =~ WLA _ _ _ _ _ _ (put1 _ _ (.bool true)) _)); (fail_if_success (guard_target =~ WLA _ _ _ _ _ _ (put1 _ _ (.bool false)) _)); refine WLA.dec rfl rfl ?_) | refine WLA.pk ?_); first | refine .inl ⟨by first | assumption | omega | with_reducible rfl | (refine fun h => h ?_; first | assumption | with_reducible rfl) | (simp only [List.length_append, List.length_cons, List.length_nil, List.length_set] <;> omega) | decide, ?_⟩ | refine .inr ⟨by first | assumption | omega | with_reducible rfl | (refine fun h => h ?_; first | assumption | with_reducible rfl) | (simp only [List.length_append, List.length_cons, List.length_nil, List.length_set] <;> omega) | decide, ?_⟩) | ((first | refine WPA.ifBt ?_ ?_ | refine WPA.ifBnf ?_ ?_); assumption) | ((first | refine WPA.ifBnt ?_ ?_ | refine WPA.ifBf ?_ ?_); assumption) | ((first | refine WPA.ifs ?_ ?_ | refine WPA.ifB ?_ ?_) <;> intro hc) | ((fail_if_success (guard_target =~ WLA _ _ _ _ _ _ (put1 _ _ (.bool true)) _)); (fail_if_success (guard_target =~ WLA _ _ _ _ _ _ (put1 _ _ (.bool false)) _)); (first | refine WLA.both rfl rfl ?_ ?_ | refine WLA.bothB rfl rfl ?_ ?_) <;> intro hg))
    exact QQ.end_ rfl () rfl fun w h => h.to
  have l1 : xs.length ≤ 1000000000 := by omega
  have l2 : ys.length ≤ 1000000000 := by omega
  by_cases hox : okKey xs
  · have hP : ∀ {L : List HP}, Tr Try.prog 36 #[.string (keyS xs)] (SL w0 I L) (fun r : SV => .tuple #[.slice r.a r.n r.cap, .int .i64 0]) (fun r => SL w0 I (OwnS 3 r xs :: L)) := by
      intro L
      have := gParse_ok (t := keyS xs) (w0 := w0) (I := I) (L := L) (by rw [keyS_size]; omega) (by rw [keyS_size]; omega)
      rwa [parL_key hox] at this
    by_cases hoy : okKey ys
    · by_cases hl : xs.length = ys.length
      · have hl' : ¬ (xs.length : Int) ≠ ys.length := by omega
        have q1 : decide (Op.bytesLess (keyS xs).data.toList (keyS ys).data.toList = true) = decide (cmpL xs ys < 0) := by
          rw [decide_eq_decide]; exact less_key hox hoy hl
        have q2 : decide (keyS xs = keyS ys) = decide (cmpL xs ys = 0) := by
          rw [decide_eq_decide]; exact keyS_eq hox hoy
        repeat' ((fail_if_success (guard_target =~ WPA _ _ _ (.region 10 _ _) _ _ _)); first | ((first | refine WLA.m rfl rfl ?_ ?_ | refine WLA.st rfl ?_ ?_ | refine WLA.x rfl rfl ?_ (fun x => ?_) | refine WLA.x0 rfl ?_ (fun x => ?_)); first | exact trivial | exact rfl | assumption | omega | (refine ⟨?_, ?_⟩ <;> omega) | (simp only [Room, List.length_set, List.length_append, List.length_cons, List.length_nil, List.length_replicate]; omega) | decide | skip) | (refine Stp.go ?_) | (guard_target =~ WLA _ _ _ _ _ (⟨_, .call ⟨.value (.func 34), _, _⟩, _, _, _, _⟩ :: _) _ _; first | (refine WLA.call rfl rfl (gKey_tr (k := keyS xs) (e := 0) (by omega) (.inl ⟨hox, rfl, rfl⟩)) ?_; rintro ⟨⟩) | (refine WLA.call0 rfl (gKey_tr (k := keyS xs) (e := 0) (by omega) (.inl ⟨hox, rfl, rfl⟩)) ?_; rintro ⟨⟩)) | (guard_target =~ WLA _ _ _ _ _ (⟨_, .call ⟨.value (.func 35), _, _⟩, _, _, _, _⟩ :: _) _ _; first | (refine WLA.call rfl rfl (rKey_tr (k := keyS xs) (e := true) (by omega) (.inl ⟨hox, rfl, rfl⟩)) ?_; rintro ⟨⟩) | (refine WLA.call0 rfl (rKey_tr (k := keyS xs) (e := true) (by omega) (.inl ⟨hox, rfl, rfl⟩)) ?_; rintro ⟨⟩)) | (guard_target =~ WLA _ _ _ _ _ (⟨_, .call ⟨.value (.func 36), _, _⟩, _, _, _, _⟩ :: _) _ _; first | (refine WLA.call rfl rfl (hP) ?_; rintro r) | (refine WLA.call0 rfl (hP) ?_; rintro r)) | (guard_target =~ WLA _ _ _ _ _ (⟨_, .call ⟨.value (.func 18), _, _⟩, _, _, _, _⟩ :: _) _ _; refine WLA.cq rfl rfl (Ints_tr l1) ?_) | (refine WPA.ifT ?_) | (refine WPA.ifF ?_) | (refine WLA.no rfl rfl ?_) | ((first | refine WPA.dec ?_ | ((fail_if_success (guard_target =~ WLA _ _ _ _ _ _ (put1 _ _ (.bool true)) _)); (fail_if_success (guard_target =~ WLA _ _ _ _ _ _ (put1 _ _ (.bool false)) _)); refine WLA.dec rfl rfl ?_) | refine WLA.pk ?_); first | refine .inl ⟨by first | assumption | omega | with_reducible rfl | (refine fun h => h ?_; first | assumption | with_reducible rfl) | (simp only [List.length_append, List.length_cons, List.length_nil, List.length_set] <;> omega) | decide, ?_⟩ | refine .inr ⟨by first | assumption | omega | with_reducible rfl | (refine fun h => h ?_; first | assumption | with_reducible rfl) | (simp only [List.length_append, List.length_cons, List.length_nil, List.length_set] <;> omega) | decide, ?_⟩) | ((first | refine WPA.ifBt ?_ ?_ | refine WPA.ifBnf ?_ ?_); assumption) | ((first | refine WPA.ifBnt ?_ ?_ | refine WPA.ifBf ?_ ?_); assumption) | ((first | refine WPA.ifs ?_ ?_ | refine WPA.ifB ?_ ?_) <;> intro hc) | ((fail_if_success (guard_target =~ WLA _ _ _ _ _ _ (put1 _ _ (.bool true)) _)); (fail_if_success (guard_target =~ WLA _ _ _ _ _ _ (put1 _ _ (.bool false)) _)); (first | refine WLA.both rfl rfl ?_ ?_ | refine WLA.bothB rfl rfl ?_ ?_) <;> intro hg))
        repeat' (first | ((first | refine WLA.m rfl rfl ?_ ?_ | refine WLA.st rfl ?_ ?_ | refine WLA.x rfl rfl ?_ (fun x => ?_) | refine WLA.x0 rfl ?_ (fun x => ?_)); first | exact trivial | exact rfl | assumption | omega | (refine ⟨?_, ?_⟩ <;> omega) | (simp only [Room, List.length_set, List.length_append, List.length_cons, List.length_nil, List.length_replicate]; omega) | decide | skip) | (refine Stp.go ?_) | (guard_target =~ WLA _ _ _ _ _ (⟨_, .call ⟨.value (.func 34), _, _⟩, _, _, _, _⟩ :: _) _ _; first | (refine WLA.call rfl rfl (gKey_tr (k := keyS ys) (e := 0) (by omega) (.inl ⟨hoy, rfl, rfl⟩)) ?_; rintro ⟨⟩) | (refine WLA.call0 rfl (gKey_tr (k := keyS ys) (e := 0) (by omega) (.inl ⟨hoy, rfl, rfl⟩)) ?_; rintro ⟨⟩)) | (guard_target =~ WLA _ _ _ _ _ (⟨_, .call ⟨.value (.func 31), _, _⟩, _, _, _, _⟩ :: _) _ _; refine WLA.cq rfl rfl (Compare_tr l1 l2) ?_) | (guard_target =~ WLA _ _ _ _ _ (⟨_, .call ⟨.value (.func 29), _, _⟩, _, _, _, _⟩ :: _) _ _; first | (refine WLA.call rfl rfl (live_tr18 _ _ _) ?_; rintro ⟨⟩) | (refine WLA.call0 rfl (live_tr18 _ _ _) ?_; rintro ⟨⟩)) | (refine WPA.ifT ?_) | (refine WPA.ifF ?_) | (refine WLA.no rfl rfl ?_) | ((first | refine WPA.dec ?_ | ((fail_if_success (guard_target =~ WLA _ _ _ _ _ _ (put1 _ _ (.bool true)) _)); (fail_if_success (guard_target =~ WLA _ _ _ _ _ _ (put1 _ _ (.bool false)) _)); refine WLA.dec rfl rfl ?_) | refine WLA.pk ?_); first | refine .inl ⟨by first | assumption | omega | with_reducible rfl | (refine fun h => h ?_; first | assumption | with_reducible rfl) | (simp only [List.length_append, List.length_cons, List.length_nil, List.length_set] <;> omega) | decide, ?_⟩ | refine .inr ⟨by first | assumption | omega | with_reducible rfl | (refine fun h => h ?_; first | assumption | with_reducible rfl) | (simp only [List.length_append, List.length_cons, List.length_nil, List.length_set] <;> omega) | decide, ?_⟩) | ((first | refine WPA.ifBt ?_ ?_ | refine WPA.ifBnf ?_ ?_); assumption) | ((first | refine WPA.ifBnt ?_ ?_ | refine WPA.ifBf ?_ ?_); assumption) | ((first | refine WPA.ifs ?_ ?_ | refine WPA.ifB ?_ ?_) <;> intro hc) | ((fail_if_success (guard_target =~ WLA _ _ _ _ _ _ (put1 _ _ (.bool true)) _)); (fail_if_success (guard_target =~ WLA _ _ _ _ _ _ (put1 _ _ (.bool false)) _)); (first | refine WLA.both rfl rfl ?_ ?_ | refine WLA.bothB rfl rfl ?_ ?_) <;> intro hg))
        exact QQ.end_ rfl () rfl fun w h => h.to
      · have hl' : (xs.length : Int) ≠ ys.length := by omega
        repeat' ((fail_if_success (guard_target =~ WPA _ _ _ (.region 10 _ _) _ _ _)); first | ((first | refine WLA.m rfl rfl ?_ ?_ | refine WLA.st rfl ?_ ?_ | refine WLA.x rfl rfl ?_ (fun x => ?_) | refine WLA.x0 rfl ?_ (fun x => ?_)); first | exact trivial | exact rfl | assumption | omega | (refine ⟨?_, ?_⟩ <;> omega) | (simp only [Room, List.length_set, List.length_append, List.length_cons, List.length_nil, List.length_replicate]; omega) | decide | skip) | (refine Stp.go ?_) | (guard_target =~ WLA _ _ _ _ _ (⟨_, .call ⟨.value (.func 34), _, _⟩, _, _, _, _⟩ :: _) _ _; first | (refine WLA.call rfl rfl (gKey_tr (k := keyS xs) (e := 0) (by omega) (.inl ⟨hox, rfl, rfl⟩)) ?_; rintro ⟨⟩) | (refine WLA.call0 rfl (gKey_tr (k := keyS xs) (e := 0) (by omega) (.inl ⟨hox, rfl, rfl⟩)) ?_; rintro ⟨⟩)) | (guard_target =~ WLA _ _ _ _ _ (⟨_, .call ⟨.value (.func 35), _, _⟩, _, _, _, _⟩ :: _) _ _; first | (refine WLA.call rfl rfl (rKey_tr (k := keyS xs) (e := true) (by omega) (.inl ⟨hox, rfl, rfl⟩)) ?_; rintro ⟨⟩) | (refine WLA.call0 rfl (rKey_tr (k := keyS xs) (e := true) (by omega) (.inl ⟨hox, rfl, rfl⟩)) ?_; rintro ⟨⟩)) | (guard_target =~ WLA _ _ _ _ _ (⟨_, .call ⟨.value (.func 36), _, _⟩, _, _, _, _⟩ :: _) _ _; first | (refine WLA.call rfl rfl (hP) ?_; rintro r) | (refine WLA.call0 rfl (hP) ?_; rintro r)) | (guard_target =~ WLA _ _ _ _ _ (⟨_, .call ⟨.value (.func 18), _, _⟩, _, _, _, _⟩ :: _) _ _; refine WLA.cq rfl rfl (Ints_tr l1) ?_) | (refine WPA.ifT ?_) | (refine WPA.ifF ?_) | (refine WLA.no rfl rfl ?_) | ((first | refine WPA.dec ?_ | ((fail_if_success (guard_target =~ WLA _ _ _ _ _ _ (put1 _ _ (.bool true)) _)); (fail_if_success (guard_target =~ WLA _ _ _ _ _ _ (put1 _ _ (.bool false)) _)); refine WLA.dec rfl rfl ?_) | refine WLA.pk ?_); first | refine .inl ⟨by first | assumption | omega | with_reducible rfl | (refine fun h => h ?_; first | assumption | with_reducible rfl) | (simp only [List.length_append, List.length_cons, List.length_nil, List.length_set] <;> omega) | decide, ?_⟩ | refine .inr ⟨by first | assumption | omega | with_reducible rfl | (refine fun h => h ?_; first | assumption | with_reducible rfl) | (simp only [List.length_append, List.length_cons, List.length_nil, List.length_set] <;> omega) | decide, ?_⟩) | ((first | refine WPA.ifBt ?_ ?_ | refine WPA.ifBnf ?_ ?_); assumption) | ((first | refine WPA.ifBnt ?_ ?_ | refine WPA.ifBf ?_ ?_); assumption) | ((first | refine WPA.ifs ?_ ?_ | refine WPA.ifB ?_ ?_) <;> intro hc) | ((fail_if_success (guard_target =~ WLA _ _ _ _ _ _ (put1 _ _ (.bool true)) _)); (fail_if_success (guard_target =~ WLA _ _ _ _ _ _ (put1 _ _ (.bool false)) _)); (first | refine WLA.both rfl rfl ?_ ?_ | refine WLA.bothB rfl rfl ?_ ?_) <;> intro hg))
        repeat' (first | ((first | refine WLA.m rfl rfl ?_ ?_ | refine WLA.st rfl ?_ ?_ | refine WLA.x rfl rfl ?_ (fun x => ?_) | refine WLA.x0 rfl ?_ (fun x => ?_)); first | exact trivial | exact rfl | assumption | omega | (refine ⟨?_, ?_⟩ <;> omega) | (simp only [Room, List.length_set, List.length_append, List.length_cons, List.length_nil, List.length_replicate]; omega) | decide | skip) | (refine Stp.go ?_) | (guard_target =~ WLA _ _ _ _ _ (⟨_, .call ⟨.value (.func 34), _, _⟩, _, _, _, _⟩ :: _) _ _; first | (refine WLA.call rfl rfl (gKey_tr (k := keyS ys) (e := 0) (by omega) (.inl ⟨hoy, rfl, rfl⟩)) ?_; rintro ⟨⟩) | (refine WLA.call0 rfl (gKey_tr (k := keyS ys) (e := 0) (by omega) (.inl ⟨hoy, rfl, rfl⟩)) ?_; rintro ⟨⟩)) | (guard_target =~ WLA _ _ _ _ _ (⟨_, .call ⟨.value (.func 31), _, _⟩, _, _, _, _⟩ :: _) _ _; refine WLA.cq rfl rfl (Compare_tr l1 l2) ?_) | (guard_target =~ WLA _ _ _ _ _ (⟨_, .call ⟨.value (.func 29), _, _⟩, _, _, _, _⟩ :: _) _ _; first | (refine WLA.call rfl rfl (live_tr18 _ _ _) ?_; rintro ⟨⟩) | (refine WLA.call0 rfl (live_tr18 _ _ _) ?_; rintro ⟨⟩)) | (refine WPA.ifT ?_) | (refine WPA.ifF ?_) | (refine WLA.no rfl rfl ?_) | ((first | refine WPA.dec ?_ | ((fail_if_success (guard_target =~ WLA _ _ _ _ _ _ (put1 _ _ (.bool true)) _)); (fail_if_success (guard_target =~ WLA _ _ _ _ _ _ (put1 _ _ (.bool false)) _)); refine WLA.dec rfl rfl ?_) | refine WLA.pk ?_); first | refine .inl ⟨by first | assumption | omega | with_reducible rfl | (refine fun h => h ?_; first | assumption | with_reducible rfl) | (simp only [List.length_append, List.length_cons, List.length_nil, List.length_set] <;> omega) | decide, ?_⟩ | refine .inr ⟨by first | assumption | omega | with_reducible rfl | (refine fun h => h ?_; first | assumption | with_reducible rfl) | (simp only [List.length_append, List.length_cons, List.length_nil, List.length_set] <;> omega) | decide, ?_⟩) | ((first | refine WPA.ifBt ?_ ?_ | refine WPA.ifBnf ?_ ?_); assumption) | ((first | refine WPA.ifBnt ?_ ?_ | refine WPA.ifBf ?_ ?_); assumption) | ((first | refine WPA.ifs ?_ ?_ | refine WPA.ifB ?_ ?_) <;> intro hc) | ((fail_if_success (guard_target =~ WLA _ _ _ _ _ _ (put1 _ _ (.bool true)) _)); (fail_if_success (guard_target =~ WLA _ _ _ _ _ _ (put1 _ _ (.bool false)) _)); (first | refine WLA.both rfl rfl ?_ ?_ | refine WLA.bothB rfl rfl ?_ ?_) <;> intro hg))
        exact QQ.end_ rfl () rfl fun w h => h.to
    · skip
      repeat' ((fail_if_success (guard_target =~ WPA _ _ _ (.region 10 _ _) _ _ _)); first | ((first | refine WLA.m rfl rfl ?_ ?_ | refine WLA.st rfl ?_ ?_ | refine WLA.x rfl rfl ?_ (fun x => ?_) | refine WLA.x0 rfl ?_ (fun x => ?_)); first | exact trivial | exact rfl | assumption | omega | (refine ⟨?_, ?_⟩ <;> omega) | (simp only [Room, List.length_set, List.length_append, List.length_cons, List.length_nil, List.length_replicate]; omega) | decide | skip) | (refine Stp.go ?_) | (guard_target =~ WLA _ _ _ _ _ (⟨_, .call ⟨.value (.func 34), _, _⟩, _, _, _, _⟩ :: _) _ _; first | (refine WLA.call rfl rfl (gKey_tr (k := keyS xs) (e := 0) (by omega) (.inl ⟨hox, rfl, rfl⟩)) ?_; rintro ⟨⟩) | (refine WLA.call0 rfl (gKey_tr (k := keyS xs) (e := 0) (by omega) (.inl ⟨hox, rfl, rfl⟩)) ?_; rintro ⟨⟩)) | (guard_target =~ WLA _ _ _ _ _ (⟨_, .call ⟨.value (.func 35), _, _⟩, _, _, _, _⟩ :: _) _ _; first | (refine WLA.call rfl rfl (rKey_tr (k := keyS xs) (e := true) (by omega) (.inl ⟨hox, rfl, rfl⟩)) ?_; rintro ⟨⟩) | (refine WLA.call0 rfl (rKey_tr (k := keyS xs) (e := true) (by omega) (.inl ⟨hox, rfl, rfl⟩)) ?_; rintro ⟨⟩)) | (guard_target =~ WLA _ _ _ _ _ (⟨_, .call ⟨.value (.func 36), _, _⟩, _, _, _, _⟩ :: _) _ _; first | (refine WLA.call rfl rfl (hP) ?_; rintro r) | (refine WLA.call0 rfl (hP) ?_; rintro r)) | (guard_target =~ WLA _ _ _ _ _ (⟨_, .call ⟨.value (.func 18), _, _⟩, _, _, _, _⟩ :: _) _ _; refine WLA.cq rfl rfl (Ints_tr l1) ?_) | (refine WPA.ifT ?_) | (refine WPA.ifF ?_) | (refine WLA.no rfl rfl ?_) | ((first | refine WPA.dec ?_ | ((fail_if_success (guard_target =~ WLA _ _ _ _ _ _ (put1 _ _ (.bool true)) _)); (fail_if_success (guard_target =~ WLA _ _ _ _ _ _ (put1 _ _ (.bool false)) _)); refine WLA.dec rfl rfl ?_) | refine WLA.pk ?_); first | refine .inl ⟨by first | assumption | omega | with_reducible rfl | (refine fun h => h ?_; first | assumption | with_reducible rfl) | (simp only [List.length_append, List.length_cons, List.length_nil, List.length_set] <;> omega) | decide, ?_⟩ | refine .inr ⟨by first | assumption | omega | with_reducible rfl | (refine fun h => h ?_; first | assumption | with_reducible rfl) | (simp only [List.length_append, List.length_cons, List.length_nil, List.length_set] <;> omega) | decide, ?_⟩) | ((first | refine WPA.ifBt ?_ ?_ | refine WPA.ifBnf ?_ ?_); assumption) | ((first | refine WPA.ifBnt ?_ ?_ | refine WPA.ifBf ?_ ?_); assumption) | ((first | refine WPA.ifs ?_ ?_ | refine WPA.ifB ?_ ?_) <;> intro hc) | ((fail_if_success (guard_target =~ WLA _ _ _ _ _ _ (put1 _ _ (.bool true)) _)); (fail_if_success (guard_target =~ WLA _ _ _ _ _ _ (put1 _ _ (.bool false)) _)); (first | refine WLA.both rfl rfl ?_ ?_ | refine WLA.bothB rfl rfl ?_ ?_) <;> intro hg))
      repeat' (first | ((first | refine WLA.m rfl rfl ?_ ?_ | refine WLA.st rfl ?_ ?_ | refine WLA.x rfl rfl ?_ (fun x => ?_) | refine WLA.x0 rfl ?_ (fun x => ?_)); first | exact trivial | exact rfl | assumption | omega | (refine ⟨?_, ?_⟩ <;> omega) | (simp only [Room, List.length_set, List.length_append, List.length_cons, List.length_nil, List.length_replicate]; omega) | decide | skip) | (refine Stp.go ?_) | (guard_target =~ WLA _ _ _ _ _ (⟨_, .call ⟨.value (.func 34), _, _⟩, _, _, _, _⟩ :: _) _ _; first | (refine WLA.call rfl rfl (gKey_tr (k := ⟨#[]⟩) (e := 8) (by omega) (.inr ⟨hoy, rfl, rfl⟩)) ?_; rintro ⟨⟩) | (refine WLA.call0 rfl (gKey_tr (k := ⟨#[]⟩) (e := 8) (by omega) (.inr ⟨hoy, rfl, rfl⟩)) ?_; rintro ⟨⟩)) | (guard_target =~ WLA _ _ _ _ _ (⟨_, .call ⟨.value (.func 31), _, _⟩, _, _, _, _⟩ :: _) _ _; refine WLA.cq rfl rfl (Compare_tr l1 l2) ?_) | (guard_target =~ WLA _ _ _ _ _ (⟨_, .call ⟨.value (.func 29), _, _⟩, _, _, _, _⟩ :: _) _ _; first | (refine WLA.call rfl rfl (live_tr18 _ _ _) ?_; rintro ⟨⟩) | (refine WLA.call0 rfl (live_tr18 _ _ _) ?_; rintro ⟨⟩)) | (refine WPA.ifT ?_) | (refine WPA.ifF ?_) | (refine WLA.no rfl rfl ?_) | ((first | refine WPA.dec ?_ | ((fail_if_success (guard_target =~ WLA _ _ _ _ _ _ (put1 _ _ (.bool true)) _)); (fail_if_success (guard_target =~ WLA _ _ _ _ _ _ (put1 _ _ (.bool false)) _)); refine WLA.dec rfl rfl ?_) | refine WLA.pk ?_); first | refine .inl ⟨by first | assumption | omega | with_reducible rfl | (refine fun h => h ?_; first | assumption | with_reducible rfl) | (simp only [List.length_append, List.length_cons, List.length_nil, List.length_set] <;> omega) | decide, ?_⟩ | refine .inr ⟨by first | assumption | omega | with_reducible rfl | (refine fun h => h ?_; first | assumption | with_reducible rfl) | (simp only [List.length_append, List.length_cons, List.length_nil, List.length_set] <;> omega) | decide, ?_⟩) | ((first | refine WPA.ifBt ?_ ?_ | refine WPA.ifBnf ?_ ?_); assumption) | ((first | refine WPA.ifBnt ?_ ?_ | refine WPA.ifBf ?_ ?_); assumption) | ((first | refine WPA.ifs ?_ ?_ | refine WPA.ifB ?_ ?_) <;> intro hc) | ((fail_if_success (guard_target =~ WLA _ _ _ _ _ _ (put1 _ _ (.bool true)) _)); (fail_if_success (guard_target =~ WLA _ _ _ _ _ _ (put1 _ _ (.bool false)) _)); (first | refine WLA.both rfl rfl ?_ ?_ | refine WLA.bothB rfl rfl ?_ ?_) <;> intro hg))
      exact QQ.end_ rfl () rfl fun w h => h.to
  · skip
    repeat' (first | ((first | refine WLA.m rfl rfl ?_ ?_ | refine WLA.st rfl ?_ ?_ | refine WLA.x rfl rfl ?_ (fun x => ?_) | refine WLA.x0 rfl ?_ (fun x => ?_)); first | exact trivial | exact rfl | assumption | omega | (refine ⟨?_, ?_⟩ <;> omega) | (simp only [Room, List.length_set, List.length_append, List.length_cons, List.length_nil, List.length_replicate]; omega) | decide | skip) | (refine Stp.go ?_) | (guard_target =~ WLA _ _ _ _ _ (⟨_, .call ⟨.value (.func 34), _, _⟩, _, _, _, _⟩ :: _) _ _; first | (refine WLA.call rfl rfl (gKey_tr (k := ⟨#[]⟩) (e := 8) (by omega) (.inr ⟨hox, rfl, rfl⟩)) ?_; rintro ⟨⟩) | (refine WLA.call0 rfl (gKey_tr (k := ⟨#[]⟩) (e := 8) (by omega) (.inr ⟨hox, rfl, rfl⟩)) ?_; rintro ⟨⟩)) | (guard_target =~ WLA _ _ _ _ _ (⟨_, .call ⟨.value (.func 35), _, _⟩, _, _, _, _⟩ :: _) _ _; first | (refine WLA.call rfl rfl (rKey_tr (k := ⟨#[]⟩) (e := false) (by omega) (.inr ⟨hox, rfl, rfl⟩)) ?_; rintro ⟨⟩) | (refine WLA.call0 rfl (rKey_tr (k := ⟨#[]⟩) (e := false) (by omega) (.inr ⟨hox, rfl, rfl⟩)) ?_; rintro ⟨⟩)) | (guard_target =~ WLA _ _ _ _ _ (⟨_, .call ⟨.value (.func 29), _, _⟩, _, _, _, _⟩ :: _) _ _; first | (refine WLA.call rfl rfl (live_tr18 _ _ _) ?_; rintro ⟨⟩) | (refine WLA.call0 rfl (live_tr18 _ _ _) ?_; rintro ⟨⟩)) | (refine WPA.ifT ?_) | (refine WPA.ifF ?_) | (refine WLA.no rfl rfl ?_) | ((first | refine WPA.dec ?_ | ((fail_if_success (guard_target =~ WLA _ _ _ _ _ _ (put1 _ _ (.bool true)) _)); (fail_if_success (guard_target =~ WLA _ _ _ _ _ _ (put1 _ _ (.bool false)) _)); refine WLA.dec rfl rfl ?_) | refine WLA.pk ?_); first | refine .inl ⟨by first | assumption | omega | with_reducible rfl | (refine fun h => h ?_; first | assumption | with_reducible rfl) | (simp only [List.length_append, List.length_cons, List.length_nil, List.length_set] <;> omega) | decide, ?_⟩ | refine .inr ⟨by first | assumption | omega | with_reducible rfl | (refine fun h => h ?_; first | assumption | with_reducible rfl) | (simp only [List.length_append, List.length_cons, List.length_nil, List.length_set] <;> omega) | decide, ?_⟩) | ((first | refine WPA.ifBt ?_ ?_ | refine WPA.ifBnf ?_ ?_); assumption) | ((first | refine WPA.ifBnt ?_ ?_ | refine WPA.ifBf ?_ ?_); assumption) | ((first | refine WPA.ifs ?_ ?_ | refine WPA.ifB ?_ ?_) <;> intro hc) | ((fail_if_success (guard_target =~ WLA _ _ _ _ _ _ (put1 _ _ (.bool true)) _)); (fail_if_success (guard_target =~ WLA _ _ _ _ _ _ (put1 _ _ (.bool false)) _)); (first | refine WLA.both rfl rfl ?_ ?_ | refine WLA.bothB rfl rfl ?_ ?_) <;> intro hg))
    exact QQ.end_ rfl () rfl fun w h => h.to
theorem GramKeys_law (W : World) (s : SV) (h1 : gSl gInt 8 W s) (t : SV) (h2 : gSl gInt 8 W t) : Calls Try.prog 6 #[.slice s.a s.n s.cap, .slice t.a t.n t.cap] W fun e w' => e = .returned (.bool true) ∧ Below W.heap.size W w' := by
  obtain ⟨xs, q1, _, _⟩ := h1
  obtain ⟨ys, q2, _, _⟩ := h2
  haveI := SlI.all q1
  haveI := SlI.all q2
  exact Calls.below GramKeys_tr
end Go.Proofs.Ytlodbajaoadhdaa
