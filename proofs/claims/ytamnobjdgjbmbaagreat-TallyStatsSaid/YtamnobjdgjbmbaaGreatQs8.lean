/- Texts that TallyStats_law leans on, part 8. Conditions: none. -/
import Derived.Lib.AppendStr
import Derived.Lib.Builder
import Derived.Lib.UnsafeStr
import Derived.Laws.Externs
import Derived.Test.YtamnobjdgjbmbaaGreatQs7
namespace Go.Proofs.YtamnobjdgjbmbaaGreat
open Go Go.Fw Go.RowKit
set_option linter.unusedVariables false
set_option linter.unusedSimpArgs false
set_option maxRecDepth 100000
set_option maxHeartbeats 16000000
set_option synthInstance.maxHeartbeats 200000
set_option synthInstance.maxSize 100000
attribute [local irreducible] WPA WLA WDA WDQ WDE QQ seqQ blockQ loopQ fnQ OpP OpT Tr TrP SL SLd OwnS LitS Bk BkE Ob
section
abbrev In24 (v : Int) : Prop := 0 ≤ v ∧ v ≤ 16777215
end
section
def b3 (v : Int) : List UInt8 := [UInt8.ofNat (v / 65536).toNat, UInt8.ofNat (v / 256 % 256).toNat, UInt8.ofNat (v % 256).toNat]
end
section
def keyS (xs : List Int) : ByteArray := ⟨(xs.flatMap b3).toArray⟩
end
section
def keyK (xs : List Int) : List (KInt .u8) := xs.flatMap fun v => [toK .u8 (v / 65536), toK .u8 (v / 256 % 256), toK .u8 (v % 256)]
end
section
theorem keyK_bytes : ∀ {xs : List Int}, (∀ v ∈ xs, In24 v) → keyK xs = bytesK (keyS xs)
  | [], _ => rfl
  | v :: xs, h => by
    have ih := keyK_bytes (xs := xs) fun u hu => h u (List.mem_cons_of_mem _ hu)
    have hv := h v (List.mem_cons_self ..)
    have k : ∀ z : Int, 0 ≤ z → z < 256 → kb (UInt8.ofNat z.toNat) = toK .u8 z := fun z h1 h2 => by
      unfold kb toK
      rw [UInt8.toNat_ofNat']
      show ((z.toNat % 256 : Nat) : Int) = z
      omega
    have e : bytesK (keyS (v :: xs)) = (b3 v).map kb ++ bytesK (keyS xs) := by simp [bytesK, keyS]
    rw [e, ← ih]
    unfold b3
    simp only [List.map_cons, List.map_nil]
    rw [k _ (by omega) (by omega), k _ (by omega) (by omega), k _ (by omega) (by omega)]
    rfl
end
section
theorem keyS_snoc (xs : List Int) (v : Int) : keyS (xs ++ [v]) = keyS xs ++ keyS [v] := by
  apply ByteArray.ext
  rw [ByteArray.data_append]
  simp [keyS]
end
section
theorem keyS_size (xs : List Int) : (keyS xs).size = 3 * xs.length := by
  show (xs.flatMap b3).toArray.size = _
  rw [List.size_toArray]
  induction xs with
  | nil => rfl
  | cons v xs ih => rw [List.flatMap_cons, List.length_append, ih]; simp [b3]; omega
end
section
theorem keyK_len (xs : List Int) : (keyK xs).length = 3 * xs.length := by
  induction xs with
  | nil => rfl
  | cons v xs ih =>
    have : keyK (v :: xs) = [toK .u8 (v / 65536), toK .u8 (v / 256 % 256), toK .u8 (v % 256)] ++ keyK xs := rfl
    rw [this, List.length_append, ih]; simp; omega
end
section
theorem keyK_snoc (xs : List Int) (v : Int) : keyK (xs ++ [v]) = keyK xs ++ [toK .u8 (v / 65536), toK .u8 (v / 256 % 256), toK .u8 (v % 256)] := by simp [keyK]
end
section
def okKey (xs : List Int) : Prop := ∀ v ∈ xs, In24 v
end
section
instance (xs : List Int) : Decidable (okKey xs) := inferInstanceAs (Decidable (∀ v ∈ xs, _))
end
section
variable {L : List HP} {w0 : World} {I : Foot}
theorem gKey_tr {a : SV} {xs : List Int} {k : ByteArray} {e : Int} [ha : RdS I L a Int inferInstance xs] (hn : xs.length ≤ 1000000) (h : (okKey xs ∧ k = keyS xs ∧ e = 0) ∨ (¬ okKey xs ∧ k = ⟨#[]⟩ ∧ e = 8)) :
    Tr Tryz.prog 84 #[.slice a.a a.n a.cap] (SL w0 I L) (fun _ : Unit => .tuple #[.string k, .int .i64 e]) (fun _ => SL w0 I L) := by
  refine Tr.intro Tryz.func84 rfl Tryz.ntmps84 rfl ?_
  repeat' (first | ((first | refine WLA.m rfl rfl ?_ ?_ | refine WLA.st rfl ?_ ?_ | refine WLA.x rfl rfl ?_ (fun x => ?_) | refine WLA.x0 rfl ?_ (fun x => ?_)); first | exact trivial | exact rfl | assumption | omega | (refine ⟨?_, ?_⟩ <;> omega) | (simp only [Room, lenS]; omega) | decide | skip) | (refine Stp.go ?_) | (refine WPA.ifT ?_) | (refine WPA.ifF ?_) | ((first | refine WPA.dec ?_); first | refine .inl ⟨by first | assumption | omega | with_reducible rfl | (refine fun h => h ?_; first | assumption | with_reducible rfl) | (simp only [lenS] <;> omega) | decide, ?_⟩ | refine .inr ⟨by first | assumption | omega | with_reducible rfl | (refine fun h => h ?_; first | assumption | with_reducible rfl) | (simp only [lenS] <;> omega) | decide, ?_⟩) | ((first | refine WPA.ifBt ?_ ?_ | refine WPA.ifBnf ?_ ?_); assumption) | ((first | refine WPA.ifBnt ?_ ?_ | refine WPA.ifBf ?_ ?_); assumption) | ((first | refine WPA.ifs ?_ ?_ | refine WPA.ifB ?_ ?_) <;> intro hc))
  revert x; intro x
  refine WPA.loopS (σ := Nat × SV) (fun y => [(4, .slice y.2.a y.2.n y.2.cap), (11, .slice a.a a.n a.cap), (12, .int .i64 xs.length), (13, .int .i64 y.1)]) (fun y => y.1 ≤ xs.length ∧ okKey (xs.take y.1))
    (fun y => SL w0 I (OwnS 5 y.2 (keyK (xs.take y.1)) :: L)) (fun y => xs.length - y.1) (0, x) ⟨rfl, rfl, rfl, rfl, trivial⟩ ⟨Nat.zero_le _, by intro v hv; simp at hv⟩ (fun w h => h) ?_
  rintro ⟨i, r⟩ ρ ⟨hi, hk⟩
  dsimp only at hi hk ⊢
  by_cases hlt : i < xs.length
  · have hlt' : (i : Int) < xs.length := by omega
    have ei := at_nat xs i hlt
    have hm : at_ xs (i : Int) ∈ xs := by rw [ei]; exact List.getElem_mem _
    have et : xs.take (i + 1) = xs.take i ++ [at_ xs (i : Int)] := by rw [List.take_add_one, List.getElem?_eq_getElem hlt, ei]; rfl
    have hkl : (keyK (xs.take i)).length ≤ 3000000 := by rw [keyK_len, List.length_take]; omega
    by_cases h0 : at_ xs (i : Int) < 0
    · rcases h with ⟨h1, -, -⟩ | ⟨-, rfl, rfl⟩
      · exact absurd (h1 _ hm) (by omega)
      · skip
        repeat' (first | ((first | refine WLA.m rfl rfl ?_ ?_ | refine WLA.st rfl ?_ ?_ | refine WLA.x rfl rfl ?_ (fun x => ?_) | refine WLA.x0 rfl ?_ (fun x => ?_)); first | exact trivial | exact rfl | assumption | omega | (refine ⟨?_, ?_⟩ <;> omega) | (simp only [Room, lenS]; omega) | decide | skip) | (refine Stp.go ?_) | (refine WPA.ifT ?_) | (refine WPA.ifF ?_) | (refine WLA.no rfl rfl ?_) | ((first | refine WPA.dec ?_ | ((fail_if_success (guard_target =~ WLA _ _ _ _ _ _ (put1 _ _ (.bool true)) _)); (fail_if_success (guard_target =~ WLA _ _ _ _ _ _ (put1 _ _ (.bool false)) _)); refine WLA.dec rfl rfl ?_) | refine WLA.pk ?_); first | refine .inl ⟨by first | assumption | omega | with_reducible rfl | (refine fun h => h ?_; first | assumption | with_reducible rfl) | (simp only [lenS] <;> omega) | decide, ?_⟩ | refine .inr ⟨by first | assumption | omega | with_reducible rfl | (refine fun h => h ?_; first | assumption | with_reducible rfl) | (simp only [lenS] <;> omega) | decide, ?_⟩) | ((first | refine WPA.ifBt ?_ ?_ | refine WPA.ifBnf ?_ ?_); assumption) | ((first | refine WPA.ifBnt ?_ ?_ | refine WPA.ifBf ?_ ?_); assumption) | ((first | refine WPA.ifs ?_ ?_ | refine WPA.ifB ?_ ?_) <;> intro hc) | ((fail_if_success (guard_target =~ WLA _ _ _ _ _ _ (put1 _ _ (.bool true)) _)); (fail_if_success (guard_target =~ WLA _ _ _ _ _ _ (put1 _ _ (.bool false)) _)); (first | refine WLA.both rfl rfl ?_ ?_ | refine WLA.bothB rfl rfl ?_ ?_) <;> intro hg))
        exact QQ.end_ rfl () rfl fun w h => h.to
    by_cases h1 : 16777216 ≤ at_ xs (i : Int)
    · rcases h with ⟨h2, -, -⟩ | ⟨-, rfl, rfl⟩
      · exact absurd (h2 _ hm) (by omega)
      · skip
        repeat' (first | ((first | refine WLA.m rfl rfl ?_ ?_ | refine WLA.st rfl ?_ ?_ | refine WLA.x rfl rfl ?_ (fun x => ?_) | refine WLA.x0 rfl ?_ (fun x => ?_)); first | exact trivial | exact rfl | assumption | omega | (refine ⟨?_, ?_⟩ <;> omega) | (simp only [Room, lenS]; omega) | decide | skip) | (refine Stp.go ?_) | (refine WPA.ifT ?_) | (refine WPA.ifF ?_) | (refine WLA.no rfl rfl ?_) | ((first | refine WPA.dec ?_ | ((fail_if_success (guard_target =~ WLA _ _ _ _ _ _ (put1 _ _ (.bool true)) _)); (fail_if_success (guard_target =~ WLA _ _ _ _ _ _ (put1 _ _ (.bool false)) _)); refine WLA.dec rfl rfl ?_) | refine WLA.pk ?_); first | refine .inl ⟨by first | assumption | omega | with_reducible rfl | (refine fun h => h ?_; first | assumption | with_reducible rfl) | (simp only [lenS] <;> omega) | decide, ?_⟩ | refine .inr ⟨by first | assumption | omega | with_reducible rfl | (refine fun h => h ?_; first | assumption | with_reducible rfl) | (simp only [lenS] <;> omega) | decide, ?_⟩) | ((first | refine WPA.ifBt ?_ ?_ | refine WPA.ifBnf ?_ ?_); assumption) | ((first | refine WPA.ifBnt ?_ ?_ | refine WPA.ifBf ?_ ?_); assumption) | ((first | refine WPA.ifs ?_ ?_ | refine WPA.ifB ?_ ?_) <;> intro hc) | ((fail_if_success (guard_target =~ WLA _ _ _ _ _ _ (put1 _ _ (.bool true)) _)); (fail_if_success (guard_target =~ WLA _ _ _ _ _ _ (put1 _ _ (.bool false)) _)); (first | refine WLA.both rfl rfl ?_ ?_ | refine WLA.bothB rfl rfl ?_ ?_) <;> intro hg))
        exact QQ.end_ rfl () rfl fun w h => h.to
    · have e3 : keyK (xs.take (i + 1)) = keyK (xs.take i) ++ [toK .u8 (IntKind.u8.wrap ((at_ xs (i : Int)).fdiv (2 ^ (16 : Int).toNat))), toK .u8 (IntKind.u8.wrap ((at_ xs (i : Int)).fdiv (2 ^ (8 : Int).toNat))), toK .u8 (IntKind.u8.wrap (at_ xs (i : Int)))] := by
        rw [et, keyK_snoc]
        congr 1
        generalize at_ xs (i : Int) = v at h0 h1
        have p1 : v.fdiv (2 ^ (16 : Int).toNat) = v / 65536 := by rw [Int.fdiv_eq_ediv_of_nonneg _ (by decide)]; rfl
        have p2 : v.fdiv (2 ^ (8 : Int).toNat) = v / 256 := by rw [Int.fdiv_eq_ediv_of_nonneg _ (by decide)]; rfl
        rw [p1, p2, IntKind.wrap_u8, IntKind.wrap_u8, IntKind.wrap_u8, show v / 65536 % 256 = v / 65536 by omega]
      have hok : okKey (xs.take (i + 1)) := by
        rw [et]; intro v hv
        rcases List.mem_append.1 hv with hv | hv
        · exact hk v hv
        · rw [List.mem_singleton.1 hv]; exact ⟨by omega, by omega⟩
      repeat' (first | (guard_target =~ WLA _ _ _ _ _ (⟨_, .convert _ _ _, _, _, _, _⟩ :: _) _ _; refine WLA.m (h := convW) rfl rfl trivial ?_) | (guard_target =~ WDQ _ _ _ _ _ _ _ ⟨_, .convert _ _ _, _, _, _, _⟩ _ _ _; refine WDQ.m (h := convW) rfl rfl trivial ?_) | (guard_target =~ WDP _ _ _ _ _ _ _ ⟨_, .convert _ _ _, _, _, _, _⟩ _ _ _; refine WDP.m (h := convW) rfl rfl trivial ?_) | ((first | refine WLA.m rfl rfl ?_ ?_ | refine WLA.st rfl ?_ ?_ | refine WLA.x rfl rfl ?_ (fun x => ?_) | refine WLA.x0 rfl ?_ (fun x => ?_)); first | exact trivial | exact rfl | assumption | omega | (refine ⟨?_, ?_⟩ <;> omega) | (simp only [Room, lenS]; omega) | decide | skip) | (refine Stp.go ?_) | (refine WPA.ifT ?_) | (refine WPA.ifF ?_) | (refine WLA.no rfl rfl ?_) | ((first | refine WPA.dec ?_ | ((fail_if_success (guard_target =~ WLA _ _ _ _ _ _ (put1 _ _ (.bool true)) _)); (fail_if_success (guard_target =~ WLA _ _ _ _ _ _ (put1 _ _ (.bool false)) _)); refine WLA.dec rfl rfl ?_) | refine WLA.pk ?_); first | refine .inl ⟨by first | assumption | omega | with_reducible rfl | (refine fun h => h ?_; first | assumption | with_reducible rfl) | (simp only [lenS] <;> omega) | decide, ?_⟩ | refine .inr ⟨by first | assumption | omega | with_reducible rfl | (refine fun h => h ?_; first | assumption | with_reducible rfl) | (simp only [lenS] <;> omega) | decide, ?_⟩) | ((first | refine WPA.ifBt ?_ ?_ | refine WPA.ifBnf ?_ ?_); assumption) | ((first | refine WPA.ifBnt ?_ ?_ | refine WPA.ifBf ?_ ?_); assumption) | ((first | refine WPA.ifs ?_ ?_ | refine WPA.ifB ?_ ?_) <;> intro hc) | ((fail_if_success (guard_target =~ WLA _ _ _ _ _ _ (put1 _ _ (.bool true)) _)); (fail_if_success (guard_target =~ WLA _ _ _ _ _ _ (put1 _ _ (.bool false)) _)); (first | refine WLA.both rfl rfl ?_ ?_ | refine WLA.bothB rfl rfl ?_ ?_) <;> intro hg))
      refine QQ.loopS (i + 1, x) ⟨rfl, rfl, rfl, rfl, trivial⟩ ⟨hlt, hok⟩ (by dsimp only; omega) (fun w h => ?_)
      dsimp only
      rw [e3]
      exact h.to
  · have hlt' : ¬ (i : Int) < xs.length := by omega
    rw [List.take_of_length_le (by omega)] at hk ⊢
    rcases h with ⟨h1, rfl, rfl⟩ | ⟨h1, -, -⟩
    · haveI : IsBytes (keyK xs) (keyS xs) := ⟨keyK_bytes hk⟩
      repeat' (first | ((first | refine WLA.m rfl rfl ?_ ?_ | refine WLA.st rfl ?_ ?_ | refine WLA.x rfl rfl ?_ (fun x => ?_) | refine WLA.x0 rfl ?_ (fun x => ?_)); first | exact trivial | exact rfl | assumption | omega | (refine ⟨?_, ?_⟩ <;> omega) | (simp only [Room, lenS]; omega) | decide | skip) | (refine Stp.go ?_) | (refine WPA.ifT ?_) | (refine WPA.ifF ?_) | ((first | refine WPA.dec ?_); first | refine .inl ⟨by first | assumption | omega | with_reducible rfl | (refine fun h => h ?_; first | assumption | with_reducible rfl) | (simp only [lenS] <;> omega) | decide, ?_⟩ | refine .inr ⟨by first | assumption | omega | with_reducible rfl | (refine fun h => h ?_; first | assumption | with_reducible rfl) | (simp only [lenS] <;> omega) | decide, ?_⟩) | ((first | refine WPA.ifBt ?_ ?_ | refine WPA.ifBnf ?_ ?_); assumption) | ((first | refine WPA.ifBnt ?_ ?_ | refine WPA.ifBf ?_ ?_); assumption) | ((first | refine WPA.ifs ?_ ?_ | refine WPA.ifB ?_ ?_) <;> intro hc))
      exact QQ.end_ rfl () rfl fun w h => h.to
    · exact absurd hk h1
end
section
variable {L : List HP} {w0 : World} {I : Foot}
theorem rKey_tr {a : SV} {xs : List Int} {k : ByteArray} {e : Bool} [ha : RdS I L a Int inferInstance xs] (hn : xs.length ≤ 1000000) (h : (okKey xs ∧ k = keyS xs ∧ e = true) ∨ (¬ okKey xs ∧ k = ⟨#[]⟩ ∧ e = false)) :
    Tr Tryz.prog 38 #[.slice a.a a.n a.cap] (SL w0 I L) (fun _ : Unit => .tuple #[.string k, .bool e]) (fun _ => SL w0 I L) := by
  refine Tr.intro Tryz.func38 rfl Tryz.ntmps38 rfl ?_
  repeat' (first | ((first | refine WLA.m rfl rfl ?_ ?_ | refine WLA.st rfl ?_ ?_ | refine WLA.x rfl rfl ?_ (fun x => ?_) | refine WLA.x0 rfl ?_ (fun x => ?_)); first | exact trivial | exact rfl | assumption | omega | (refine ⟨?_, ?_⟩ <;> omega) | (simp only [Room, lenS]; omega) | decide | skip) | (refine Stp.go ?_) | (refine WPA.ifT ?_) | (refine WPA.ifF ?_) | ((first | refine WPA.dec ?_); first | refine .inl ⟨by first | assumption | omega | with_reducible rfl | (refine fun h => h ?_; first | assumption | with_reducible rfl) | (simp only [lenS] <;> omega) | decide, ?_⟩ | refine .inr ⟨by first | assumption | omega | with_reducible rfl | (refine fun h => h ?_; first | assumption | with_reducible rfl) | (simp only [lenS] <;> omega) | decide, ?_⟩) | ((first | refine WPA.ifBt ?_ ?_ | refine WPA.ifBnf ?_ ?_); assumption) | ((first | refine WPA.ifBnt ?_ ?_ | refine WPA.ifBf ?_ ?_); assumption) | ((first | refine WPA.ifs ?_ ?_ | refine WPA.ifB ?_ ?_) <;> intro hc))
  refine WPA.loopS (σ := Nat) (fun i => [(0, .slice a.a a.n a.cap), (4, .string (keyS (xs.take i))), (5, .int .i64 i)]) (fun i => i ≤ xs.length ∧ okKey (xs.take i))
    (fun i => SL w0 I L) (fun i => xs.length - i) 0 ⟨rfl, rfl, rfl, trivial⟩ ⟨Nat.zero_le _, by intro v hv; simp at hv⟩ (fun w h => h.to) ?_
  rintro i ρ ⟨hi, hk⟩
  by_cases hlt : i < xs.length
  · have hlt' : (i : Int) < xs.length := by omega
    have ei := at_nat xs i hlt
    have hm : at_ xs (i : Int) ∈ xs := by rw [ei]; exact List.getElem_mem _
    have et : xs.take (i + 1) = xs.take i ++ [at_ xs (i : Int)] := by rw [List.take_add_one, List.getElem?_eq_getElem hlt, ei]; rfl
    have hsz : (keyS (xs.take i)).size + (keyS [at_ xs (i : Int)]).size ≤ 9223372036854775807 := by rw [keyS_size, keyS_size, List.length_take]; simp; omega
    by_cases h0 : at_ xs (i : Int) < 0
    · rcases h with ⟨h1, -, -⟩ | ⟨-, rfl, rfl⟩
      · exact absurd (h1 _ hm) (by omega)
      · skip
        repeat' (first | ((first | refine WLA.m rfl rfl ?_ ?_ | refine WLA.st rfl ?_ ?_ | refine WLA.x rfl rfl ?_ (fun x => ?_) | refine WLA.x0 rfl ?_ (fun x => ?_)); first | exact trivial | exact rfl | assumption | omega | (refine ⟨?_, ?_⟩ <;> omega) | (simp only [Room, lenS]; omega) | decide | skip) | (refine Stp.go ?_) | (refine WPA.ifT ?_) | (refine WPA.ifF ?_) | (refine WLA.no rfl rfl ?_) | ((first | refine WPA.dec ?_ | ((fail_if_success (guard_target =~ WLA _ _ _ _ _ _ (put1 _ _ (.bool true)) _)); (fail_if_success (guard_target =~ WLA _ _ _ _ _ _ (put1 _ _ (.bool false)) _)); refine WLA.dec rfl rfl ?_) | refine WLA.pk ?_); first | refine .inl ⟨by first | assumption | omega | with_reducible rfl | (refine fun h => h ?_; first | assumption | with_reducible rfl) | (simp only [lenS] <;> omega) | decide, ?_⟩ | refine .inr ⟨by first | assumption | omega | with_reducible rfl | (refine fun h => h ?_; first | assumption | with_reducible rfl) | (simp only [lenS] <;> omega) | decide, ?_⟩) | ((first | refine WPA.ifBt ?_ ?_ | refine WPA.ifBnf ?_ ?_); assumption) | ((first | refine WPA.ifBnt ?_ ?_ | refine WPA.ifBf ?_ ?_); assumption) | ((first | refine WPA.ifs ?_ ?_ | refine WPA.ifB ?_ ?_) <;> intro hc) | ((fail_if_success (guard_target =~ WLA _ _ _ _ _ _ (put1 _ _ (.bool true)) _)); (fail_if_success (guard_target =~ WLA _ _ _ _ _ _ (put1 _ _ (.bool false)) _)); (first | refine WLA.both rfl rfl ?_ ?_ | refine WLA.bothB rfl rfl ?_ ?_) <;> intro hg))
        exact QQ.end_ rfl () rfl fun w h => h.to
    by_cases h1 : 16777215 < at_ xs (i : Int)
    · rcases h with ⟨h2, -, -⟩ | ⟨-, rfl, rfl⟩
      · exact absurd (h2 _ hm) (by omega)
      · skip
        repeat' (first | ((first | refine WLA.m rfl rfl ?_ ?_ | refine WLA.st rfl ?_ ?_ | refine WLA.x rfl rfl ?_ (fun x => ?_) | refine WLA.x0 rfl ?_ (fun x => ?_)); first | exact trivial | exact rfl | assumption | omega | (refine ⟨?_, ?_⟩ <;> omega) | (simp only [Room, lenS]; omega) | decide | skip) | (refine Stp.go ?_) | (refine WPA.ifT ?_) | (refine WPA.ifF ?_) | (refine WLA.no rfl rfl ?_) | ((first | refine WPA.dec ?_ | ((fail_if_success (guard_target =~ WLA _ _ _ _ _ _ (put1 _ _ (.bool true)) _)); (fail_if_success (guard_target =~ WLA _ _ _ _ _ _ (put1 _ _ (.bool false)) _)); refine WLA.dec rfl rfl ?_) | refine WLA.pk ?_); first | refine .inl ⟨by first | assumption | omega | with_reducible rfl | (refine fun h => h ?_; first | assumption | with_reducible rfl) | (simp only [lenS] <;> omega) | decide, ?_⟩ | refine .inr ⟨by first | assumption | omega | with_reducible rfl | (refine fun h => h ?_; first | assumption | with_reducible rfl) | (simp only [lenS] <;> omega) | decide, ?_⟩) | ((first | refine WPA.ifBt ?_ ?_ | refine WPA.ifBnf ?_ ?_); assumption) | ((first | refine WPA.ifBnt ?_ ?_ | refine WPA.ifBf ?_ ?_); assumption) | ((first | refine WPA.ifs ?_ ?_ | refine WPA.ifB ?_ ?_) <;> intro hc) | ((fail_if_success (guard_target =~ WLA _ _ _ _ _ _ (put1 _ _ (.bool true)) _)); (fail_if_success (guard_target =~ WLA _ _ _ _ _ _ (put1 _ _ (.bool false)) _)); (first | refine WLA.both rfl rfl ?_ ?_ | refine WLA.bothB rfl rfl ?_ ?_) <;> intro hg))
        exact QQ.end_ rfl () rfl fun w h => h.to
    · have hv0 : 0 ≤ at_ xs (i : Int) := by omega
      have hb : ∀ u ∈ [at_ xs (i : Int)], In24 u := fun u hu => by rw [List.mem_singleton.1 hu]; exact ⟨by omega, by omega⟩
      have hok : okKey (xs.take (i + 1)) := by
        rw [et]; intro v hv
        rcases List.mem_append.1 hv with hv | hv
        · exact hk v hv
        · exact hb v hv
      haveI : IsBytes [toK .u8 (at_ xs (i : Int) / 65536), toK .u8 (at_ xs (i : Int) / 256 % 256), toK .u8 (at_ xs (i : Int) % 256)] (keyS [at_ xs (i : Int)]) := ⟨keyK_bytes hb⟩
      repeat' (first | ((first | refine WLA.m rfl rfl ?_ ?_ | refine WDQ.m rfl rfl ?_ ?_ | refine WLA.st rfl ?_ ?_ | refine WLA.x rfl rfl ?_ (fun x => ?_) | refine WLA.x0 rfl ?_ (fun x => ?_)); first | exact trivial | exact rfl | assumption | omega | (refine ⟨?_, ?_⟩ <;> omega) | (simp only [Room, lenS]; omega) | decide | skip) | (refine Stp.go ?_) | (refine WPA.ifT ?_) | (refine WPA.ifF ?_) | (refine WLA.no rfl rfl ?_) | ((first | refine WPA.dec ?_ | ((fail_if_success (guard_target =~ WLA _ _ _ _ _ _ (put1 _ _ (.bool true)) _)); (fail_if_success (guard_target =~ WLA _ _ _ _ _ _ (put1 _ _ (.bool false)) _)); refine WLA.dec rfl rfl ?_) | refine WLA.pk ?_); first | refine .inl ⟨by first | assumption | omega | with_reducible rfl | (refine fun h => h ?_; first | assumption | with_reducible rfl) | (simp only [lenS] <;> omega) | decide, ?_⟩ | refine .inr ⟨by first | assumption | omega | with_reducible rfl | (refine fun h => h ?_; first | assumption | with_reducible rfl) | (simp only [lenS] <;> omega) | decide, ?_⟩) | ((first | refine WPA.ifBt ?_ ?_ | refine WPA.ifBnf ?_ ?_); assumption) | ((first | refine WPA.ifBnt ?_ ?_ | refine WPA.ifBf ?_ ?_); assumption) | ((first | refine WPA.ifs ?_ ?_ | refine WPA.ifB ?_ ?_) <;> intro hc) | ((fail_if_success (guard_target =~ WLA _ _ _ _ _ _ (put1 _ _ (.bool true)) _)); (fail_if_success (guard_target =~ WLA _ _ _ _ _ _ (put1 _ _ (.bool false)) _)); (first | refine WLA.both rfl rfl ?_ ?_ | refine WLA.bothB rfl rfl ?_ ?_) <;> intro hg) | (guard_target =~ WPA _ _ _ (.region 7 _ true) _ _ _; refine WPA.drawT 22 (.q 0 (.q 1 (.q 2 (.q 3 (.q 4 (.q 5 (.q 6 (.q 7 (.q 8 (.q 9 (.q 10 (.q 11 (.q 12 (.q 13 (.q 14 (.q 15 (.q 16 (.q 17 (.q 18 (.q 19 (.e 20 (.q 21 .fin)))))))))))))))))))))) mixed ?_ ?_; kernel_rfl) | (refine WDA.finish (tl := [⟨_, _, _, _, _, _⟩, ⟨_, _, _, _, _, _⟩]) rfl ?_) | (refine WDQ.see rfl ?_) | (refine WDE.see rfl ?_) | (refine WDE.alloc rfl rfl (fun w h => h) (fun x => ?_)) | (refine WDE.stE rfl ?_) | (refine WDE.x rfl rfl ?_ ?_ (fun x => ?_); rotate_left 1; (intro x w h; first | exact h | exact Ent.drop1.sl h | exact SL.unI h | exact SL.to h); rotate_left 1; first | exact trivial | exact rfl | assumption | omega | (refine ⟨?_, ?_⟩ <;> omega) | (simp only [Room, lenS]; omega) | decide | skip))
      refine QQ.loopS (i + 1) ⟨rfl, ?_, rfl, trivial⟩ ⟨hlt, hok⟩ (by omega) (fun w h => h.to)
      show Value.string _ = Value.string _
      rw [et, keyS_snoc]
  · have hlt' : ¬ (i : Int) < xs.length := by omega
    rw [List.take_of_length_le (by omega)] at hk ⊢
    rcases h with ⟨h1, rfl, rfl⟩ | ⟨h1, -, -⟩
    · skip
      repeat' (first | ((first | refine WLA.m rfl rfl ?_ ?_ | refine WLA.st rfl ?_ ?_ | refine WLA.x rfl rfl ?_ (fun x => ?_) | refine WLA.x0 rfl ?_ (fun x => ?_)); first | exact trivial | exact rfl | assumption | omega | (refine ⟨?_, ?_⟩ <;> omega) | (simp only [Room, lenS]; omega) | decide | skip) | (refine Stp.go ?_) | (refine WPA.ifT ?_) | (refine WPA.ifF ?_) | ((first | refine WPA.dec ?_); first | refine .inl ⟨by first | assumption | omega | with_reducible rfl | (refine fun h => h ?_; first | assumption | with_reducible rfl) | (simp only [lenS] <;> omega) | decide, ?_⟩ | refine .inr ⟨by first | assumption | omega | with_reducible rfl | (refine fun h => h ?_; first | assumption | with_reducible rfl) | (simp only [lenS] <;> omega) | decide, ?_⟩) | ((first | refine WPA.ifBt ?_ ?_ | refine WPA.ifBnf ?_ ?_); assumption) | ((first | refine WPA.ifBnt ?_ ?_ | refine WPA.ifBf ?_ ?_); assumption) | ((first | refine WPA.ifs ?_ ?_ | refine WPA.ifB ?_ ?_) <;> intro hc))
      exact QQ.end_ rfl () rfl fun w h => h.to
    · exact absurd hk h1
end
section
variable {L : List HP} {w0 : World} {I : Foot}
def par3 (t : ByteArray) (j : Nat) : Int := bt t ((3 * j : Nat) : Int) * 65536 + bt t (((3 * j : Nat) : Int) + 1) * 256 + bt t (((3 * j : Nat) : Int) + 2)
end
section
variable {L : List HP} {w0 : World} {I : Foot}
def parL (t : ByteArray) : List Int := (List.range (t.size / 3)).map (par3 t)
end
section
variable {L : List HP} {w0 : World} {I : Foot}
theorem gParse_ok {t : ByteArray} (h : t.size % 3 = 0) (hn : t.size ≤ 1000000) :
    Tr Tryz.prog 81 #[.string t] (SL w0 I L) (fun r : SV => .tuple #[.slice r.a r.n r.cap, .int .i64 0]) (fun r => SL w0 I (OwnS 3 r (parL t) :: L)) := by
  refine Tr.intro Tryz.func81 rfl Tryz.ntmps81 rfl ?_
  have h0 : ¬ (t.size : Int) % 3 ≠ 0 := by omega
  repeat' (first | ((first | refine WLA.m rfl rfl ?_ ?_ | refine WLA.st rfl ?_ ?_ | refine WLA.x rfl rfl ?_ (fun x => ?_) | refine WLA.x0 rfl ?_ (fun x => ?_)); first | exact trivial | exact rfl | assumption | omega | (refine ⟨?_, ?_⟩ <;> omega) | (simp only [Room, lenS]; omega) | decide | skip) | (refine Stp.go ?_) | (refine WPA.ifT ?_) | (refine WPA.ifF ?_) | ((first | refine WPA.dec ?_); first | refine .inl ⟨by first | assumption | omega | with_reducible rfl | (refine fun h => h ?_; first | assumption | with_reducible rfl) | (simp only [lenS] <;> omega) | decide, ?_⟩ | refine .inr ⟨by first | assumption | omega | with_reducible rfl | (refine fun h => h ?_; first | assumption | with_reducible rfl) | (simp only [lenS] <;> omega) | decide, ?_⟩) | ((first | refine WPA.ifBt ?_ ?_ | refine WPA.ifBnf ?_ ?_); assumption) | ((first | refine WPA.ifBnt ?_ ?_ | refine WPA.ifBf ?_ ?_); assumption) | ((first | refine WPA.ifs ?_ ?_ | refine WPA.ifB ?_ ?_) <;> intro hc))
  revert x; intro x
  refine WPA.loopS (σ := Nat × SV) (fun y => [(0, .string t), (4, .slice y.2.a y.2.n y.2.cap), (5, .int .i64 ((3 * y.1 : Nat) : Int))]) (fun y => 3 * y.1 ≤ t.size)
    (fun y => SL w0 I (OwnS 3 y.2 ((List.range y.1).map (par3 t)) :: L)) (fun y => t.size - y.1) (0, x) ⟨rfl, rfl, rfl, trivial⟩ (Nat.zero_le _) (fun w h => h) ?_
  rintro ⟨j, r⟩ ρ hj
  dsimp only at hj ⊢
  by_cases hlt : 3 * j < t.size
  · have hlt' : ((3 * j : Nat) : Int) < (t.size : Int) := by omega
    have q0 := bt_range t ((3 * j : Nat) : Int)
    have q1 := bt_range t (((3 * j : Nat) : Int) + 1)
    have q2 := bt_range t (((3 * j : Nat) : Int) + 2)
    have e3 : Go.bits .or .i64 (Go.bits .or .i64 (bt t ((3 * j : Nat) : Int) * 65536) (bt t (((3 * j : Nat) : Int) + 1) * 256)) (bt t (((3 * j : Nat) : Int) + 2)) = par3 t j := by
      have i1 := or_i64 (a := bt t ((3 * j : Nat) : Int) * 65536) (b := bt t (((3 * j : Nat) : Int) + 1) * 256) 16 (by omega) (by omega) (by omega) (by decide)
      rw [i1, or_i64 8 (by omega) (by omega) (by omega) (by decide)]
      rfl
    have hll : ((List.range j).map (par3 t)).length ≤ 1000000 := by rw [List.length_map, List.length_range]; omega
    repeat' (first | ((first | refine WLA.m rfl rfl ?_ ?_ | refine WDQ.m rfl rfl ?_ ?_ | refine WLA.st rfl ?_ ?_ | refine WLA.x rfl rfl ?_ (fun x => ?_) | refine WLA.x0 rfl ?_ (fun x => ?_)); first | exact trivial | exact rfl | assumption | omega | (refine ⟨?_, ?_⟩ <;> omega) | (simp only [Room, lenS]; omega) | decide | skip) | (refine Stp.go ?_) | (refine WPA.ifT ?_) | (refine WPA.ifF ?_) | ((first | refine WPA.dec ?_); first | refine .inl ⟨by first | assumption | omega | with_reducible rfl | (refine fun h => h ?_; first | assumption | with_reducible rfl) | (simp only [lenS] <;> omega) | decide, ?_⟩ | refine .inr ⟨by first | assumption | omega | with_reducible rfl | (refine fun h => h ?_; first | assumption | with_reducible rfl) | (simp only [lenS] <;> omega) | decide, ?_⟩) | ((first | refine WPA.ifBt ?_ ?_ | refine WPA.ifBnf ?_ ?_); assumption) | ((first | refine WPA.ifBnt ?_ ?_ | refine WPA.ifBf ?_ ?_); assumption) | ((first | refine WPA.ifs ?_ ?_ | refine WPA.ifB ?_ ?_) <;> intro hc) | (guard_target =~ WPA _ _ _ (.region 7 _ true) _ _ _; refine WPA.drawT 20 (.q 0 (.q 1 (.q 2 (.q 3 (.q 4 (.q 5 (.q 6 (.q 7 (.q 8 (.q 9 (.q 10 (.q 11 (.q 12 (.q 13 (.q 14 (.q 15 (.q 16 (.q 17 (.q 18 (.e 19 .fin)))))))))))))))))))) mixed ?_ ?_; kernel_rfl) | (refine WDA.finish (tl := [⟨_, _, _, _, _, _⟩, ⟨_, _, _, _, _, _⟩]) rfl ?_) | (refine WDQ.see rfl ?_) | (refine WDE.see rfl ?_) | (refine WDE.alloc rfl rfl (fun w h => h) (fun x => ?_)) | (refine WDE.stE rfl ?_) | (refine WDE.x rfl rfl ?_ ?_ (fun x => ?_); rotate_left 1; (intro x w h; first | exact h | exact Ent.drop1.sl h | exact SL.unI h | exact SL.to h); rotate_left 1; first | exact trivial | exact rfl | assumption | omega | (refine ⟨?_, ?_⟩ <;> omega) | (simp only [Room, lenS]; omega) | decide | skip))
    refine QQ.loopS (j + 1, x) ⟨rfl, rfl, rfl, trivial⟩ (by dsimp only; omega) (by dsimp only; omega) (fun w h => ?_)
    dsimp only
    rw [List.range_succ, List.map_append, List.map_cons, List.map_nil, ← e3]
    exact h.to
  · have hlt' : ¬ ((3 * j : Nat) : Int) < (t.size : Int) := by omega
    have ej : j = t.size / 3 := by omega
    repeat' (first | ((first | refine WLA.m rfl rfl ?_ ?_ | refine WLA.st rfl ?_ ?_ | refine WLA.x rfl rfl ?_ (fun x => ?_) | refine WLA.x0 rfl ?_ (fun x => ?_)); first | exact trivial | exact rfl | assumption | omega | (refine ⟨?_, ?_⟩ <;> omega) | (simp only [Room, lenS]; omega) | decide | skip) | (refine Stp.go ?_) | (refine WPA.ifT ?_) | (refine WPA.ifF ?_) | ((first | refine WPA.dec ?_); first | refine .inl ⟨by first | assumption | omega | with_reducible rfl | (refine fun h => h ?_; first | assumption | with_reducible rfl) | (simp only [lenS] <;> omega) | decide, ?_⟩ | refine .inr ⟨by first | assumption | omega | with_reducible rfl | (refine fun h => h ?_; first | assumption | with_reducible rfl) | (simp only [lenS] <;> omega) | decide, ?_⟩) | ((first | refine WPA.ifBt ?_ ?_ | refine WPA.ifBnf ?_ ?_); assumption) | ((first | refine WPA.ifBnt ?_ ?_ | refine WPA.ifBf ?_ ?_); assumption) | ((first | refine WPA.ifs ?_ ?_ | refine WPA.ifB ?_ ?_) <;> intro hc))
    refine QQ.end_ rfl r rfl fun w h => ?_
    unfold parL
    rw [← ej]
    exact h.to
end
section
theorem u8n {p : Int} (h : 0 ≤ p ∧ p < 256) : (UInt8.ofNat p.toNat).toNat = p.toNat := by rw [UInt8.toNat_ofNat']; exact Nat.mod_eq_of_lt (by omega)
end
section
theorem u8eq {p q : Int} (h : 0 ≤ p ∧ p < 256) (k : 0 ≤ q ∧ q < 256) : (UInt8.ofNat p.toNat = UInt8.ofNat q.toNat) ↔ p = q := by
  rw [← UInt8.toNat_inj, u8n h, u8n k]; omega
end
section
theorem keyS_inj : ∀ {a b : List Int}, okKey a → okKey b → a.flatMap b3 = b.flatMap b3 → a = b
  | [], [], _, _, _ => rfl
  | [], _ :: _, _, _, h => by simp [b3] at h
  | _ :: _, [], _, _, h => by simp [b3] at h
  | x :: a, y :: b, ha, hb, h => by
    have hx := ha x (List.mem_cons_self ..)
    have hy := hb y (List.mem_cons_self ..)
    have e : ∀ (v : Int) (l : List Int), (v :: l).flatMap b3 = UInt8.ofNat (v / 65536).toNat :: UInt8.ofNat (v / 256 % 256).toNat :: UInt8.ofNat (v % 256).toNat :: l.flatMap b3 := fun v l => rfl
    rw [e, e] at h
    simp only [List.cons.injEq] at h
    obtain ⟨h1, h2, h3, h4⟩ := h
    rw [u8eq (by omega) (by omega)] at h1 h2 h3
    rw [keyS_inj (fun v hv => ha v (List.mem_cons_of_mem _ hv)) (fun v hv => hb v (List.mem_cons_of_mem _ hv)) h4, show x = y by omega]
end
section
theorem bt_get {t : ByteArray} {i : Nat} (h : i < t.data.toList.length) : bt t (i : Int) = ((t.data.toList[i]).toNat : Int) := by
  have h2 : (i : Int).toNat < t.size := by rw [Int.toNat_natCast]; simpa using h
  unfold bt
  rw [dif_pos h2]
  simp only [Int.toNat_natCast]
  rfl
end
section
theorem par3_range (t : ByteArray) (j : Nat) : In24 (par3 t j) := by
  have q0 := bt_range t ((3 * j : Nat) : Int)
  have q1 := bt_range t (((3 * j : Nat) : Int) + 1)
  have q2 := bt_range t (((3 * j : Nat) : Int) + 2)
  unfold par3
  exact ⟨by omega, by omega⟩
end
section
theorem parL_ok (t : ByteArray) : okKey (parL t) := by
  intro v hv
  obtain ⟨j, -, rfl⟩ := List.mem_map.1 hv
  exact par3_range t j
end
section
theorem b3_par {t : ByteArray} {j : Nat} (h : 3 * j + 2 < t.data.toList.length) : b3 (par3 t j) = [t.data.toList[3 * j], t.data.toList[3 * j + 1], t.data.toList[3 * j + 2]] := by
  have e0 := bt_get (t := t) (i := 3 * j) (by omega)
  have e1 := bt_get (t := t) (i := 3 * j + 1) (by omega)
  have e2 := bt_get (t := t) (i := 3 * j + 2) h
  have e1' : ((3 * j + 1 : Nat) : Int) = ((3 * j : Nat) : Int) + 1 := by omega
  have e2' : ((3 * j + 2 : Nat) : Int) = ((3 * j : Nat) : Int) + 2 := by omega
  rw [e1'] at e1
  rw [e2'] at e2
  have l0 := (t.data.toList[3 * j]).toNat_lt
  have l1 := (t.data.toList[3 * j + 1]).toNat_lt
  have l2 := (t.data.toList[3 * j + 2]).toNat_lt
  have k : ∀ (u : UInt8) (z : Int), z = (u.toNat : Int) → UInt8.ofNat z.toNat = u := fun u z hz => by
    subst hz; rw [Int.toNat_natCast]; exact UInt8.ofNat_toNat
  unfold b3 par3
  rw [e0, e1, e2]
  congr 1
  · exact k _ _ (by omega)
  congr 1
  · exact k _ _ (by omega)
  congr 1
  exact k _ _ (by omega)
end
section
theorem keyS_par {t : ByteArray} (h : t.size % 3 = 0) : keyS (parL t) = t := by
  have hl : t.data.toList.length = t.size := Array.length_toList
  have key : ∀ n : Nat, 3 * n ≤ t.size → ((List.range n).map (par3 t)).flatMap b3 = t.data.toList.take (3 * n) := by
    intro n
    induction n with
    | zero => intro _; simp
    | succ n ih =>
      intro hn
      rw [List.range_succ, List.map_append, List.flatMap_append, ih (by omega), List.map_cons, List.map_nil, List.flatMap_cons, List.flatMap_nil, List.append_nil, b3_par (by omega)]
      rw [show 3 * (n + 1) = 3 * n + 1 + 1 + 1 by omega, List.take_add_one, List.take_add_one, List.take_add_one, List.getElem?_eq_getElem (by omega), List.getElem?_eq_getElem (by omega), List.getElem?_eq_getElem (by omega)]
      simp
  apply ByteArray.ext
  apply Array.toList_inj.1
  show (parL t).flatMap b3 = _
  unfold parL
  rw [key _ (by omega), List.take_of_length_le (by omega)]
end
section
theorem parL_key {xs : List Int} (h : okKey xs) : parL (keyS xs) = xs := by
  have h1 := keyS_par (t := keyS xs) (by rw [keyS_size]; omega)
  refine keyS_inj (parL_ok _) h ?_
  have := congrArg (fun t : ByteArray => t.data.toList) h1
  simpa [keyS] using this
end
end Go.Proofs.YtamnobjdgjbmbaaGreat
namespace Go.Fw
open Go Go.RowKit Go.Lib
set_option linter.unusedVariables false
set_option linter.unusedSimpArgs false
section
variable {P : Program} {ρ : Env} {ty : TypeId} {w0 : World} {H : HeapP} {L : List (Nat × Obj)}
theorem T_appStr {s x : Operand} {t u e : TypeId} {z : Value} {bytes : Nat} (ht : P.underlying t = some (.slice e)) (hu : P.underlying u = some .string) (hi : (P.info? e).map (fun i => (i.zero, i.size, i.bytes)) = some (some z, 1, bytes)) (hzs : z.cells.size = 1)
    {v : Value} {n : Nat} {xs : List Value} {R : List (Nat × Obj)} (hs : evalE ρ s = v) (hown : OwnR e 1 v n xs R) {b : ByteArray} (hx : evalE ρ x = .string b) (h63 : n + b.size ≤ maxLen) (hbytes : (n + b.size) * bytes ≤ 140737488355328) :
    OpT P ρ (.call { callee := .builtin .append, args := #[s, x], argTypes := #[t, u] }) ty (St w0 H (R ++ L))
      fun v' w => ∃ q : Value × List (Nat × Obj), v' = q.1 ∧ (OwnR e 1 q.1 (n + b.size) (xs ++ strCells b) q.2 ∧ St w0 H (q.2 ++ L) w) := by
  obtain ⟨i, hi', hzz⟩ := Option.map_eq_some_iff.1 hi
  simp only [Prod.mk.injEq] at hzz
  obtain ⟨hz, h1, rfl⟩ := hzz
  have hl := strCells_length b
  have hxl : xs.length = n := by simpa using hown.1
  have hsmall : n + b.size ≤ 9223372036854775807 := by simp only [maxLen] at h63; omega
  have hlen : (xs ++ strCells b).length = (n + b.size) * 1 := by rw [List.length_append, hxl, hl, Nat.mul_one]
  intro d pos af g w hw
  have key : ∃ v' w', (Builtin.append_ #[t, u] ty #[v, .string b]).run P w = .ok v' w' ∧ ∃ R', OwnR e 1 v' (n + b.size) (xs ++ strCells b) R' ∧ St w0 H (R' ++ L) w' := by
    have grown : ∀ (old : Nat), old < n + b.size → St w0 H L w →
        ∃ R', OwnR e 1 (.slice (some ⟨w.heap.size, 0, none⟩) (n + b.size) (grownCap w (n + b.size) old e)) (n + b.size) (xs ++ strCells b) R' ∧
          St w0 H (R' ++ L) (w.drew.alloc (.cells (xs.toArray ++ (strCells b).toArray ++ Builtin.zeroCells z.cells (grownCap w (n + b.size) old e - (n + b.size))) e)) := by
      intro old ho hst
      have hge := grownCap_ge w (n + b.size) old e
      have hcm : grownCap w (n + b.size) old e ≤ maxLen := grownCap_le_maxLen w (n + b.size) old e h63
      refine ⟨[(w.heap.size, .cells (xs.toArray ++ (strCells b).toArray ++ Builtin.zeroCells z.cells (grownCap w (n + b.size) old e - (n + b.size))) e (0, 0))], ⟨hlen, .inr ⟨w.heap.size, _, _, rfl, hge, hcm, ?_, ?_, rfl⟩⟩, ?_⟩
      · simp only [Array.size_append, List.size_toArray, size_zeroCells, hzs, hxl, hl]
        omega
      · simp only [Array.toList_append, List.append_assoc]
        rw [← List.append_assoc, ← hlen]
        exact List.take_left
      · exact (hst.drawn (w.drawn + 1) (Nat.le_succ _)).push _
    rcases hown.2 with ⟨rfl, rfl, rfl⟩ | ⟨gb, cap, cur, rfl, hnc, hcm, hcs, htake, rfl⟩
    · have hx0 : xs = [] := List.eq_nil_of_length_eq_zero hxl
      subst hx0
      by_cases hm : b.size = 0
      · have hn : strCells b = [] := List.eq_nil_of_length_eq_zero (by omega)
        rw [hn, hm]
        refine ⟨.slice none 0 0, w, ?_, [], OwnR.nil _ _, hw⟩
        have hf := run_firstCells_string (P := P) w i.size b
        rw [hm] at hf
        simp [Builtin.append_, run_underlying ht, run_underlying hu, sizeOf, typeInfo, hi', Builtin.lenOf, hm, hf]
      · have hr := run_append_nil_string (P := P) w t u ty e i z ht hu hi' hz b (by omega) (by omega) (by have hb := hbytes; simp only [Nat.zero_add] at hb; omega)
        obtain ⟨R', g1, g2⟩ := grown 0 (by omega) hw
        simp only [Nat.zero_add, List.nil_append, Array.empty_append] at g1 g2 ⊢
        refine ⟨_, _, hr, R', g1, ?_⟩
        have e1 : (b.data.map (fun b => Value.int .u8 b.toNat)) = (strCells b).toArray := by apply Array.ext'; simp [strCells]
        rw [e1]
        exact g2
    · by_cases hroom : n + b.size ≤ cap
      · have hfit : n + b.size ≤ cur.size := by omega
        have hr := run_append_room_string (P := P) w t u ty e i ht hu hi' h1 gb n cap cur (hw.at_ (j := 0) rfl) b hroom hfit
        refine ⟨_, _, hr, [(gb, .cells (cur.toList.take n ++ strCells b ++ cur.toList.drop (n + b.size)).toArray e (0, 0))], ⟨hlen, .inr ⟨gb, cap, _, rfl, hroom, hcm, ?_, ?_, rfl⟩⟩, hw.putRow _⟩
        · simp only [List.size_toArray, List.length_append, List.length_take, List.length_drop, Array.length_toList, hl]
          omega
        · rw [Nat.mul_one] at htake
          rw [htake, ← hlen]
          exact List.take_left
      · have holds : ∀ j u, xs[j]? = some u → w.cell? ((⟨gb, 0, none⟩ : Addr).add j) = some u := by
          intro j u hu
          have ha : (⟨gb, 0, none⟩ : Addr).add j = ⟨gb, j, none⟩ := by unfold Addr.add; split <;> simp_all
          rw [ha]
          refine cell_of_heap (hw.at_ (j := 0) rfl) ?_
          rw [← htake, List.getElem?_take] at hu
          split at hu
          · simpa using hu
          · cases hu
        have hr := run_append_grow_string (P := P) w t u ty e i z ht hu hi' hz ⟨gb, 0, none⟩ n cap xs (by rw [h1, hxl, Nat.mul_one]) holds b (by omega) (by omega) (growslice_fits (by omega) hbytes)
        obtain ⟨R', g1, g2⟩ := grown cap (by omega) (hw.drop (List.sublist_cons_self _ _))
        exact ⟨_, _, hr, R', g1, g2⟩
  obtain ⟨v', w', hr, R', g1, g2⟩ := key
  have e1 : (execOp (evalE ρ) ⟨d, .call { callee := .builtin .append, args := #[s, x], argTypes := #[t, u] }, ty, pos, af, g⟩).run P w = .ok (.value v') w' := by
    unfold execOp
    simp only [resolve, invoke, builtin, Sem.run_bind, Sem.run_pure, Result.andThen_ok, List.map_toArray, List.map_cons, List.map_nil, hs, hx, hr]
  rw [e1]
  exact ⟨(v', R'), rfl, g1, g2⟩
end
section
variable {P : Program} {ρ : Env} {A : World → Prop} {ty : TypeId} {w0 : World} {I : Foot} {L L2 : List HP}
instance {s x : Operand} {sv : SV} {t u e : TypeId} {z : List Value} {bytes : Nat} {b : ByteArray} {xs : List (KInt .u8)} [hs : Ev ρ s (.slice sv.a sv.n sv.cap)] [hx : Ev ρ x (.string b)] [ht : Und P t (.slice e)] [hu : Und P u .string] [hz : Inf P e z 1 bytes] [hA : InSL A w0 I L] [ho : FindOwn L sv e (KInt .u8) inferInstance xs L2] [hzl : FirstL z 1 z []] :
    OpE P ρ A (.call { callee := .builtin .append, args := #[s, x], argTypes := #[t, u] }) ty SV (fun r => .slice r.a r.n r.cap) (fun r => SL w0 I (OwnS e r (xs ++ bytesK b) :: L2)) (Room (xs.length + b.size) bytes) := ⟨fun h => OpT.sl fun w hw d pos af g => by
  obtain ⟨z', hz1, hz2, hz3⟩ := Inf.zero hz
  obtain ⟨H, R, Rs, h1, h2, h3, h4⟩ := (ho.out.sl hw).uncons
  have hn := OwnR.len h2
  have hzs : z'.cells.size = 1 := by rw [hz2]; simpa using hzl.out.2
  have hown : OwnR e 1 (.slice sv.a sv.n sv.cap) sv.n (flat xs) R := h2
  refine (T_appStr (P := P) (ρ := ρ) (ty := ty) (w0 := w0) (H := H) (L := Rs.flatten) ht.out hu.out hz3 hzs hs.out hown hx.out (by rw [hn]; have := h.2; simp only [maxLen]; omega) (by rw [hn]; exact h.1) d pos af g w h4).mono ?_
  rintro v w' ⟨⟨v1, R1⟩, rfl, ho', hst⟩
  obtain ⟨a, cap, hv, hc⟩ := ho'.slice
  dsimp only at ho' hv hst
  subst hv
  refine ⟨⟨a, sv.n + b.size, cap⟩, rfl, SL.cons h1 (R := R1) ?_ h3 hst⟩
  unfold OwnS
  rw [flat_append, flat_bytesK]
  exact ho'⟩
end
end Go.Fw
namespace Go.Fw
open Go Go.RowKit Go.Lib
set_option linter.unusedVariables false
set_option linter.unusedSimpArgs false
theorem add_at0 (g j : Nat) : (⟨g, 0, none⟩ : Addr).add j = ⟨g, j, none⟩ := by unfold Addr.add; split <;> simp_all
class LiesT (P : Program) (t : TypeId) (n : outParam Nat) : Prop where
  out : liesAt P P.depth t (n / P.cellsOf t) 0 t 1 = true
class ExtSame (P : Program) (f : FuncId) : Prop where
  out : ∀ (x : Value) (w : World), (callFunc f #[x]).run P w = .ok (.value x) w
section
variable {P : Program} {ρ : Env} {A : World → Prop} {ty : TypeId} {w0 : World} {I : Foot} {L L' : List HP}
theorem SL.shape {b : Nat} {t : TypeId} {cs : List Value} {w : World} (h : SL w0 I (Bk b t cs :: L) w) : w.shape? b = some (t, cs.length) := by
  have := h.bk
  simp [World.shape?, this]
instance {x : Operand} {src dst t t' : TypeId} {b n m : Nat} {z cs : List Value} [hx : Ev ρ x (.pointer (some ⟨b, 0, none⟩))] [hs : Und P src (.pointer t)] [hd : Und P dst .unsafePointer] [hz : Inf P t z n m] [hA : InSL A w0 I L] [hb : FindBk L b t' cs L'] :
    OpM P ρ A (.convert src dst x) ty (.pointer (some ⟨b, 0, none⟩)) (n ≠ 0 ∧ cs.length ≠ 0) := ⟨fun h => OpP.at fun w hw => by
  obtain ⟨i, hi, hi2⟩ := Option.map_eq_some_iff.1 hz.size
  have hsh := (hb.out.sl (hA.out w hw)).shape
  have := run_to_unsafe (P := P) w ⟨b, 0, none⟩ hs.out hd.out hi (by rw [hi2]; exact h.1) hsh (Nat.pos_of_ne_zero h.2)
  intro d pos af g w' hw'
  subst hw'
  simp only [execOp, hx.out, this, Sem.run_bind, Sem.run_pure, Result.andThen_ok, go_sem]⟩
instance {x : Operand} {src dst u : TypeId} {b n m k : Nat} {z cs : List Value} [hx : Ev ρ x (.pointer (some ⟨b, 0, none⟩))] [hs : Und P src .unsafePointer] [hd : Und P dst (.pointer u)] [hz : Inf P u z n m] [hA : InSL A w0 I L] [hb : FindBk L b u cs L'] [hl : LiesT P u k] [hn : LenL cs k] :
    OpM P ρ A (.convert src dst x) ty (.pointer (some ⟨b, 0, none⟩)) True := ⟨fun _ => OpP.at fun w hw => by
  obtain ⟨i, hi, hi2⟩ := Option.map_eq_some_iff.1 hz.size
  have hsh := (hb.out.sl (hA.out w hw)).shape
  have := run_from_unsafe (P := P) w ⟨b, 0, none⟩ hs.out hd.out hi hsh (by rw [hn.out]; exact hl.out)
  intro d pos af g w' hw'
  subst hw'
  simp only [execOp, hx.out, this, Sem.run_bind, Sem.run_pure, Result.andThen_ok, go_sem]⟩
instance {x : Operand} {f : FuncId} {ts : Array TypeId} {v : Value} [hx : Ev ρ x v] [hf : ExtSame P f] : OpM P ρ A (.call { callee := .value (.func f), args := #[x], argTypes := ts }) ty v True := ⟨fun _ => by
  intro d pos af g w _
  have e1 : evalE ρ (.func f) = .func (.func f) #[] #[] := rfl
  have e2 := hx.out
  simp [execOp, resolve, invoke, Deferred.ofValue, e1, e2, hf.out, go_sem]⟩
instance (priority := 1300) {x y : Operand} {t te u : TypeId} {a : Addr} {z : List Value} {n m : Nat} [h1 : Ev ρ x (.pointer (some a))] [h2 : Ev ρ y (.pointer (some a))] [ht : Und P t (.pointer te)] [hz : Inf P te z n m] : OpM P ρ A (.binOp .neq t x y u) ty (.bool false) True := ⟨fun _ => by
  obtain ⟨i, hi, hi2⟩ := Option.map_eq_some_iff.1 hz.size
  intro d pos af g w _
  have := run_neq_ptr_same (P := P) w a ht.out hi
  simp [execOp, eqGuard, h1.out, h2.out, this, go_sem]⟩
theorem SL.junk {w : World} (h : SL w0 I L w) (o : Obj) : SL w0 I L { w with heap := w.heap.push o } := Ent.drop1.sl (h.push (p := Ob w.heap.size o) o rfl)
instance {x : Operand} {s : SV} {ts : Array TypeId} {e t' : TypeId} {α : Type} {en : Enc α} {xs : List α} [hx : Ev ρ x (.slice s.a s.n s.cap)] [ht : Und P ty (.pointer e)] [hA : InSL A w0 I L] [ho : FindOwn L s t' α en xs L'] :
    OpE P ρ A (.call { callee := .builtin .unsafeSliceData, args := #[x], argTypes := ts }) ty { q : Option Addr // s.n ≠ 0 → q = s.a } (fun q => .pointer q.1) (fun _ => SL w0 I L) True := ⟨fun _ => OpT.sl fun w hw d pos af g => by
  obtain ⟨R, hR, hm⟩ := (ho.out.sl hw).heap
  have hexec : ∀ v w', (Builtin.unsafeSliceData_ ts ty #[.slice s.a s.n s.cap]).run P w = .ok v w' → (execOp (evalE ρ) ⟨d, .call { callee := .builtin .unsafeSliceData, args := #[x], argTypes := ts }, ty, pos, af, g⟩).run P w = .ok (.value v) w' := by
    intro v w' h
    unfold execOp
    simp only [resolve, invoke, builtin, Sem.run_bind, Sem.run_pure, Result.andThen_ok, List.map_toArray, List.map_cons, List.map_nil, hx.out, h]
  rcases hR.2 with ⟨hv, hn, hr⟩ | ⟨gb, cap, cur, hv, hnc, hcm, hcs, htake, hr⟩
  · injection hv with h1 h2 h3
    rw [hexec _ _ (by rw [h1]; exact run_unsafeSliceData_nil (P := P) w ts ty s.n s.cap)]
    exact ⟨⟨none, fun hne => absurd hn hne⟩, rfl, hw⟩
  · injection hv with h1 h2 h3
    by_cases hc : s.cap = 0
    · have hg := hm gb _ (by rw [hr]; exact List.mem_singleton.2 rfl)
      have hsh : w.shape? gb = some (t', cur.size) := by simp [World.shape?, hg]
      rw [hexec _ _ (by rw [h1, hc]; exact run_unsafeSliceData_zero (P := P) w ts ty e ht.out ⟨gb, 0, none⟩ s.n _ hsh)]
      exact ⟨⟨some ⟨w.heap.size, 0, none⟩, fun hne => absurd (show s.n = 0 by omega) hne⟩, rfl, hw.junk _⟩
    · rw [hexec _ _ (by rw [h1]; exact run_unsafeSliceData_row (P := P) w ts ty ⟨gb, 0, none⟩ s.n s.cap hc)]
      exact ⟨⟨some ⟨gb, 0, none⟩, fun _ => h1.symm⟩, rfl, hw⟩⟩
theorem unsafeStr {x y : Operand} {q : Option Addr} {pt it e : TypeId} {s : SV} {t : ByteArray} [hx : Ev ρ x (.pointer q)] [hy : Ev ρ y (.int .i64 (t.size : Int))] [hA : InSL A w0 I L] [hp : Und P pt (.pointer e)] (hc : P.cellsOf e = 1) (ho : Ent L (OwnS e s (bytesK t) :: L')) (hq : s.n ≠ 0 → q = s.a) :
    OpE P ρ A (.call { callee := .builtin .unsafeString, args := #[x, y], argTypes := #[pt, it] }) ty Unit (fun _ => .string t) (fun _ => SL w0 I L') True := ⟨fun _ => OpT.sl fun w hw d pos af g => by
  have hexec : ∀ v w', (Builtin.unsafeString_ #[pt, it] ty #[.pointer q, .int .i64 (t.size : Int)]).run P w = .ok v w' → (execOp (evalE ρ) ⟨d, .call { callee := .builtin .unsafeString, args := #[x, y], argTypes := #[pt, it] }, ty, pos, af, g⟩).run P w = .ok (.value v) w' := by
    intro v w' h
    unfold execOp
    simp only [resolve, invoke, builtin, Sem.run_bind, Sem.run_pure, Result.andThen_ok, List.map_toArray, List.map_cons, List.map_nil, hx.out, hy.out, h]
  obtain ⟨H, R, Rs, h1, hR, h2, h3⟩ := (ho.sl hw).uncons
  have hn : s.n = t.size := by rw [OwnR.len hR, bytesK_len]
  by_cases h0 : t.size = 0
  · have ht : t = ⟨#[]⟩ := by
      cases t with
      | mk d => simp only [ByteArray.size] at h0; rw [Array.eq_empty_of_size_eq_zero h0]
    rw [hexec _ _ (by rw [h0]; exact run_unsafeString_none (P := P) w pt it ty q)]
    exact ⟨(), by rw [ht]; rfl, (ho.trans Ent.drop1).sl hw⟩
  · rcases hR.2 with ⟨hv, hz, hr⟩ | ⟨gb, cap, cur, hv, hnc, hcm, hcs, htake, hr⟩
    · omega
    · injection hv with g1 g2 g3
      have hqe := hq (by omega)
      rw [g1] at hqe
      subst hqe
      subst hr
      have hg := (h3.own (gb, .cells cur e (0, 0)) (List.mem_append_left _ (List.mem_singleton.2 rfl))).1
      have hsh : w.shape? gb = some (e, cur.size) := by simp [World.shape?, hg]
      have hll : t.data.toList.length = t.size := by rw [Array.length_toList]; rfl
      have hcur : cur.size = cap := by have h8 : cur.size = cap * 1 := hcs; omega
      have key := run_unsafeString_row (P := P) w pt it ty e hp.out hc gb cur.size hsh t.data.toList (fun hnil => h0 (by rw [← hll, hnil]; rfl)) (by omega) (by unfold maxLen at hcm; omega) (fun j v hj => by
        rw [add_at0]
        refine cell_of_heap hg ?_
        have hc2 : (flat (bytesK t))[j]? = some (.int .u8 (v.toNat : Int)) := by rw [flat_bytesK, List.getElem?_map, hj]; rfl
        rw [← htake, List.getElem?_take] at hc2
        split at hc2
        · simpa using hc2
        · cases hc2)
      rw [hll] at key
      rw [hexec _ _ key]
      refine ⟨(), rfl, ?_⟩
      have hst : St w0 H ((gb, .cells cur e (0, 0)) :: Rs.flatten) w := h3
      have hwf : w.freeze ⟨gb, 0, none⟩ t.size = { w with heap := w.heap.modify gb fun o => match o with
          | .cells c elem (lo, hi) => .cells c elem (if lo == hi then (0, 0 + t.size) else (min lo 0, max hi (0 + t.size)))
          | o => o } := by unfold World.freeze; rw [if_neg h0]; rfl
      rw [hwf]
      have hfr := hst.put (j := 0) (b := gb) (o := .cells cur e (0, 0)) (o' := .cells cur e (0, 0 + t.size)) rfl (w' := { w with heap := w.heap.modify gb fun o => match o with
          | .cells c elem (lo, hi) => .cells c elem (if lo == hi then (0, 0 + t.size) else (min lo 0, max hi (0 + t.size)))
          | o => o }) (fun k => by
        show (w.heap.modify gb _)[k]? = _
        rw [Array.getElem?_modify]
        by_cases hk : k = gb
        · subst hk
          rw [if_pos rfl, if_pos rfl, hg]; rfl
        · rw [if_neg (fun h => hk h.symm), if_neg hk]) (by simp) rfl rfl rfl (Nat.le_refl _)
      exact ⟨H, Rs, h1, h2, hfr.drop (List.sublist_cons_self _ _)⟩⟩
end
end Go.Fw
namespace Go.Proofs.YtamnobjdgjbmbaaGreat
open Go Go.Fw Go.RowKit
set_option linter.unusedVariables false
set_option linter.unusedSimpArgs false
set_option maxRecDepth 100000
set_option maxHeartbeats 16000000
set_option synthInstance.maxHeartbeats 200000
set_option synthInstance.maxSize 100000
attribute [local irreducible] WPA WLA WDA WDQ WDE QQ seqQ blockQ loopQ fnQ OpP OpT Tr TrP SL SLd OwnS LitS Bk BkE Ob
instance : Und Tryz.prog 199 .unsafePointer := ⟨Tryz.underlying199⟩
instance : LiesT Tryz.prog 151 2 := ⟨by kernel_rfl⟩
instance : ExtSame Tryz.prog 118 := ⟨fun x w => by
  rw [run_callFunc_extern Tryz.func118 (by kernel_rfl) (by kernel_rfl) (by kernel_rfl) (e := Extern.AbiNoEscape.same) (by kernel_rfl)]
  rw [Lib.run_noEscape]; rfl⟩
theorem bytesK_append (t u : ByteArray) : bytesK (t ++ u) = bytesK t ++ bytesK u := by
  unfold bytesK
  rw [ByteArray.data_append, Array.toList_append, List.map_append]
def BldR (b : Nat) (t : ByteArray) : HP := exH fun q : Option Addr × SV => pureH (q.1 = none ∨ q.1 = some ⟨b, 0, none⟩) (star (Bk b 151 [.pointer q.1, .slice q.2.a q.2.n q.2.cap]) (OwnS 5 q.2 (bytesK t)))
theorem BldR.fold {b : Nat} {t : ByteArray} {s : SV} {L : List HP} : Ent (Bk b 151 [.pointer (some ⟨b, 0, none⟩), .slice s.a s.n s.cap] :: OwnS 5 s (bytesK t) :: L) (BldR b t :: L) := Ent.ex (some ⟨b, 0, none⟩, s) (Ent.pure (.inr rfl) (Ent.star Ent.refl))
theorem BldR.new {b : Nat} {L : List HP} : Ent (Bk b 151 [.pointer none, .slice none 0 0] :: L) (BldR b ⟨#[]⟩ :: L) :=
  (Ent.cons (Ent.ownNil (α := KInt .u8) (t := 5) Ent.refl)).trans (Ent.ex (none, SV.nil) (Ent.pure (.inl rfl) (Ent.star Ent.refl)))
instance {b : Nat} {t : ByteArray} : Opn (BldR b t) { q : Option Addr × SV // q.1 = none ∨ q.1 = some ⟨b, 0, none⟩ } (fun q L => Bk b 151 [.pointer q.1.1, .slice q.1.2.a q.1.2.n q.1.2.cap] :: OwnS 5 q.1.2 (bytesK t) :: L) := ⟨fun w0 I L w h => by
  obtain ⟨q, h⟩ := h.exH
  obtain ⟨hq, h⟩ := h.pureH
  exact ⟨⟨q, hq⟩, Ent.unstar.sl h⟩⟩
section
variable {L L' : List HP} {w0 : World} {I : Foot}
theorem copyCheck_tr {b : Nat} {q : Option Addr} {s : SV} (hq : q = none ∨ q = some ⟨b, 0, none⟩) : Tr Tryz.prog 101 #[.pointer (some ⟨b, 0, none⟩)] (SL w0 I (Bk b 151 [.pointer q, .slice s.a s.n s.cap] :: L)) (fun _ : Unit => .tuple #[]) (fun _ => SL w0 I (Bk b 151 [.pointer (some ⟨b, 0, none⟩), .slice s.a s.n s.cap] :: L)) := by
  refine Tr.intro Tryz.func101 rfl Tryz.ntmps101 rfl ?_
  rcases hq with rfl | rfl
  · have h1 : (2 : Nat) ≠ 0 ∧ ([.pointer none, .slice s.a s.n s.cap] : List Value).length ≠ 0 := ⟨by decide, by simp⟩
    repeat' (first | ((first | refine WLA.m rfl rfl ?_ ?_ | refine WLA.st rfl ?_ ?_ | refine WLA.x rfl rfl ?_ (fun x => ?_) | refine WLA.x0 rfl ?_ (fun x => ?_)); first | exact trivial | exact rfl | assumption | omega | (refine ⟨?_, ?_⟩ <;> omega) | (simp only [Room, lenS]; omega) | decide | skip) | (refine Stp.go ?_) | (refine WPA.ifT ?_) | (refine WPA.ifF ?_) | ((first | refine WPA.dec ?_); first | refine .inl ⟨by first | assumption | omega | with_reducible rfl | (refine fun h => h ?_; first | assumption | with_reducible rfl) | (simp only [lenS] <;> omega) | decide, ?_⟩ | refine .inr ⟨by first | assumption | omega | with_reducible rfl | (refine fun h => h ?_; first | assumption | with_reducible rfl) | (simp only [lenS] <;> omega) | decide, ?_⟩) | ((first | refine WPA.ifBt ?_ ?_ | refine WPA.ifBnf ?_ ?_); assumption) | ((first | refine WPA.ifBnt ?_ ?_ | refine WPA.ifBf ?_ ?_); assumption) | ((first | refine WPA.ifs ?_ ?_ | refine WPA.ifB ?_ ?_) <;> intro hc))
    exact QQ.endn rfl () rfl fun w h => h.to
  · skip
    repeat' (first | ((first | refine WLA.m rfl rfl ?_ ?_ | refine WLA.st rfl ?_ ?_ | refine WLA.x rfl rfl ?_ (fun x => ?_) | refine WLA.x0 rfl ?_ (fun x => ?_)); first | exact trivial | exact rfl | assumption | omega | (refine ⟨?_, ?_⟩ <;> omega) | (simp only [Room, lenS]; omega) | decide | skip) | (refine Stp.go ?_) | (refine WPA.ifT ?_) | (refine WPA.ifF ?_) | ((first | refine WPA.dec ?_); first | refine .inl ⟨by first | assumption | omega | with_reducible rfl | (refine fun h => h ?_; first | assumption | with_reducible rfl) | (simp only [lenS] <;> omega) | decide, ?_⟩ | refine .inr ⟨by first | assumption | omega | with_reducible rfl | (refine fun h => h ?_; first | assumption | with_reducible rfl) | (simp only [lenS] <;> omega) | decide, ?_⟩) | ((first | refine WPA.ifBt ?_ ?_ | refine WPA.ifBnf ?_ ?_); assumption) | ((first | refine WPA.ifBnt ?_ ?_ | refine WPA.ifBf ?_ ?_); assumption) | ((first | refine WPA.ifs ?_ ?_ | refine WPA.ifB ?_ ?_) <;> intro hc))
    exact QQ.endn rfl () rfl fun w h => h.to
theorem WriteString_tr {b : Nat} {t u : ByteArray} [h : FindK L BldR b t L'] (hz : t.size + u.size ≤ 140737488355328) : Tr Tryz.prog 75 #[.pointer (some ⟨b, 0, none⟩), .string u] (SL w0 I L) (fun _ : Unit => .tuple #[.int .i64 u.size, .nilIface]) (fun _ => SL w0 I (BldR b (t ++ u) :: L')) := by
  refine Tr.at h.out (Tr.opn fun q => ?_)
  obtain ⟨⟨q, s⟩, hq⟩ := q
  dsimp only
  refine Tr.intro Tryz.func75 rfl Tryz.ntmps75 rfl ?_
  have hbl := bytesK_len t
  have hroom : Room ((bytesK t).length + u.size) 1 := ⟨by omega, by omega⟩
  repeat' (first | ((first | refine WLA.m rfl rfl ?_ ?_ | refine WLA.st rfl ?_ ?_ | refine WLA.x rfl rfl ?_ (fun x => ?_) | refine WLA.x0 rfl ?_ (fun x => ?_)); first | exact trivial | exact rfl | assumption | omega | (refine ⟨?_, ?_⟩ <;> omega) | (simp only [Room, lenS]; omega) | decide | skip) | (refine Stp.go ?_) | (guard_target =~ WLA _ _ _ _ _ (⟨_, .call ⟨.value (.func 101), _, _⟩, _, _, _, _⟩ :: _) _ _; refine WLA.call rfl rfl (copyCheck_tr hq) ?_; rintro ⟨⟩) | (refine WPA.ifT ?_) | (refine WPA.ifF ?_) | ((first | refine WPA.dec ?_); first | refine .inl ⟨by first | assumption | omega | with_reducible rfl | (refine fun h => h ?_; first | assumption | with_reducible rfl) | (simp only [lenS] <;> omega) | decide, ?_⟩ | refine .inr ⟨by first | assumption | omega | with_reducible rfl | (refine fun h => h ?_; first | assumption | with_reducible rfl) | (simp only [lenS] <;> omega) | decide, ?_⟩) | ((first | refine WPA.ifBt ?_ ?_ | refine WPA.ifBnf ?_ ?_); assumption) | ((first | refine WPA.ifBnt ?_ ?_ | refine WPA.ifBf ?_ ?_); assumption) | ((first | refine WPA.ifs ?_ ?_ | refine WPA.ifB ?_ ?_) <;> intro hc))
  refine QQ.end_ rfl () rfl fun w h => ?_
  have h2 : SL w0 I (Bk b 151 [.pointer (some ⟨b, 0, none⟩), .slice x.a x.n x.cap] :: OwnS 5 x (bytesK (t ++ u)) :: L') w := by rw [bytesK_append]; exact h.to
  exact BldR.fold.sl h2
theorem BString_tr {b : Nat} {t : ByteArray} [h : FindK L BldR b t L'] : Tr Tryz.prog 76 #[.pointer (some ⟨b, 0, none⟩)] (SL w0 I L) (fun _ : Unit => .string t) (fun _ => SL w0 I L') := by
  refine Tr.at h.out (Tr.opn fun q => ?_)
  obtain ⟨⟨q, s⟩, hq⟩ := q
  dsimp only
  refine Tr.intro Tryz.func76 rfl Tryz.ntmps76 rfl ?_
  have hbl : ((bytesK t).length : Int) = t.size := by rw [bytesK_len]
  repeat' (first | ((rw [hbl])) | ((first | refine WLA.m rfl rfl ?_ ?_ | refine WDQ.m rfl rfl ?_ ?_ | refine WLA.st rfl ?_ ?_ | refine WLA.x rfl rfl ?_ (fun x => ?_) | refine WLA.x0 rfl ?_ (fun x => ?_)); first | exact trivial | exact rfl | assumption | omega | (refine ⟨?_, ?_⟩ <;> omega) | (simp only [Room, lenS]; omega) | decide | skip) | (refine Stp.go ?_) | (refine WPA.ifT ?_) | (refine WPA.ifF ?_) | ((first | refine WPA.dec ?_); first | refine .inl ⟨by first | assumption | omega | with_reducible rfl | (refine fun h => h ?_; first | assumption | with_reducible rfl) | (simp only [lenS] <;> omega) | decide, ?_⟩ | refine .inr ⟨by first | assumption | omega | with_reducible rfl | (refine fun h => h ?_; first | assumption | with_reducible rfl) | (simp only [lenS] <;> omega) | decide, ?_⟩) | ((first | refine WPA.ifBt ?_ ?_ | refine WPA.ifBnf ?_ ?_); assumption) | ((first | refine WPA.ifBnt ?_ ?_ | refine WPA.ifBf ?_ ?_); assumption) | ((first | refine WPA.ifs ?_ ?_ | refine WPA.ifB ?_ ?_) <;> intro hc) | (guard_target =~ WPA _ _ _ (.region 1 _ true) _ _ _; refine WPA.drawT 10 (.q 0 (.q 1 (.q 2 (.q 3 (.q 5 (.q 6 (.q 7 (.q 8 (.q 9 (.e 4 .fin)))))))))) mixed ?_ ?_; kernel_rfl) | (refine WDA.finish (tl := [⟨_, _, _, _, _, _⟩, ⟨_, _, _, _, _, _⟩]) rfl ?_) | (refine WDQ.see rfl ?_) | (refine WDE.see rfl ?_) | (refine WDE.alloc rfl rfl (fun w h => h) (fun x => ?_)) | (refine WDE.stE rfl ?_) | (refine WDE.x rfl rfl ?_ ?_ (fun x => ?_); rotate_left 1; (intro x w h; first | exact h | exact Ent.drop1.sl h | exact SL.unI h | exact SL.to h); rotate_left 1; first | exact trivial | exact rfl | assumption | omega | (refine ⟨?_, ?_⟩ <;> omega) | (simp only [Room, lenS]; omega) | decide | skip))
  refine WLA.x (h := unsafeStr (P := Tryz.prog) (e := 5) (s := s) (t := t) (by kernel_rfl) (Ent.swap : Ent _ (OwnS 5 s (bytesK t) :: _)) x.2) rfl rfl trivial (fun _ => ?_)
  repeat' (first | ((first | refine WLA.m rfl rfl ?_ ?_ | refine WDQ.m rfl rfl ?_ ?_ | refine WLA.st rfl ?_ ?_ | refine WLA.x rfl rfl ?_ (fun x => ?_) | refine WLA.x0 rfl ?_ (fun x => ?_)); first | exact trivial | exact rfl | assumption | omega | (refine ⟨?_, ?_⟩ <;> omega) | (simp only [Room, lenS]; omega) | decide | skip) | (refine Stp.go ?_) | (refine WPA.ifT ?_) | (refine WPA.ifF ?_) | ((first | refine WPA.dec ?_); first | refine .inl ⟨by first | assumption | omega | with_reducible rfl | (refine fun h => h ?_; first | assumption | with_reducible rfl) | (simp only [lenS] <;> omega) | decide, ?_⟩ | refine .inr ⟨by first | assumption | omega | with_reducible rfl | (refine fun h => h ?_; first | assumption | with_reducible rfl) | (simp only [lenS] <;> omega) | decide, ?_⟩) | ((first | refine WPA.ifBt ?_ ?_ | refine WPA.ifBnf ?_ ?_); assumption) | ((first | refine WPA.ifBnt ?_ ?_ | refine WPA.ifBf ?_ ?_); assumption) | ((first | refine WPA.ifs ?_ ?_ | refine WPA.ifB ?_ ?_) <;> intro hc) | (guard_target =~ WPA _ _ _ (.region 1 _ true) _ _ _; refine WPA.drawT 10 (.q 0 (.q 1 (.q 2 (.q 3 (.q 5 (.q 6 (.q 7 (.q 8 (.q 9 (.e 4 .fin)))))))))) mixed ?_ ?_; kernel_rfl) | (refine WDA.finish (tl := [⟨_, _, _, _, _, _⟩, ⟨_, _, _, _, _, _⟩]) rfl ?_) | (refine WDQ.see rfl ?_) | (refine WDE.see rfl ?_) | (refine WDE.alloc rfl rfl (fun w h => h) (fun x => ?_)) | (refine WDE.stE rfl ?_) | (refine WDE.x rfl rfl ?_ ?_ (fun x => ?_); rotate_left 1; (intro x w h; first | exact h | exact Ent.drop1.sl h | exact SL.unI h | exact SL.to h); rotate_left 1; first | exact trivial | exact rfl | assumption | omega | (refine ⟨?_, ?_⟩ <;> omega) | (simp only [Room, lenS]; omega) | decide | skip))
  exact QQ.end_ rfl () rfl fun w h => h.to
end
end Go.Proofs.YtamnobjdgjbmbaaGreat
namespace Go.Fw
open Go Go.RowKit
set_option linter.unusedVariables false
set_option linter.unusedSimpArgs false
section
variable {P : Program} {ρ : Env} {A : World → Prop} {ty : TypeId} {x y : Operand} {t u : TypeId}
instance {a b : Int} [h1 : Ev ρ x (.int .u64 a)] [h2 : Ev ρ y (.int .u64 b)] : OpM P ρ A (.binOp .quo t x y u) ty (.int .u64 (a / b)) ((0 ≤ a ∧ a ≤ 18446744073709551615) ∧ 0 < b) := ⟨fun h => by
  have h3 := P_quo (P := P) (A := A) (ty := ty) (t := t) (u := u) h1.out h2.out (by omega)
  have e : a.tdiv b = a / b := Int.tdiv_eq_ediv_of_nonneg h.1.1
  have e2 : 0 ≤ a / b := Int.ediv_nonneg h.1.1 (by omega)
  have e3 : a / b ≤ a := Int.ediv_le_self _ h.1.1
  rw [e, wrap_u64 (by omega)] at h3; exact h3⟩
instance {a b : Int} [h1 : Ev ρ x (.int .u64 a)] [h2 : Ev ρ y (.int .u64 b)] : OpM P ρ A (.binOp .rem t x y u) ty (.int .u64 (a % b)) (0 ≤ a ∧ 0 < b) := ⟨fun h => by
  have h3 := P_rem (P := P) (A := A) (ty := ty) (t := t) (u := u) h1.out h2.out (by omega)
  rw [Int.tmod_eq_emod_of_nonneg h.1] at h3; exact h3⟩
instance {a b : Int} [h1 : Ev ρ x (.int .u64 a)] [h2 : Ev ρ y (.int .u64 b)] : OpM P ρ A (.binOp .add t x y u) ty (.int .u64 (a + b)) (0 ≤ a + b ∧ a + b ≤ 18446744073709551615) := ⟨fun h => by
  have h3 := P_add (P := P) (A := A) (ty := ty) (t := t) (u := u) h1.out h2.out
  rw [wrap_u64 h] at h3; exact h3⟩
theorem shlU {k' : IntKind} {a : Int} {s : Int} [h1 : Ev ρ x (.int .u64 a)] [h2 : Ev ρ y (.int k' s)] : OpM P ρ A (.binOp .shl t x y u) ty (.int .u64 (IntKind.u64.wrap (a * 2 ^ s.toNat))) (0 ≤ s ∧ s ≤ 64) := ⟨fun h => by
  exact P_shl (s := s.toNat) h1.out (by rw [h2.out]; congr 1; omega) (by simp [IntKind.bits]; omega)⟩
end
theorem or_u64 {a b : Int} (k : Nat) (ha : 0 ≤ a ∧ a < 2 ^ k) (hb : 0 ≤ b ∧ b ≤ 18446744073709551615) (hd : b % 2 ^ k = 0) (hs : a + b ≤ 18446744073709551615) : Go.bits .or .u64 a b = a + b := by
  obtain ⟨m, rfl⟩ := Int.eq_ofNat_of_zero_le ha.1
  obtain ⟨n, rfl⟩ := Int.eq_ofNat_of_zero_le hb.1
  have hm : m < 2 ^ k := by exact_mod_cast ha.2
  have hn : n % 2 ^ k = 0 := by exact_mod_cast hd
  have hor : m ||| n = m + n := by
    rw [Nat.or_comm]
    have e : n = 2 ^ k * (n / 2 ^ k) := by have := Nat.div_add_mod n (2 ^ k); omega
    rw [e, (Nat.two_pow_add_eq_or_of_lt hm _).symm]; omega
  have h1 : (BitVec.ofInt 64 (m : Int)).toNat = m := by
    rw [BitVec.ofInt_natCast, BitVec.toNat_ofNat]; exact Nat.mod_eq_of_lt (by omega)
  have h2 : (BitVec.ofInt 64 (n : Int)).toNat = n := by
    rw [BitVec.ofInt_natCast, BitVec.toNat_ofNat]; exact Nat.mod_eq_of_lt (by omega)
  show IntKind.u64.wrap ((BitVec.ofInt 64 (m : Int) ||| BitVec.ofInt 64 (n : Int)).toNat : Int) = _
  rw [BitVec.toNat_or, h1, h2, hor]
  have := wrap_u64 (a := ((m + n : Nat) : Int)) (by omega)
  rw [this]; omega
theorem or_u8 (m : Nat) (h : m < 256) : Go.bits .or .u8 (m : Int) 128 = ((m % 128 + 128 : Nat) : Int) := by
  have : ∀ m : Fin 256, Go.bits .or .u8 (m.val : Int) 128 = ((m.val % 128 + 128 : Nat) : Int) := by decide +kernel
  exact this ⟨m, h⟩
theorem and_u8 (m : Nat) (h : m < 256) : Go.bits .and .u8 (m : Int) 127 = ((m % 128 : Nat) : Int) := by
  have : ∀ m : Fin 256, Go.bits .and .u8 (m.val : Int) 127 = ((m.val % 128 : Nat) : Int) := by decide +kernel
  exact this ⟨m, h⟩
end Go.Fw
namespace Go.Proofs.YtamnobjdgjbmbaaGreat
open Go Go.Fw Go.RowKit
set_option linter.unusedVariables false
set_option linter.unusedSimpArgs false
set_option maxRecDepth 100000
set_option maxHeartbeats 16000000
set_option synthInstance.maxHeartbeats 200000
set_option synthInstance.maxSize 100000
attribute [local irreducible] WPA WLA WDA WDQ WDE QQ seqQ blockQ loopQ fnQ OpP OpT Tr TrP SL SLd OwnS LitS Bk BkE Ob
def vint (n : Nat) : List UInt8 := if h : n < 128 then [UInt8.ofNat n] else UInt8.ofNat (n % 128 + 128) :: vint (n / 128)
termination_by n
decreasing_by omega
theorem vint_lt {n : Nat} (h : n < 128) : vint n = [UInt8.ofNat n] := by rw [vint, dif_pos h]
theorem vint_ge {n : Nat} (h : ¬ n < 128) : vint n = UInt8.ofNat (n % 128 + 128) :: vint (n / 128) := by rw [vint, dif_neg h]
def vS (n : Nat) : ByteArray := ⟨(vint n).toArray⟩
theorem vint_len : ∀ (f n : Nat), n < 128 ^ (f + 1) → (vint n).length ≤ f + 1
  | 0, n, h => by rw [vint_lt (by simpa using h)]; simp
  | f + 1, n, h => by
    by_cases h1 : n < 128
    · rw [vint_lt h1]; simp
    · rw [vint_ge h1]
      have := vint_len f (n / 128) (by rw [Nat.pow_succ] at h; exact Nat.div_lt_of_lt_mul (by rw [Nat.mul_comm]; exact h))
      simp only [List.length_cons]; omega
theorem vS_size {n : Nat} (h : n ≤ 18446744073709551615) : (vS n).size ≤ 10 := by
  have := vint_len 9 n (Nat.lt_of_le_of_lt h (by decide))
  show (vint n).toArray.size ≤ 10
  rw [List.size_toArray]; exact this
theorem u8_toNat {m : Nat} (h : m < 256) : ((UInt8.ofNat m).toNat : Int) = m := by rw [UInt8.toNat_ofNat', Nat.mod_eq_of_lt h]
theorem bytesK_one {m : Nat} (h : m < 256) : bytesK ⟨#[UInt8.ofNat m]⟩ = [toK .u8 (m : Int)] := by
  show [kb (UInt8.ofNat m)] = _
  unfold kb
  rw [u8_toNat h]; rfl
theorem vS_lt {n : Nat} (h : n < 128) : vS n = ⟨#[UInt8.ofNat n]⟩ := by unfold vS; rw [vint_lt h]
theorem vS_ge {n : Nat} (h : ¬ n < 128) : vS n = ⟨#[UInt8.ofNat (n % 128 + 128)]⟩ ++ vS (n / 128) := by
  unfold vS; rw [vint_ge h]
  apply ByteArray.ext
  simp
theorem bnil_app (x : ByteArray) : (⟨#[]⟩ : ByteArray) ++ x = x := by apply ByteArray.ext; simp
theorem app_bnil (x : ByteArray) : x ++ (⟨#[]⟩ : ByteArray) = x := by apply ByteArray.ext; simp
attribute [local irreducible] vS
def WrtR (W : Nat) (t : ByteArray) : HP := exH fun s : SV => star (Bk W 118 [.slice s.a s.n s.cap]) (OwnS 5 s (bytesK t))
theorem WrtR.fold {W : Nat} {t : ByteArray} {s : SV} {L : List HP} : Ent (Bk W 118 [.slice s.a s.n s.cap] :: OwnS 5 s (bytesK t) :: L) (WrtR W t :: L) := Ent.ex s (Ent.star Ent.refl)
theorem WrtR.new {W : Nat} {L : List HP} : Ent (Bk W 118 [.slice none 0 0] :: L) (WrtR W ⟨#[]⟩ :: L) :=
  (Ent.cons (Ent.ownNil (α := KInt .u8) (t := 5) Ent.refl)).trans (Ent.ex SV.nil (Ent.star Ent.refl))
instance {W : Nat} {t : ByteArray} : Opn (WrtR W t) SV (fun s L => Bk W 118 [.slice s.a s.n s.cap] :: OwnS 5 s (bytesK t) :: L) := ⟨fun w0 I L w h => by
  obtain ⟨q, h⟩ := h.exH
  exact ⟨q, Ent.unstar.sl h⟩⟩
section
variable {L L' : List HP} {w0 : World} {I : Foot}
theorem WRaw_tr {W : Nat} {t u : ByteArray} [h : FindK L WrtR W t L'] (hz : t.size + u.size ≤ 140737488355328) : Tr Tryz.prog 55 #[.pointer (some ⟨W, 0, none⟩), .string u] (SL w0 I L) (fun _ : Unit => .tuple #[]) (fun _ => SL w0 I (WrtR W (t ++ u) :: L')) := by
  refine Tr.at h.out (Tr.opn fun s => ?_)
  refine Tr.intro Tryz.func55 rfl Tryz.ntmps55 rfl ?_
  have hbl := bytesK_len t
  have hroom : Room ((bytesK t).length + u.size) 1 := ⟨by omega, by omega⟩
  repeat' (first | ((first | refine WLA.m rfl rfl ?_ ?_ | refine WLA.st rfl ?_ ?_ | refine WLA.x rfl rfl ?_ (fun x => ?_) | refine WLA.x0 rfl ?_ (fun x => ?_)); first | exact trivial | exact rfl | assumption | omega | (refine ⟨?_, ?_⟩ <;> omega) | (simp only [Room, lenS]; omega) | decide | skip) | (refine Stp.go ?_) | (refine WPA.ifT ?_) | (refine WPA.ifF ?_) | ((first | refine WPA.dec ?_); first | refine .inl ⟨by first | assumption | omega | with_reducible rfl | (refine fun h => h ?_; first | assumption | with_reducible rfl) | (simp only [lenS] <;> omega) | decide, ?_⟩ | refine .inr ⟨by first | assumption | omega | with_reducible rfl | (refine fun h => h ?_; first | assumption | with_reducible rfl) | (simp only [lenS] <;> omega) | decide, ?_⟩) | ((first | refine WPA.ifBt ?_ ?_ | refine WPA.ifBnf ?_ ?_); assumption) | ((first | refine WPA.ifBnt ?_ ?_ | refine WPA.ifBf ?_ ?_); assumption) | ((first | refine WPA.ifs ?_ ?_ | refine WPA.ifB ?_ ?_) <;> intro hc))
  refine QQ.endn rfl () rfl fun w h => ?_
  have h2 : SL w0 I (Bk W 118 [.slice x.a x.n x.cap] :: OwnS 5 x (bytesK (t ++ u)) :: L') w := by rw [bytesK_append]; exact h.to
  exact WrtR.fold.sl h2
theorem WBytes_tr {W : Nat} {t : ByteArray} [h : FindK L WrtR W t L'] : Tr Tryz.prog 58 #[.pointer (some ⟨W, 0, none⟩)] (SL w0 I L) (fun _ : Unit => .string t) (fun _ => SL w0 I (WrtR W t :: L')) := by
  refine Tr.at h.out (Tr.opn fun s => ?_)
  refine Tr.intro Tryz.func58 rfl Tryz.ntmps58 rfl ?_
  repeat' (first | ((first | refine WLA.m rfl rfl ?_ ?_ | refine WLA.st rfl ?_ ?_ | refine WLA.x rfl rfl ?_ (fun x => ?_) | refine WLA.x0 rfl ?_ (fun x => ?_)); first | exact trivial | exact rfl | assumption | omega | (refine ⟨?_, ?_⟩ <;> omega) | (simp only [Room, lenS]; omega) | decide | skip) | (refine Stp.go ?_) | (refine WPA.ifT ?_) | (refine WPA.ifF ?_) | ((first | refine WPA.dec ?_); first | refine .inl ⟨by first | assumption | omega | with_reducible rfl | (refine fun h => h ?_; first | assumption | with_reducible rfl) | (simp only [lenS] <;> omega) | decide, ?_⟩ | refine .inr ⟨by first | assumption | omega | with_reducible rfl | (refine fun h => h ?_; first | assumption | with_reducible rfl) | (simp only [lenS] <;> omega) | decide, ?_⟩) | ((first | refine WPA.ifBt ?_ ?_ | refine WPA.ifBnf ?_ ?_); assumption) | ((first | refine WPA.ifBnt ?_ ?_ | refine WPA.ifBf ?_ ?_); assumption) | ((first | refine WPA.ifs ?_ ?_ | refine WPA.ifB ?_ ?_) <;> intro hc))
  exact QQ.end_ rfl () rfl fun w h => WrtR.fold.sl (h.to : SL w0 I (Bk W 118 [.slice s.a s.n s.cap] :: OwnS 5 s (bytesK t) :: L') w)
structure NS where
  v : Nat
  s : SV
  p : ByteArray
theorem WNum_tr {W n : Nat} {t : ByteArray} [h : FindK L WrtR W t L'] (hn : n ≤ 18446744073709551615) (hz : t.size ≤ 100000000000000) : Tr Tryz.prog 56 #[.pointer (some ⟨W, 0, none⟩), .int .u64 (n : Int)] (SL w0 I L) (fun _ : Unit => .tuple #[]) (fun _ => SL w0 I (WrtR W (t ++ vS n) :: L')) := by
  refine Tr.at h.out (Tr.opn fun s => ?_)
  refine Tr.intro Tryz.func56 rfl Tryz.ntmps56 rfl ?_
  have hvs := vS_size hn
  repeat' (first | ((first | refine WLA.m rfl rfl ?_ ?_ | refine WLA.st rfl ?_ ?_ | refine WLA.x rfl rfl ?_ (fun x => ?_) | refine WLA.x0 rfl ?_ (fun x => ?_)); first | exact trivial | exact rfl | assumption | omega | (refine ⟨?_, ?_⟩ <;> omega) | (simp only [Room, lenS]; omega) | decide | skip) | (refine Stp.go ?_) | (refine WPA.ifT ?_) | (refine WPA.ifF ?_) | ((first | refine WPA.dec ?_); first | refine .inl ⟨by first | assumption | omega | with_reducible rfl | (refine fun h => h ?_; first | assumption | with_reducible rfl) | (simp only [lenS] <;> omega) | decide, ?_⟩ | refine .inr ⟨by first | assumption | omega | with_reducible rfl | (refine fun h => h ?_; first | assumption | with_reducible rfl) | (simp only [lenS] <;> omega) | decide, ?_⟩) | ((first | refine WPA.ifBt ?_ ?_ | refine WPA.ifBnf ?_ ?_); assumption) | ((first | refine WPA.ifBnt ?_ ?_ | refine WPA.ifBf ?_ ?_); assumption) | ((first | refine WPA.ifs ?_ ?_ | refine WPA.ifB ?_ ?_) <;> intro hc))
  refine WPA.loopS (σ := NS) (fun y => [(0, .pointer (some ⟨W, 0, none⟩)), (1, .int .u64 (y.v : Int))]) (fun y => y.v ≤ 18446744073709551615 ∧ y.p ++ vS y.v = vS n)
    (fun y => SL w0 I (Bk W 118 [.slice y.s.a y.s.n y.s.cap] :: OwnS 5 y.s (bytesK (t ++ y.p)) :: L')) (fun y => y.v) ⟨n, s, ⟨#[]⟩⟩ ⟨rfl, rfl, trivial⟩ ⟨hn, bnil_app _⟩ (fun w h => ?_) ?_
  · show SL w0 I (Bk W 118 [.slice s.a s.n s.cap] :: OwnS 5 s (bytesK (t ++ ⟨#[]⟩)) :: L') w
    rw [app_bnil]
    exact h.to
  rintro ⟨v, s, p⟩ ρ ⟨hv, hp⟩
  dsimp only at hv hp ⊢
  have hpl : p.size ≤ 10 := by
    have := congrArg ByteArray.size hp
    rw [ByteArray.size_append] at this; omega
  have hbl : (bytesK (t ++ p)).length = t.size + p.size := by rw [bytesK_len, ByteArray.size_append]
  have hroom : Room ((bytesK (t ++ p)).length + 1) 1 := ⟨by omega, by omega⟩
  by_cases h1 : v < 128
  · have h1' : ¬ (128 : Int) ≤ v := by omega
    have hb : (0 : Int) ≤ v ∧ (v : Int) ≤ 255 := by omega
    repeat' (first | ((first | refine WLA.m rfl rfl ?_ ?_ | refine WLA.st rfl ?_ ?_ | refine WLA.x rfl rfl ?_ (fun x => ?_) | refine WLA.x0 rfl ?_ (fun x => ?_)); first | exact trivial | exact rfl | assumption | omega | (refine ⟨?_, ?_⟩ <;> omega) | (simp only [Room, lenS]; omega) | decide | skip) | (refine Stp.go ?_) | (refine WPA.ifT ?_) | (refine WPA.ifF ?_) | ((first | refine WPA.dec ?_); first | refine .inl ⟨by first | assumption | omega | with_reducible rfl | (refine fun h => h ?_; first | assumption | with_reducible rfl) | (simp only [lenS] <;> omega) | decide, ?_⟩ | refine .inr ⟨by first | assumption | omega | with_reducible rfl | (refine fun h => h ?_; first | assumption | with_reducible rfl) | (simp only [lenS] <;> omega) | decide, ?_⟩) | ((first | refine WPA.ifBt ?_ ?_ | refine WPA.ifBnf ?_ ?_); assumption) | ((first | refine WPA.ifBnt ?_ ?_ | refine WPA.ifBf ?_ ?_); assumption) | ((first | refine WPA.ifs ?_ ?_ | refine WPA.ifB ?_ ?_) <;> intro hc))
    refine QQ.endn rfl () rfl fun w h => ?_
    have e : bytesK (t ++ vS n) = bytesK (t ++ p) ++ [toK .u8 (v : Int)] := by
      rw [← hp, vS_lt h1, ← ByteArray.append_assoc, bytesK_append, bytesK_one (by omega)]
    have h2 : SL w0 I (Bk W 118 [.slice x.a x.n x.cap] :: OwnS 5 x (bytesK (t ++ vS n)) :: L') w := by rw [e]; exact h.to
    exact WrtR.fold.sl h2
  · have h1' : (128 : Int) ≤ v := by omega
    have eo : Go.bits .or .u8 (IntKind.u8.wrap (v : Int)) 128 = ((v % 128 + 128 : Nat) : Int) := by
      have e1 : IntKind.u8.wrap (v : Int) = ((v % 256 : Nat) : Int) := by simp only [IntKind.wrap, IntKind.bits, IntKind.signed]; simp
      rw [e1, or_u8 _ (by omega)]; omega
    have es : ((v : Int)).fdiv (2 ^ Int.toNat 7) = ((v / 128 : Nat) : Int) := by rw [Int.fdiv_eq_ediv_of_nonneg _ (by decide)]; show (v : Int) / 128 = _; omega
    have hsh : (0 : Int) ≤ 7 ∧ (7 : Int) ≤ (IntKind.u64.bits : Nat) := by decide
    repeat' (first | (guard_target =~ WLA _ _ _ _ _ (⟨_, .convert _ _ _, _, _, _, _⟩ :: _) _ _; refine WLA.m (h := convW) rfl rfl trivial ?_) | (guard_target =~ WDQ _ _ _ _ _ _ _ ⟨_, .convert _ _ _, _, _, _, _⟩ _ _ _; refine WDQ.m (h := convW) rfl rfl trivial ?_) | (guard_target =~ WDP _ _ _ _ _ _ _ ⟨_, .convert _ _ _, _, _, _, _⟩ _ _ _; refine WDP.m (h := convW) rfl rfl trivial ?_) | ((rw [eo])) | ((rw [es])) | ((first | refine WLA.m rfl rfl ?_ ?_ | refine WLA.st rfl ?_ ?_ | refine WLA.x rfl rfl ?_ (fun x => ?_) | refine WLA.x0 rfl ?_ (fun x => ?_)); first | exact trivial | exact rfl | assumption | omega | (refine ⟨?_, ?_⟩ <;> omega) | (simp only [Room, lenS]; omega) | decide | skip) | (refine Stp.go ?_) | (refine WPA.ifT ?_) | (refine WPA.ifF ?_) | ((first | refine WPA.dec ?_); first | refine .inl ⟨by first | assumption | omega | with_reducible rfl | (refine fun h => h ?_; first | assumption | with_reducible rfl) | (simp only [lenS] <;> omega) | decide, ?_⟩ | refine .inr ⟨by first | assumption | omega | with_reducible rfl | (refine fun h => h ?_; first | assumption | with_reducible rfl) | (simp only [lenS] <;> omega) | decide, ?_⟩) | ((first | refine WPA.ifBt ?_ ?_ | refine WPA.ifBnf ?_ ?_); assumption) | ((first | refine WPA.ifBnt ?_ ?_ | refine WPA.ifBf ?_ ?_); assumption) | ((first | refine WPA.ifs ?_ ?_ | refine WPA.ifB ?_ ?_) <;> intro hc))
    refine QQ.loopS ⟨v / 128, x, p ++ ⟨#[UInt8.ofNat (v % 128 + 128)]⟩⟩ ⟨rfl, rfl, trivial⟩ ⟨by dsimp only; omega, ?_⟩ (by dsimp only; omega) (fun w h => ?_)
    · dsimp only
      rw [ByteArray.append_assoc, ← vS_ge h1, hp]
    · have e : bytesK (t ++ (p ++ ⟨#[UInt8.ofNat (v % 128 + 128)]⟩)) = bytesK (t ++ p) ++ [toK .u8 ((v % 128 + 128 : Nat) : Int)] := by
        rw [← ByteArray.append_assoc, bytesK_append, bytesK_one (by omega)]
      dsimp only
      rw [e]
      exact h.to
end
theorem rNum_tr {w0 : World} : ∀ (f : Nat) {n : Nat} {I : Foot} {L : List HP}, n < 128 ^ f → n ≤ 18446744073709551615 → Tr Tryz.prog 40 #[.int .u64 (n : Int)] (SL w0 I L) (fun _ : Unit => .string (vS n)) (fun _ => SL w0 I L) := by
  intro f
  induction f with
  | zero =>
    intro n I L h hn
    have h0 : n = 0 := by simpa using h
    subst h0
    refine Tr.intro Tryz.func40 rfl Tryz.ntmps40 rfl ?_
    have hl : [toK .u8 (((0 : Nat) : Int))] = bytesK ⟨#[UInt8.ofNat 0]⟩ := (bytesK_one (by omega)).symm
    repeat' (first | ((rw [hl])) | ((first | refine WLA.m rfl rfl ?_ ?_ | refine WLA.st rfl ?_ ?_ | refine WLA.x rfl rfl ?_ (fun x => ?_) | refine WLA.x0 rfl ?_ (fun x => ?_)); first | exact trivial | exact rfl | assumption | omega | (refine ⟨?_, ?_⟩ <;> omega) | (simp only [Room, lenS]; omega) | decide | skip) | (refine Stp.go ?_) | (refine WPA.ifT ?_) | (refine WPA.ifF ?_) | ((first | refine WPA.dec ?_); first | refine .inl ⟨by first | assumption | omega | with_reducible rfl | (refine fun h => h ?_; first | assumption | with_reducible rfl) | (simp only [lenS] <;> omega) | decide, ?_⟩ | refine .inr ⟨by first | assumption | omega | with_reducible rfl | (refine fun h => h ?_; first | assumption | with_reducible rfl) | (simp only [lenS] <;> omega) | decide, ?_⟩) | ((first | refine WPA.ifBt ?_ ?_ | refine WPA.ifBnf ?_ ?_); assumption) | ((first | refine WPA.ifBnt ?_ ?_ | refine WPA.ifBf ?_ ?_); assumption) | ((first | refine WPA.ifs ?_ ?_ | refine WPA.ifB ?_ ?_) <;> intro hc))
    exact QQ.end_ rfl () (by rw [vS_lt (by omega)]) fun w h => h.to
  | succ f ih =>
    intro n I L h hn
    refine Tr.intro Tryz.func40 rfl Tryz.ntmps40 rfl ?_
    have ih2 := fun {I : Foot} {L : List HP} (h1 : ¬ n < 128) => ih (n := n / 128) (I := I) (L := L) (by rw [Nat.pow_succ] at h; exact Nat.div_lt_of_lt_mul (by rw [Nat.mul_comm]; exact h)) (by omega)
    by_cases h1 : n < 128
    · have h1' : (n : Int) < 128 := by omega
      have hb : (0 : Int) ≤ n ∧ (n : Int) ≤ 255 := by omega
      have hl : [toK .u8 (n : Int)] = bytesK ⟨#[UInt8.ofNat n]⟩ := (bytesK_one (by omega)).symm
      repeat' (first | ((rw [hl])) | ((first | refine WLA.m rfl rfl ?_ ?_ | refine WLA.st rfl ?_ ?_ | refine WLA.x rfl rfl ?_ (fun x => ?_) | refine WLA.x0 rfl ?_ (fun x => ?_)); first | exact trivial | exact rfl | assumption | omega | (refine ⟨?_, ?_⟩ <;> omega) | (simp only [Room, lenS]; omega) | decide | skip) | (refine Stp.go ?_) | (refine WPA.ifT ?_) | (refine WPA.ifF ?_) | ((first | refine WPA.dec ?_); first | refine .inl ⟨by first | assumption | omega | with_reducible rfl | (refine fun h => h ?_; first | assumption | with_reducible rfl) | (simp only [lenS] <;> omega) | decide, ?_⟩ | refine .inr ⟨by first | assumption | omega | with_reducible rfl | (refine fun h => h ?_; first | assumption | with_reducible rfl) | (simp only [lenS] <;> omega) | decide, ?_⟩) | ((first | refine WPA.ifBt ?_ ?_ | refine WPA.ifBnf ?_ ?_); assumption) | ((first | refine WPA.ifBnt ?_ ?_ | refine WPA.ifBf ?_ ?_); assumption) | ((first | refine WPA.ifs ?_ ?_ | refine WPA.ifB ?_ ?_) <;> intro hc))
      exact QQ.end_ rfl () (by rw [vS_lt h1]) fun w h => h.to
    · have h1' : ¬ (n : Int) < 128 := by omega
      obtain ⟨m, hm⟩ : ∃ m : Nat, m = n % 128 + 128 := ⟨_, rfl⟩
      obtain ⟨q, hq0⟩ : ∃ q : Nat, q = n / 128 := ⟨_, rfl⟩
      have ih3 := fun {I : Foot} {L : List HP} => ih2 (I := I) (L := L) h1
      have hge := vS_ge h1
      rw [← hm, ← hq0] at hge
      rw [← hq0] at ih3
      rw [hge]
      have e1 : (n : Int) % 128 + 128 = (m : Int) := by omega
      have e2 : (n : Int) / 128 = (q : Int) := by omega
      have hl : [toK .u8 (m : Int)] = bytesK ⟨#[UInt8.ofNat m]⟩ := (bytesK_one (by omega)).symm
      have hvs := vS_size (n := q) (by omega)
      have hsz : (⟨#[UInt8.ofNat m]⟩ : ByteArray).size + (vS q).size ≤ 9223372036854775807 := by
        have : (⟨#[UInt8.ofNat m]⟩ : ByteArray).size = 1 := rfl
        omega
      generalize (⟨#[UInt8.ofNat m]⟩ : ByteArray) = cb at hl hsz
      have hb : (0 : Int) ≤ m ∧ (m : Int) ≤ 255 := by omega
      have hq : ((0 : Int) ≤ n ∧ (n : Int) ≤ 18446744073709551615) ∧ (0 : Int) < 128 := by omega
      clear ih ih2 hge
      repeat' (first | ((rw [e1])) | ((rw [e2])) | ((rw [hl])) | ((first | refine WLA.m rfl rfl ?_ ?_ | refine WDQ.m rfl rfl ?_ ?_ | refine WLA.st rfl ?_ ?_ | refine WLA.x rfl rfl ?_ (fun x => ?_) | refine WLA.x0 rfl ?_ (fun x => ?_)); first | exact trivial | exact rfl | assumption | omega | (refine ⟨?_, ?_⟩ <;> omega) | (simp only [Room, lenS]; omega) | decide | skip) | (refine Stp.go ?_) | (guard_target =~ WLA _ _ _ _ _ (⟨_, .call ⟨.value (.func 40), _, _⟩, _, _, _, _⟩ :: _) _ _; refine WLA.call rfl rfl (ih3) ?_; rintro ⟨⟩) | (refine WPA.ifT ?_) | (refine WPA.ifF ?_) | ((first | refine WPA.dec ?_); first | refine .inl ⟨by first | assumption | omega | with_reducible rfl | (refine fun h => h ?_; first | assumption | with_reducible rfl) | (simp only [lenS] <;> omega) | decide, ?_⟩ | refine .inr ⟨by first | assumption | omega | with_reducible rfl | (refine fun h => h ?_; first | assumption | with_reducible rfl) | (simp only [lenS] <;> omega) | decide, ?_⟩) | ((first | refine WPA.ifBt ?_ ?_ | refine WPA.ifBnf ?_ ?_); assumption) | ((first | refine WPA.ifBnt ?_ ?_ | refine WPA.ifBf ?_ ?_); assumption) | ((first | refine WPA.ifs ?_ ?_ | refine WPA.ifB ?_ ?_) <;> intro hc) | (guard_target =~ WPA _ _ _ (.region 3 _ true) _ _ _; refine WPA.drawT 9 (.q 0 (.q 1 (.q 2 (.q 3 (.q 6 (.q 7 (.b false 4 (.q 5 (.e 8 .fin)) false 8 (.e 4 (.q 5 .fin))))))))) mixed ?_ ?_; kernel_rfl) | (refine WDA.finish (tl := [⟨_, _, _, _, _, _⟩, ⟨_, _, _, _, _, _⟩]) rfl ?_) | (refine WDQ.see rfl ?_) | (first | (refine WDA.two rfl rfl ?_ ?_) | (refine WDA.twoL rfl rfl ?_ ?_) | (refine WDA.twoR rfl rfl ?_ ?_) | (refine WDA.twoW rfl rfl ?_ ?_)) | (refine WDE.see rfl ?_) | (refine WDE.alloc rfl rfl (fun w h => h) (fun x => ?_)) | (refine WDE.stE rfl ?_) | (refine WDE.x rfl rfl ?_ ?_ (fun x => ?_); rotate_left 1; (intro x w h; first | exact h | exact Ent.drop1.sl h | exact SL.unI h | exact SL.to h); rotate_left 1; first | exact trivial | exact rfl | assumption | omega | (refine ⟨?_, ?_⟩ <;> omega) | (simp only [Room, lenS]; omega) | decide | skip) | (guard_target =~ WDE _ _ _ _ _ _ _ ⟨_, .call ⟨.value (.func 40), _, _⟩, _, _, _, _⟩ _ _ _; refine WDE.call rfl rfl (ih3) ?_ ?_; (intro x w h; first | exact h | exact Ent.drop1.sl h | exact SL.unI h | exact SL.to h); rintro ⟨⟩) | (guard_target =~ WDW _ _ _ _ _ _ _ ⟨_, .call ⟨.value (.func 40), _, _⟩, _, _, _, _⟩ _ _ _; refine WDW.call rfl rfl (ih3) ?_; rintro ⟨⟩))
      all_goals exact QQ.end_ rfl () rfl fun w h => h.to
end Go.Proofs.YtamnobjdgjbmbaaGreat
