/- Keys: bytes of n-grams, and back. Conditions: none. -/
import Derived.Test.YtlodbajaoadhdaaGr3
import Derived.Test.YtlodbajaoadhdaaSlBit
namespace Go.Proofs.Ytlodbajaoadhdaa
open Go Go.Fw Go.RowKit
set_option linter.unusedVariables false
set_option linter.unusedSimpArgs false
set_option maxRecDepth 100000
set_option maxHeartbeats 16000000
set_option synthInstance.maxHeartbeats 200000
set_option synthInstance.maxSize 100000
attribute [local irreducible] WPA WLA WDA WDQ WDE QQ seqQ blockQ loopQ fnQ OpP OpT Tr TrP SL SLd OwnS LitS Bk BkE Ob
abbrev In24 (v : Int) : Prop := 0 ≤ v ∧ v ≤ 16777215
def b3 (v : Int) : List UInt8 := [UInt8.ofNat (v / 65536).toNat, UInt8.ofNat (v / 256 % 256).toNat, UInt8.ofNat (v % 256).toNat]
/-- The bytes of an n-gram. -/
def keyS (xs : List Int) : ByteArray := ⟨(xs.flatMap b3).toArray⟩
def keyK (xs : List Int) : List (KInt .u8) := xs.flatMap fun v => [toK .u8 (v / 65536), toK .u8 (v / 256 % 256), toK .u8 (v % 256)]
theorem keyK_bytes : ∀ {xs : List Int}, (∀ v ∈ xs, In24 v) → keyK xs = bytesK (keyS xs)
  | [], _ => rfl
  | v :: xs, h => by
    have ih := keyK_bytes (xs := xs) fun u hu => h u (List.mem_cons_of_mem _ hu)
    have hv := h v (List.mem_cons_self ..)
    have k : ∀ z : Int, 0 ≤ z → z < 256 → kb (UInt8.ofNat z.toNat) = toK .u8 z := fun z h1 h2 => by
      unfold kb toK
      rw [UInt8.toNat_ofNat']
      show ((z.toNat % 256 : Nat) : Int) = z
      omega
    have e : bytesK (keyS (v :: xs)) = (b3 v).map kb ++ bytesK (keyS xs) := by simp [bytesK, keyS]
    rw [e, ← ih]
    unfold b3
    simp only [List.map_cons, List.map_nil]
    rw [k _ (by omega) (by omega), k _ (by omega) (by omega), k _ (by omega) (by omega)]
    rfl
theorem keyS_snoc (xs : List Int) (v : Int) : keyS (xs ++ [v]) = keyS xs ++ keyS [v] := by
  apply ByteArray.ext
  rw [ByteArray.data_append]
  simp [keyS]
theorem keyS_size (xs : List Int) : (keyS xs).size = 3 * xs.length := by
  show (xs.flatMap b3).toArray.size = _
  rw [List.size_toArray]
  induction xs with
  | nil => rfl
  | cons v xs ih => rw [List.flatMap_cons, List.length_append, ih]; simp [b3]; omega
theorem keyK_len (xs : List Int) : (keyK xs).length = 3 * xs.length := by
  induction xs with
  | nil => rfl
  | cons v xs ih =>
    have : keyK (v :: xs) = [toK .u8 (v / 65536), toK .u8 (v / 256 % 256), toK .u8 (v % 256)] ++ keyK xs := rfl
    rw [this, List.length_append, ih]; simp; omega
theorem keyK_snoc (xs : List Int) (v : Int) : keyK (xs ++ [v]) = keyK xs ++ [toK .u8 (v / 65536), toK .u8 (v / 256 % 256), toK .u8 (v % 256)] := by simp [keyK]
def okKey (xs : List Int) : Prop := ∀ v ∈ xs, In24 v
instance (xs : List Int) : Decidable (okKey xs) := inferInstanceAs (Decidable (∀ v ∈ xs, _))
section
variable {L : List HP} {w0 : World} {I : Foot}
theorem gKey_tr {a : SV} {xs : List Int} {k : ByteArray} {e : Int} [ha : RdS I L a Int inferInstance xs] (hn : xs.length ≤ 1000000) (h : (okKey xs ∧ k = keyS xs ∧ e = 0) ∨ (¬ okKey xs ∧ k = ⟨#[]⟩ ∧ e = 8)) :
    Tr Try.prog 34 #[.slice a.a a.n a.cap] (SL w0 I L) (fun _ : Unit => .tuple #[.string k, .int .i64 e]) (fun _ => SL w0 I L) := by
  refine Tr.intro Try.func34 rfl Try.ntmps34 rfl ?_
  repeat' (first | ((first | refine WLA.m rfl rfl ?_ ?_ | refine WLA.st rfl ?_ ?_ | refine WLA.x rfl rfl ?_ (fun x => ?_) | refine WLA.x0 rfl ?_ (fun x => ?_)); first | exact trivial | exact rfl | assumption | omega | (refine ⟨?_, ?_⟩ <;> omega) | (simp only [Room, List.length_set, List.length_append, List.length_cons, List.length_nil, List.length_replicate]; omega) | decide | skip) | (refine Stp.go ?_) | (refine WPA.ifT ?_) | (refine WPA.ifF ?_) | ((first | refine WPA.dec ?_); first | refine .inl ⟨by first | assumption | omega | with_reducible rfl | (refine fun h => h ?_; first | assumption | with_reducible rfl) | (simp only [List.length_append, List.length_cons, List.length_nil, List.length_set] <;> omega) | decide, ?_⟩ | refine .inr ⟨by first | assumption | omega | with_reducible rfl | (refine fun h => h ?_; first | assumption | with_reducible rfl) | (simp only [List.length_append, List.length_cons, List.length_nil, List.length_set] <;> omega) | decide, ?_⟩) | ((first | refine WPA.ifBt ?_ ?_ | refine WPA.ifBnf ?_ ?_); assumption) | ((first | refine WPA.ifBnt ?_ ?_ | refine WPA.ifBf ?_ ?_); assumption) | ((first | refine WPA.ifs ?_ ?_ | refine WPA.ifB ?_ ?_) <;> intro hc))
  revert x; intro x
  refine WPA.loopS (σ := Nat × SV) (fun y => [(4, .slice y.2.a y.2.n y.2.cap), (11, .slice a.a a.n a.cap), (12, .int .i64 xs.length), (13, .int .i64 y.1)]) (fun y => y.1 ≤ xs.length ∧ okKey (xs.take y.1))
    (fun y => SL w0 I (OwnS 5 y.2 (keyK (xs.take y.1)) :: L)) (fun y => xs.length - y.1) (0, x) ⟨rfl, rfl, rfl, rfl, trivial⟩ ⟨Nat.zero_le _, by intro v hv; simp at hv⟩ (fun w h => h) ?_
  rintro ⟨i, r⟩ ρ ⟨hi, hk⟩
  dsimp only at hi hk ⊢
  by_cases hlt : i < xs.length
  · have hlt' : (i : Int) < xs.length := by omega
    have ei := at_nat xs i hlt
    have hm : at_ xs (i : Int) ∈ xs := by rw [ei]; exact List.getElem_mem _
    have et : xs.take (i + 1) = xs.take i ++ [at_ xs (i : Int)] := by rw [List.take_add_one, List.getElem?_eq_getElem hlt, ei]; rfl
    have hkl : (keyK (xs.take i)).length ≤ 3000000 := by rw [keyK_len, List.length_take]; omega
    by_cases h0 : at_ xs (i : Int) < 0
    · rcases h with ⟨h1, -, -⟩ | ⟨-, rfl, rfl⟩
      · exact absurd (h1 _ hm) (by omega)
      · skip
        repeat' (first | ((first | refine WLA.m rfl rfl ?_ ?_ | refine WLA.st rfl ?_ ?_ | refine WLA.x rfl rfl ?_ (fun x => ?_) | refine WLA.x0 rfl ?_ (fun x => ?_)); first | exact trivial | exact rfl | assumption | omega | (refine ⟨?_, ?_⟩ <;> omega) | (simp only [Room, List.length_set, List.length_append, List.length_cons, List.length_nil, List.length_replicate]; omega) | decide | skip) | (refine Stp.go ?_) | (refine WPA.ifT ?_) | (refine WPA.ifF ?_) | (refine WLA.no rfl rfl ?_) | ((first | refine WPA.dec ?_ | ((fail_if_success (guard_target =~ WLA _ _ _ _ _ _ (put1 _ _ (.bool true)) _)); (fail_if_success (guard_target =~ WLA _ _ _ _ _ _ (put1 _ _ (.bool false)) _)); refine WLA.dec rfl rfl ?_) | refine WLA.pk ?_); first | refine .inl ⟨by first | assumption | omega | with_reducible rfl | (refine fun h => h ?_; first | assumption | with_reducible rfl) | (simp only [List.length_append, List.length_cons, List.length_nil, List.length_set] <;> omega) | decide, ?_⟩ | refine .inr ⟨by first | assumption | omega | with_reducible rfl | (refine fun h => h ?_; first | assumption | with_reducible rfl) | (simp only [List.length_append, List.length_cons, List.length_nil, List.length_set] <;> omega) | decide, ?_⟩) | ((first | refine WPA.ifBt ?_ ?_ | refine WPA.ifBnf ?_ ?_); assumption) | ((first | refine WPA.ifBnt ?_ ?_ | refine WPA.ifBf ?_ ?_); assumption) | ((first | refine WPA.ifs ?_ ?_ | refine WPA.ifB ?_ ?_) <;> intro hc) | ((fail_if_success (guard_target =~ WLA _ _ _ _ _ _ (put1 _ _ (.bool true)) _)); (fail_if_success (guard_target =~ WLA _ _ _ _ _ _ (put1 _ _ (.bool false)) _)); (first | refine WLA.both rfl rfl ?_ ?_ | refine WLA.bothB rfl rfl ?_ ?_) <;> intro hg))
        exact QQ.end_ rfl () rfl fun w h => h.to
    by_cases h1 : 16777216 ≤ at_ xs (i : Int)
    · rcases h with ⟨h2, -, -⟩ | ⟨-, rfl, rfl⟩
      · exact absurd (h2 _ hm) (by omega)
      · skip
        repeat' (first | ((first | refine WLA.m rfl rfl ?_ ?_ | refine WLA.st rfl ?_ ?_ | refine WLA.x rfl rfl ?_ (fun x => ?_) | refine WLA.x0 rfl ?_ (fun x => ?_)); first | exact trivial | exact rfl | assumption | omega | (refine ⟨?_, ?_⟩ <;> omega) | (simp only [Room, List.length_set, List.length_append, List.length_cons, List.length_nil, List.length_replicate]; omega) | decide | skip) | (refine Stp.go ?_) | (refine WPA.ifT ?_) | (refine WPA.ifF ?_) | (refine WLA.no rfl rfl ?_) | ((first | refine WPA.dec ?_ | ((fail_if_success (guard_target =~ WLA _ _ _ _ _ _ (put1 _ _ (.bool true)) _)); (fail_if_success (guard_target =~ WLA _ _ _ _ _ _ (put1 _ _ (.bool false)) _)); refine WLA.dec rfl rfl ?_) | refine WLA.pk ?_); first | refine .inl ⟨by first | assumption | omega | with_reducible rfl | (refine fun h => h ?_; first | assumption | with_reducible rfl) | (simp only [List.length_append, List.length_cons, List.length_nil, List.length_set] <;> omega) | decide, ?_⟩ | refine .inr ⟨by first | assumption | omega | with_reducible rfl | (refine fun h => h ?_; first | assumption | with_reducible rfl) | (simp only [List.length_append, List.length_cons, List.length_nil, List.length_set] <;> omega) | decide, ?_⟩) | ((first | refine WPA.ifBt ?_ ?_ | refine WPA.ifBnf ?_ ?_); assumption) | ((first | refine WPA.ifBnt ?_ ?_ | refine WPA.ifBf ?_ ?_); assumption) | ((first | refine WPA.ifs ?_ ?_ | refine WPA.ifB ?_ ?_) <;> intro hc) | ((fail_if_success (guard_target =~ WLA _ _ _ _ _ _ (put1 _ _ (.bool true)) _)); (fail_if_success (guard_target =~ WLA _ _ _ _ _ _ (put1 _ _ (.bool false)) _)); (first | refine WLA.both rfl rfl ?_ ?_ | refine WLA.bothB rfl rfl ?_ ?_) <;> intro hg))
        exact QQ.end_ rfl () rfl fun w h => h.to
    · have e3 : keyK (xs.take (i + 1)) = keyK (xs.take i) ++ [toK .u8 (IntKind.u8.wrap ((at_ xs (i : Int)).fdiv (2 ^ (16 : Int).toNat))), toK .u8 (IntKind.u8.wrap ((at_ xs (i : Int)).fdiv (2 ^ (8 : Int).toNat))), toK .u8 (IntKind.u8.wrap (at_ xs (i : Int)))] := by
        rw [et, keyK_snoc]
        congr 1
        generalize at_ xs (i : Int) = v at h0 h1
        have p1 : v.fdiv (2 ^ (16 : Int).toNat) = v / 65536 := by rw [Int.fdiv_eq_ediv_of_nonneg _ (by decide)]; rfl
        have p2 : v.fdiv (2 ^ (8 : Int).toNat) = v / 256 := by rw [Int.fdiv_eq_ediv_of_nonneg _ (by decide)]; rfl
        rw [p1, p2, IntKind.wrap_u8, IntKind.wrap_u8, IntKind.wrap_u8, show v / 65536 % 256 = v / 65536 by omega]
      have hok : okKey (xs.take (i + 1)) := by
        rw [et]; intro v hv
        rcases List.mem_append.1 hv with hv | hv
        · exact hk v hv
        · rw [List.mem_singleton.1 hv]; exact ⟨by omega, by omega⟩
      repeat' (first | (guard_target =~ WLA _ _ _ _ _ (⟨_, .convert _ _ _, _, _, _, _⟩ :: _) _ _; refine WLA.m (h := convW) rfl rfl trivial ?_) | (guard_target =~ WDQ _ _ _ _ _ _ _ ⟨_, .convert _ _ _, _, _, _, _⟩ _ _ _; refine WDQ.m (h := convW) rfl rfl trivial ?_) | (guard_target =~ WDP _ _ _ _ _ _ _ ⟨_, .convert _ _ _, _, _, _, _⟩ _ _ _; refine WDP.m (h := convW) rfl rfl trivial ?_) | ((first | refine WLA.m rfl rfl ?_ ?_ | refine WLA.st rfl ?_ ?_ | refine WLA.x rfl rfl ?_ (fun x => ?_) | refine WLA.x0 rfl ?_ (fun x => ?_)); first | exact trivial | exact rfl | assumption | omega | (refine ⟨?_, ?_⟩ <;> omega) | (simp only [Room, List.length_set, List.length_append, List.length_cons, List.length_nil, List.length_replicate]; omega) | decide | skip) | (refine Stp.go ?_) | (refine WPA.ifT ?_) | (refine WPA.ifF ?_) | (refine WLA.no rfl rfl ?_) | ((first | refine WPA.dec ?_ | ((fail_if_success (guard_target =~ WLA _ _ _ _ _ _ (put1 _ _ (.bool true)) _)); (fail_if_success (guard_target =~ WLA _ _ _ _ _ _ (put1 _ _ (.bool false)) _)); refine WLA.dec rfl rfl ?_) | refine WLA.pk ?_); first | refine .inl ⟨by first | assumption | omega | with_reducible rfl | (refine fun h => h ?_; first | assumption | with_reducible rfl) | (simp only [List.length_append, List.length_cons, List.length_nil, List.length_set] <;> omega) | decide, ?_⟩ | refine .inr ⟨by first | assumption | omega | with_reducible rfl | (refine fun h => h ?_; first | assumption | with_reducible rfl) | (simp only [List.length_append, List.length_cons, List.length_nil, List.length_set] <;> omega) | decide, ?_⟩) | ((first | refine WPA.ifBt ?_ ?_ | refine WPA.ifBnf ?_ ?_); assumption) | ((first | refine WPA.ifBnt ?_ ?_ | refine WPA.ifBf ?_ ?_); assumption) | ((first | refine WPA.ifs ?_ ?_ | refine WPA.ifB ?_ ?_) <;> intro hc) | ((fail_if_success (guard_target =~ WLA _ _ _ _ _ _ (put1 _ _ (.bool true)) _)); (fail_if_success (guard_target =~ WLA _ _ _ _ _ _ (put1 _ _ (.bool false)) _)); (first | refine WLA.both rfl rfl ?_ ?_ | refine WLA.bothB rfl rfl ?_ ?_) <;> intro hg))
      refine QQ.loopS (i + 1, x) ⟨rfl, rfl, rfl, rfl, trivial⟩ ⟨hlt, hok⟩ (by dsimp only; omega) (fun w h => ?_)
      dsimp only
      rw [e3]
      exact h.to
  · have hlt' : ¬ (i : Int) < xs.length := by omega
    rw [List.take_of_length_le (by omega)] at hk ⊢
    rcases h with ⟨h1, rfl, rfl⟩ | ⟨h1, -, -⟩
    · haveI : IsBytes (keyK xs) (keyS xs) := ⟨keyK_bytes hk⟩
      repeat' (first | ((first | refine WLA.m rfl rfl ?_ ?_ | refine WLA.st rfl ?_ ?_ | refine WLA.x rfl rfl ?_ (fun x => ?_) | refine WLA.x0 rfl ?_ (fun x => ?_)); first | exact trivial | exact rfl | assumption | omega | (refine ⟨?_, ?_⟩ <;> omega) | (simp only [Room, List.length_set, List.length_append, List.length_cons, List.length_nil, List.length_replicate]; omega) | decide | skip) | (refine Stp.go ?_) | (refine WPA.ifT ?_) | (refine WPA.ifF ?_) | ((first | refine WPA.dec ?_); first | refine .inl ⟨by first | assumption | omega | with_reducible rfl | (refine fun h => h ?_; first | assumption | with_reducible rfl) | (simp only [List.length_append, List.length_cons, List.length_nil, List.length_set] <;> omega) | decide, ?_⟩ | refine .inr ⟨by first | assumption | omega | with_reducible rfl | (refine fun h => h ?_; first | assumption | with_reducible rfl) | (simp only [List.length_append, List.length_cons, List.length_nil, List.length_set] <;> omega) | decide, ?_⟩) | ((first | refine WPA.ifBt ?_ ?_ | refine WPA.ifBnf ?_ ?_); assumption) | ((first | refine WPA.ifBnt ?_ ?_ | refine WPA.ifBf ?_ ?_); assumption) | ((first | refine WPA.ifs ?_ ?_ | refine WPA.ifB ?_ ?_) <;> intro hc))
      exact QQ.end_ rfl () rfl fun w h => h.to
    · exact absurd hk h1
theorem rKey_tr {a : SV} {xs : List Int} {k : ByteArray} {e : Bool} [ha : RdS I L a Int inferInstance xs] (hn : xs.length ≤ 1000000) (h : (okKey xs ∧ k = keyS xs ∧ e = true) ∨ (¬ okKey xs ∧ k = ⟨#[]⟩ ∧ e = false)) :
    Tr Try.prog 35 #[.slice a.a a.n a.cap] (SL w0 I L) (fun _ : Unit => .tuple #[.string k, .bool e]) (fun _ => SL w0 I L) := by
  refine Tr.intro Try.func35 rfl Try.ntmps35 rfl ?_
  repeat' (first | ((first | refine WLA.m rfl rfl ?_ ?_ | refine WLA.st rfl ?_ ?_ | refine WLA.x rfl rfl ?_ (fun x => ?_) | refine WLA.x0 rfl ?_ (fun x => ?_)); first | exact trivial | exact rfl | assumption | omega | (refine ⟨?_, ?_⟩ <;> omega) | (simp only [Room, List.length_set, List.length_append, List.length_cons, List.length_nil, List.length_replicate]; omega) | decide | skip) | (refine Stp.go ?_) | (refine WPA.ifT ?_) | (refine WPA.ifF ?_) | ((first | refine WPA.dec ?_); first | refine .inl ⟨by first | assumption | omega | with_reducible rfl | (refine fun h => h ?_; first | assumption | with_reducible rfl) | (simp only [List.length_append, List.length_cons, List.length_nil, List.length_set] <;> omega) | decide, ?_⟩ | refine .inr ⟨by first | assumption | omega | with_reducible rfl | (refine fun h => h ?_; first | assumption | with_reducible rfl) | (simp only [List.length_append, List.length_cons, List.length_nil, List.length_set] <;> omega) | decide, ?_⟩) | ((first | refine WPA.ifBt ?_ ?_ | refine WPA.ifBnf ?_ ?_); assumption) | ((first | refine WPA.ifBnt ?_ ?_ | refine WPA.ifBf ?_ ?_); assumption) | ((first | refine WPA.ifs ?_ ?_ | refine WPA.ifB ?_ ?_) <;> intro hc))
  refine WPA.loopS (σ := Nat) (fun i => [(0, .slice a.a a.n a.cap), (4, .string (keyS (xs.take i))), (5, .int .i64 i)]) (fun i => i ≤ xs.length ∧ okKey (xs.take i))
    (fun i => SL w0 I L) (fun i => xs.length - i) 0 ⟨rfl, rfl, rfl, trivial⟩ ⟨Nat.zero_le _, by intro v hv; simp at hv⟩ (fun w h => h.to) ?_
  rintro i ρ ⟨hi, hk⟩
  by_cases hlt : i < xs.length
  · have hlt' : (i : Int) < xs.length := by omega
    have ei := at_nat xs i hlt
    have hm : at_ xs (i : Int) ∈ xs := by rw [ei]; exact List.getElem_mem _
    have et : xs.take (i + 1) = xs.take i ++ [at_ xs (i : Int)] := by rw [List.take_add_one, List.getElem?_eq_getElem hlt, ei]; rfl
    have hsz : (keyS (xs.take i)).size + (keyS [at_ xs (i : Int)]).size ≤ 9223372036854775807 := by rw [keyS_size, keyS_size, List.length_take]; simp; omega
    by_cases h0 : at_ xs (i : Int) < 0
    · rcases h with ⟨h1, -, -⟩ | ⟨-, rfl, rfl⟩
      · exact absurd (h1 _ hm) (by omega)
      · skip
        repeat' (first | ((first | refine WLA.m rfl rfl ?_ ?_ | refine WLA.st rfl ?_ ?_ | refine WLA.x rfl rfl ?_ (fun x => ?_) | refine WLA.x0 rfl ?_ (fun x => ?_)); first | exact trivial | exact rfl | assumption | omega | (refine ⟨?_, ?_⟩ <;> omega) | (simp only [Room, List.length_set, List.length_append, List.length_cons, List.length_nil, List.length_replicate]; omega) | decide | skip) | (refine Stp.go ?_) | (refine WPA.ifT ?_) | (refine WPA.ifF ?_) | (refine WLA.no rfl rfl ?_) | ((first | refine WPA.dec ?_ | ((fail_if_success (guard_target =~ WLA _ _ _ _ _ _ (put1 _ _ (.bool true)) _)); (fail_if_success (guard_target =~ WLA _ _ _ _ _ _ (put1 _ _ (.bool false)) _)); refine WLA.dec rfl rfl ?_) | refine WLA.pk ?_); first | refine .inl ⟨by first | assumption | omega | with_reducible rfl | (refine fun h => h ?_; first | assumption | with_reducible rfl) | (simp only [List.length_append, List.length_cons, List.length_nil, List.length_set] <;> omega) | decide, ?_⟩ | refine .inr ⟨by first | assumption | omega | with_reducible rfl | (refine fun h => h ?_; first | assumption | with_reducible rfl) | (simp only [List.length_append, List.length_cons, List.length_nil, List.length_set] <;> omega) | decide, ?_⟩) | ((first | refine WPA.ifBt ?_ ?_ | refine WPA.ifBnf ?_ ?_); assumption) | ((first | refine WPA.ifBnt ?_ ?_ | refine WPA.ifBf ?_ ?_); assumption) | ((first | refine WPA.ifs ?_ ?_ | refine WPA.ifB ?_ ?_) <;> intro hc) | ((fail_if_success (guard_target =~ WLA _ _ _ _ _ _ (put1 _ _ (.bool true)) _)); (fail_if_success (guard_target =~ WLA _ _ _ _ _ _ (put1 _ _ (.bool false)) _)); (first | refine WLA.both rfl rfl ?_ ?_ | refine WLA.bothB rfl rfl ?_ ?_) <;> intro hg))
        exact QQ.end_ rfl () rfl fun w h => h.to
    by_cases h1 : 16777215 < at_ xs (i : Int)
    · rcases h with ⟨h2, -, -⟩ | ⟨-, rfl, rfl⟩
      · exact absurd (h2 _ hm) (by omega)
      · skip
        repeat' (first | ((first | refine WLA.m rfl rfl ?_ ?_ | refine WLA.st rfl ?_ ?_ | refine WLA.x rfl rfl ?_ (fun x => ?_) | refine WLA.x0 rfl ?_ (fun x => ?_)); first | exact trivial | exact rfl | assumption | omega | (refine ⟨?_, ?_⟩ <;> omega) | (simp only [Room, List.length_set, List.length_append, List.length_cons, List.length_nil, List.length_replicate]; omega) | decide | skip) | (refine Stp.go ?_) | (refine WPA.ifT ?_) | (refine WPA.ifF ?_) | (refine WLA.no rfl rfl ?_) | ((first | refine WPA.dec ?_ | ((fail_if_success (guard_target =~ WLA _ _ _ _ _ _ (put1 _ _ (.bool true)) _)); (fail_if_success (guard_target =~ WLA _ _ _ _ _ _ (put1 _ _ (.bool false)) _)); refine WLA.dec rfl rfl ?_) | refine WLA.pk ?_); first | refine .inl ⟨by first | assumption | omega | with_reducible rfl | (refine fun h => h ?_; first | assumption | with_reducible rfl) | (simp only [List.length_append, List.length_cons, List.length_nil, List.length_set] <;> omega) | decide, ?_⟩ | refine .inr ⟨by first | assumption | omega | with_reducible rfl | (refine fun h => h ?_; first | assumption | with_reducible rfl) | (simp only [List.length_append, List.length_cons, List.length_nil, List.length_set] <;> omega) | decide, ?_⟩) | ((first | refine WPA.ifBt ?_ ?_ | refine WPA.ifBnf ?_ ?_); assumption) | ((first | refine WPA.ifBnt ?_ ?_ | refine WPA.ifBf ?_ ?_); assumption) | ((first | refine WPA.ifs ?_ ?_ | refine WPA.ifB ?_ ?_) <;> intro hc) | ((fail_if_success (guard_target =~ WLA _ _ _ _ _ _ (put1 _ _ (.bool true)) _)); (fail_if_success (guard_target =~ WLA _ _ _ _ _ _ (put1 _ _ (.bool false)) _)); (first | refine WLA.both rfl rfl ?_ ?_ | refine WLA.bothB rfl rfl ?_ ?_) <;> intro hg))
        exact QQ.end_ rfl () rfl fun w h => h.to
    · have hv0 : 0 ≤ at_ xs (i : Int) := by omega
      have hb : ∀ u ∈ [at_ xs (i : Int)], In24 u := fun u hu => by rw [List.mem_singleton.1 hu]; exact ⟨by omega, by omega⟩
      have hok : okKey (xs.take (i + 1)) := by
        rw [et]; intro v hv
        rcases List.mem_append.1 hv with hv | hv
        · exact hk v hv
        · exact hb v hv
      haveI : IsBytes [toK .u8 (at_ xs (i : Int) / 65536), toK .u8 (at_ xs (i : Int) / 256 % 256), toK .u8 (at_ xs (i : Int) % 256)] (keyS [at_ xs (i : Int)]) := ⟨keyK_bytes hb⟩
      repeat' (first | ((first | refine WLA.m rfl rfl ?_ ?_ | refine WDQ.m rfl rfl ?_ ?_ | refine WLA.st rfl ?_ ?_ | refine WLA.x rfl rfl ?_ (fun x => ?_) | refine WLA.x0 rfl ?_ (fun x => ?_)); first | exact trivial | exact rfl | assumption | omega | (refine ⟨?_, ?_⟩ <;> omega) | (simp only [Room, List.length_set, List.length_append, List.length_cons, List.length_nil, List.length_replicate]; omega) | decide | skip) | (refine Stp.go ?_) | (refine WPA.ifT ?_) | (refine WPA.ifF ?_) | (refine WLA.no rfl rfl ?_) | ((first | refine WPA.dec ?_ | ((fail_if_success (guard_target =~ WLA _ _ _ _ _ _ (put1 _ _ (.bool true)) _)); (fail_if_success (guard_target =~ WLA _ _ _ _ _ _ (put1 _ _ (.bool false)) _)); refine WLA.dec rfl rfl ?_) | refine WLA.pk ?_); first | refine .inl ⟨by first | assumption | omega | with_reducible rfl | (refine fun h => h ?_; first | assumption | with_reducible rfl) | (simp only [List.length_append, List.length_cons, List.length_nil, List.length_set] <;> omega) | decide, ?_⟩ | refine .inr ⟨by first | assumption | omega | with_reducible rfl | (refine fun h => h ?_; first | assumption | with_reducible rfl) | (simp only [List.length_append, List.length_cons, List.length_nil, List.length_set] <;> omega) | decide, ?_⟩) | ((first | refine WPA.ifBt ?_ ?_ | refine WPA.ifBnf ?_ ?_); assumption) | ((first | refine WPA.ifBnt ?_ ?_ | refine WPA.ifBf ?_ ?_); assumption) | ((first | refine WPA.ifs ?_ ?_ | refine WPA.ifB ?_ ?_) <;> intro hc) | ((fail_if_success (guard_target =~ WLA _ _ _ _ _ _ (put1 _ _ (.bool true)) _)); (fail_if_success (guard_target =~ WLA _ _ _ _ _ _ (put1 _ _ (.bool false)) _)); (first | refine WLA.both rfl rfl ?_ ?_ | refine WLA.bothB rfl rfl ?_ ?_) <;> intro hg) | (guard_target =~ WPA _ _ _ (.region 7 _ true) _ _ _; refine WPA.drawT 22 (.q 0 (.q 1 (.q 2 (.q 3 (.q 4 (.q 5 (.q 6 (.q 7 (.q 8 (.q 9 (.q 10 (.q 11 (.q 12 (.q 13 (.q 14 (.q 15 (.q 16 (.q 17 (.q 18 (.q 19 (.e 20 (.q 21 .fin)))))))))))))))))))))) mixed ?_ ?_; kernel_rfl) | (refine WDA.finish (tl := [⟨_, _, _, _, _, _⟩, ⟨_, _, _, _, _, _⟩]) rfl ?_) | (refine WDQ.see rfl ?_) | (refine WDE.see rfl ?_) | (refine WDE.alloc rfl rfl (fun w h => h) (fun x => ?_)) | (refine WDE.stE rfl ?_) | (refine WDE.x rfl rfl ?_ ?_ (fun x => ?_); rotate_left 1; (intro x w h; first | exact h | exact Ent.drop1.sl h | exact SL.unI h | exact SL.to h); rotate_left 1; first | exact trivial | exact rfl | assumption | omega | (refine ⟨?_, ?_⟩ <;> omega) | (simp only [Room, List.length_set, List.length_append, List.length_cons, List.length_nil, List.length_replicate]; omega) | decide | skip))
      refine QQ.loopS (i + 1) ⟨rfl, ?_, rfl, trivial⟩ ⟨hlt, hok⟩ (by omega) (fun w h => h.to)
      show Value.string _ = Value.string _
      rw [et, keyS_snoc]
  · have hlt' : ¬ (i : Int) < xs.length := by omega
    rw [List.take_of_length_le (by omega)] at hk ⊢
    rcases h with ⟨h1, rfl, rfl⟩ | ⟨h1, -, -⟩
    · skip
      repeat' (first | ((first | refine WLA.m rfl rfl ?_ ?_ | refine WLA.st rfl ?_ ?_ | refine WLA.x rfl rfl ?_ (fun x => ?_) | refine WLA.x0 rfl ?_ (fun x => ?_)); first | exact trivial | exact rfl | assumption | omega | (refine ⟨?_, ?_⟩ <;> omega) | (simp only [Room, List.length_set, List.length_append, List.length_cons, List.length_nil, List.length_replicate]; omega) | decide | skip) | (refine Stp.go ?_) | (refine WPA.ifT ?_) | (refine WPA.ifF ?_) | ((first | refine WPA.dec ?_); first | refine .inl ⟨by first | assumption | omega | with_reducible rfl | (refine fun h => h ?_; first | assumption | with_reducible rfl) | (simp only [List.length_append, List.length_cons, List.length_nil, List.length_set] <;> omega) | decide, ?_⟩ | refine .inr ⟨by first | assumption | omega | with_reducible rfl | (refine fun h => h ?_; first | assumption | with_reducible rfl) | (simp only [List.length_append, List.length_cons, List.length_nil, List.length_set] <;> omega) | decide, ?_⟩) | ((first | refine WPA.ifBt ?_ ?_ | refine WPA.ifBnf ?_ ?_); assumption) | ((first | refine WPA.ifBnt ?_ ?_ | refine WPA.ifBf ?_ ?_); assumption) | ((first | refine WPA.ifs ?_ ?_ | refine WPA.ifB ?_ ?_) <;> intro hc))
      exact QQ.end_ rfl () rfl fun w h => h.to
    · exact absurd hk h1
/-- The numbers of bytes. -/
def par3 (t : ByteArray) (j : Nat) : Int := bt t ((3 * j : Nat) : Int) * 65536 + bt t (((3 * j : Nat) : Int) + 1) * 256 + bt t (((3 * j : Nat) : Int) + 2)
def parL (t : ByteArray) : List Int := (List.range (t.size / 3)).map (par3 t)
theorem gParse_no {t : ByteArray} (h : t.size % 3 ≠ 0) :
    Tr Try.prog 36 #[.string t] (SL w0 I L) (fun _ : Unit => .tuple #[.slice SV.nil.a SV.nil.n SV.nil.cap, .int .i64 3]) (fun _ => SL w0 I L) := by
  refine Tr.intro Try.func36 rfl Try.ntmps36 rfl ?_
  have h0 : (t.size : Int) % 3 ≠ 0 := by omega
  repeat' (first | ((first | refine WLA.m rfl rfl ?_ ?_ | refine WLA.st rfl ?_ ?_ | refine WLA.x rfl rfl ?_ (fun x => ?_) | refine WLA.x0 rfl ?_ (fun x => ?_)); first | exact trivial | exact rfl | assumption | omega | (refine ⟨?_, ?_⟩ <;> omega) | (simp only [Room, List.length_set, List.length_append, List.length_cons, List.length_nil, List.length_replicate]; omega) | decide | skip) | (refine Stp.go ?_) | (refine WPA.ifT ?_) | (refine WPA.ifF ?_) | ((first | refine WPA.dec ?_); first | refine .inl ⟨by first | assumption | omega | with_reducible rfl | (refine fun h => h ?_; first | assumption | with_reducible rfl) | (simp only [List.length_append, List.length_cons, List.length_nil, List.length_set] <;> omega) | decide, ?_⟩ | refine .inr ⟨by first | assumption | omega | with_reducible rfl | (refine fun h => h ?_; first | assumption | with_reducible rfl) | (simp only [List.length_append, List.length_cons, List.length_nil, List.length_set] <;> omega) | decide, ?_⟩) | ((first | refine WPA.ifBt ?_ ?_ | refine WPA.ifBnf ?_ ?_); assumption) | ((first | refine WPA.ifBnt ?_ ?_ | refine WPA.ifBf ?_ ?_); assumption) | ((first | refine WPA.ifs ?_ ?_ | refine WPA.ifB ?_ ?_) <;> intro hc))
  exact QQ.end_ rfl () rfl fun w h => h.to
theorem gParse_ok {t : ByteArray} (h : t.size % 3 = 0) (hn : t.size ≤ 1000000) :
    Tr Try.prog 36 #[.string t] (SL w0 I L) (fun r : SV => .tuple #[.slice r.a r.n r.cap, .int .i64 0]) (fun r => SL w0 I (OwnS 3 r (parL t) :: L)) := by
  refine Tr.intro Try.func36 rfl Try.ntmps36 rfl ?_
  have h0 : ¬ (t.size : Int) % 3 ≠ 0 := by omega
  repeat' (first | ((first | refine WLA.m rfl rfl ?_ ?_ | refine WLA.st rfl ?_ ?_ | refine WLA.x rfl rfl ?_ (fun x => ?_) | refine WLA.x0 rfl ?_ (fun x => ?_)); first | exact trivial | exact rfl | assumption | omega | (refine ⟨?_, ?_⟩ <;> omega) | (simp only [Room, List.length_set, List.length_append, List.length_cons, List.length_nil, List.length_replicate]; omega) | decide | skip) | (refine Stp.go ?_) | (refine WPA.ifT ?_) | (refine WPA.ifF ?_) | ((first | refine WPA.dec ?_); first | refine .inl ⟨by first | assumption | omega | with_reducible rfl | (refine fun h => h ?_; first | assumption | with_reducible rfl) | (simp only [List.length_append, List.length_cons, List.length_nil, List.length_set] <;> omega) | decide, ?_⟩ | refine .inr ⟨by first | assumption | omega | with_reducible rfl | (refine fun h => h ?_; first | assumption | with_reducible rfl) | (simp only [List.length_append, List.length_cons, List.length_nil, List.length_set] <;> omega) | decide, ?_⟩) | ((first | refine WPA.ifBt ?_ ?_ | refine WPA.ifBnf ?_ ?_); assumption) | ((first | refine WPA.ifBnt ?_ ?_ | refine WPA.ifBf ?_ ?_); assumption) | ((first | refine WPA.ifs ?_ ?_ | refine WPA.ifB ?_ ?_) <;> intro hc))
  revert x; intro x
  refine WPA.loopS (σ := Nat × SV) (fun y => [(0, .string t), (4, .slice y.2.a y.2.n y.2.cap), (5, .int .i64 ((3 * y.1 : Nat) : Int))]) (fun y => 3 * y.1 ≤ t.size)
    (fun y => SL w0 I (OwnS 3 y.2 ((List.range y.1).map (par3 t)) :: L)) (fun y => t.size - y.1) (0, x) ⟨rfl, rfl, rfl, trivial⟩ (Nat.zero_le _) (fun w h => h) ?_
  rintro ⟨j, r⟩ ρ hj
  dsimp only at hj ⊢
  by_cases hlt : 3 * j < t.size
  · have hlt' : ((3 * j : Nat) : Int) < (t.size : Int) := by omega
    have q0 := bt_range t ((3 * j : Nat) : Int)
    have q1 := bt_range t (((3 * j : Nat) : Int) + 1)
    have q2 := bt_range t (((3 * j : Nat) : Int) + 2)
    have e3 : Go.bits .or .i64 (Go.bits .or .i64 (bt t ((3 * j : Nat) : Int) * 65536) (bt t (((3 * j : Nat) : Int) + 1) * 256)) (bt t (((3 * j : Nat) : Int) + 2)) = par3 t j := by
      have i1 := or_i64 (a := bt t ((3 * j : Nat) : Int) * 65536) (b := bt t (((3 * j : Nat) : Int) + 1) * 256) 16 (by omega) (by omega) (by omega) (by decide)
      rw [i1, or_i64 8 (by omega) (by omega) (by omega) (by decide)]
      rfl
    have hll : ((List.range j).map (par3 t)).length ≤ 1000000 := by rw [List.length_map, List.length_range]; omega
    repeat' (first | ((first | refine WLA.m rfl rfl ?_ ?_ | refine WDQ.m rfl rfl ?_ ?_ | refine WLA.st rfl ?_ ?_ | refine WLA.x rfl rfl ?_ (fun x => ?_) | refine WLA.x0 rfl ?_ (fun x => ?_)); first | exact trivial | exact rfl | assumption | omega | (refine ⟨?_, ?_⟩ <;> omega) | (simp only [Room, List.length_set, List.length_append, List.length_cons, List.length_nil, List.length_replicate]; omega) | decide | skip) | (refine Stp.go ?_) | (refine WPA.ifT ?_) | (refine WPA.ifF ?_) | ((first | refine WPA.dec ?_); first | refine .inl ⟨by first | assumption | omega | with_reducible rfl | (refine fun h => h ?_; first | assumption | with_reducible rfl) | (simp only [List.length_append, List.length_cons, List.length_nil, List.length_set] <;> omega) | decide, ?_⟩ | refine .inr ⟨by first | assumption | omega | with_reducible rfl | (refine fun h => h ?_; first | assumption | with_reducible rfl) | (simp only [List.length_append, List.length_cons, List.length_nil, List.length_set] <;> omega) | decide, ?_⟩) | ((first | refine WPA.ifBt ?_ ?_ | refine WPA.ifBnf ?_ ?_); assumption) | ((first | refine WPA.ifBnt ?_ ?_ | refine WPA.ifBf ?_ ?_); assumption) | ((first | refine WPA.ifs ?_ ?_ | refine WPA.ifB ?_ ?_) <;> intro hc) | (guard_target =~ WPA _ _ _ (.region 7 _ true) _ _ _; refine WPA.drawT 20 (.q 0 (.q 1 (.q 2 (.q 3 (.q 4 (.q 5 (.q 6 (.q 7 (.q 8 (.q 9 (.q 10 (.q 11 (.q 12 (.q 13 (.q 14 (.q 15 (.q 16 (.q 17 (.q 18 (.e 19 .fin)))))))))))))))))))) mixed ?_ ?_; kernel_rfl) | (refine WDA.finish (tl := [⟨_, _, _, _, _, _⟩, ⟨_, _, _, _, _, _⟩]) rfl ?_) | (refine WDQ.see rfl ?_) | (refine WDE.see rfl ?_) | (refine WDE.alloc rfl rfl (fun w h => h) (fun x => ?_)) | (refine WDE.stE rfl ?_) | (refine WDE.x rfl rfl ?_ ?_ (fun x => ?_); rotate_left 1; (intro x w h; first | exact h | exact Ent.drop1.sl h | exact SL.unI h | exact SL.to h); rotate_left 1; first | exact trivial | exact rfl | assumption | omega | (refine ⟨?_, ?_⟩ <;> omega) | (simp only [Room, List.length_set, List.length_append, List.length_cons, List.length_nil, List.length_replicate]; omega) | decide | skip))
    refine QQ.loopS (j + 1, x) ⟨rfl, rfl, rfl, trivial⟩ (by dsimp only; omega) (by dsimp only; omega) (fun w h => ?_)
    dsimp only
    rw [List.range_succ, List.map_append, List.map_cons, List.map_nil, ← e3]
    exact h.to
  · have hlt' : ¬ ((3 * j : Nat) : Int) < (t.size : Int) := by omega
    have ej : j = t.size / 3 := by omega
    repeat' (first | ((first | refine WLA.m rfl rfl ?_ ?_ | refine WLA.st rfl ?_ ?_ | refine WLA.x rfl rfl ?_ (fun x => ?_) | refine WLA.x0 rfl ?_ (fun x => ?_)); first | exact trivial | exact rfl | assumption | omega | (refine ⟨?_, ?_⟩ <;> omega) | (simp only [Room, List.length_set, List.length_append, List.length_cons, List.length_nil, List.length_replicate]; omega) | decide | skip) | (refine Stp.go ?_) | (refine WPA.ifT ?_) | (refine WPA.ifF ?_) | ((first | refine WPA.dec ?_); first | refine .inl ⟨by first | assumption | omega | with_reducible rfl | (refine fun h => h ?_; first | assumption | with_reducible rfl) | (simp only [List.length_append, List.length_cons, List.length_nil, List.length_set] <;> omega) | decide, ?_⟩ | refine .inr ⟨by first | assumption | omega | with_reducible rfl | (refine fun h => h ?_; first | assumption | with_reducible rfl) | (simp only [List.length_append, List.length_cons, List.length_nil, List.length_set] <;> omega) | decide, ?_⟩) | ((first | refine WPA.ifBt ?_ ?_ | refine WPA.ifBnf ?_ ?_); assumption) | ((first | refine WPA.ifBnt ?_ ?_ | refine WPA.ifBf ?_ ?_); assumption) | ((first | refine WPA.ifs ?_ ?_ | refine WPA.ifB ?_ ?_) <;> intro hc))
    refine QQ.end_ rfl r rfl fun w h => ?_
    unfold parL
    rw [← ej]
    exact h.to
end
end Go.Proofs.Ytlodbajaoadhdaa
