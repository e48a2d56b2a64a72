/- Lines: the iterator, and the reference's. Conditions: none. -/
import Derived.Test.YtlodbajaoadhdaaTk4
namespace Go.Proofs.Ytlodbajaoadhdaa
open Go Go.Fw Go.RowKit
set_option linter.unusedVariables false
set_option linter.unusedSimpArgs false
set_option maxRecDepth 100000
set_option maxHeartbeats 16000000
set_option synthInstance.maxHeartbeats 200000
set_option synthInstance.maxSize 100000
attribute [local irreducible] WPA WLA WDA WDQ WDE QQ seqQ blockQ loopQ fnQ OpP OpT Tr TrP SL SLd OwnS LitS Bk BkE Ob

/-- The lines of s from i = s.size - k on, the present one having begun at f. -/
def lns (s : ByteArray) (f : Nat) : Nat → List ByteArray
  | 0 => [s.extract f s.size]
  | k + 1 => if bt s (s.size - (k + 1) : Nat) = 10 then s.extract f (s.size - (k + 1)) :: lns s (s.size - (k + 1) + 1) k else lns s f k
def linesL (s : ByteArray) : List ByteArray := lns s 0 s.size
theorem lns_at {s : ByteArray} {f i : Nat} (h : i < s.size) : lns s f (s.size - i) = if bt s (i : Nat) = 10 then s.extract f i :: lns s (i + 1) (s.size - (i + 1)) else lns s f (s.size - (i + 1)) := by
  have ek : s.size - i = (s.size - (i + 1)) + 1 := by omega
  have ei : s.size - (s.size - (i + 1) + 1) = i := by omega
  rw [ek, lns, ei]
theorem lns_none {s : ByteArray} {f : Nat} : ∀ (k : Nat), k ≤ s.size → (∀ j, s.size - k ≤ j → j < s.size → bt s (j : Nat) ≠ 10) → lns s f k = [s.extract f s.size]
  | 0, _, _ => rfl
  | k + 1, hk, h => by
    rw [lns, if_neg (h _ (Nat.le_refl _) (by omega))]
    exact lns_none k (by omega) fun j h1 h2 => h j (by omega) h2
theorem lns_hit {s : ByteArray} {f i : Nat} (hi : i < s.size) (hb : bt s (i : Nat) = 10) : ∀ (d j : Nat), j + d = i → (∀ q, j ≤ q → q < i → bt s (q : Nat) ≠ 10) → lns s f (s.size - j) = s.extract f i :: lns s (i + 1) (s.size - (i + 1))
  | 0, j, hj, _ => by
    have : j = i := by omega
    subst this
    rw [lns_at hi, if_pos hb]
  | d + 1, j, hj, h => by
    rw [lns_at (by omega), if_neg (h j (Nat.le_refl _) (by omega))]
    exact lns_hit hi hb d (j + 1) (by omega) fun q h1 h2 => h q (by omega) h2
theorem ext_full (s : ByteArray) : s.extract 0 s.size = s := by
  ext1; rw [ByteArray.data_extract]; simp
theorem ext_size (s : ByteArray) (f : Nat) (h : f ≤ s.size) : (s.extract f s.size).size = s.size - f := by simp
theorem ext_ext (s : ByteArray) (f a b : Nat) (h : f + b ≤ s.size) : (s.extract f s.size).extract a b = s.extract (f + a) (f + b) := by
  ext1
  simp only [ByteArray.data_extract]
  rw [Array.extract_extract]
  congr 1
  have : s.data.size = s.size := rfl
  omega
theorem ext_at (s : ByteArray) (f j : Nat) : (s.extract f s.size).data.toList[j]? = s.data.toList[f + j]? := by
  rw [ByteArray.data_extract, Array.getElem?_toList, Array.getElem?_toList, Array.getElem?_extract]
  have : s.data.size = s.size := rfl
  split
  · rfl
  · rw [Array.getElem?_eq_none (by omega)]
/-- What Cut finds in the rest of s from f on. -/
theorem rest_cut {s : ByteArray} {f : Nat} (hf : f ≤ s.size) :
    (nlAt (s.extract f s.size) = -1 ∧ lns s f (s.size - f) = [s.extract f s.size]) ∨
    ∃ i : Nat, nlAt (s.extract f s.size) = i ∧ f + i < s.size ∧ lns s f (s.size - f) = s.extract f (f + i) :: lns s (f + i + 1) (s.size - (f + i + 1)) := by
  unfold nlAt
  rcases ib_spec (s.extract f s.size).data.toList 10 with ⟨h1, h2⟩ | ⟨i, h1, h2, h3⟩
  · left
    refine ⟨h1, lns_none _ (by omega) fun j hj hj2 e => h2 (j - f) ?_⟩
    rw [ext_at, show f + (j - f) = j by omega]
    exact (bt_list hj2).1 e
  · right
    rw [ext_at] at h2
    have hi : f + i < s.size := by
      have := (List.getElem?_eq_some_iff.1 h2).1
      rw [Array.length_toList] at this
      exact this
    refine ⟨i, h1, hi, lns_hit hi ((bt_list hi).2 h2) i f rfl fun q hq hq2 e => h3 (q - f) (by omega) ?_⟩
    rw [ext_at, show f + (q - f) = q by omega]
    exact (bt_list (by omega)).1 e
theorem Lines_tr {s : ByteArray} {L : List HP} (w0 : World) (I : Foot) : Tr Try.prog 121 #[.string s] (SL w0 I L) (fun b : Nat => .func (.func 146) #[] #[.pointer (some ⟨b, 0, none⟩)]) (fun b => SL w0 I (Bk b 9 [.string s] :: L)) := by
  refine Tr.intro Try.func121 rfl Try.ntmps121 rfl ?_
  repeat' (first | ((first | refine WLA.m rfl rfl ?_ ?_ | refine WLA.st rfl ?_ ?_ | refine WLA.x rfl rfl ?_ (fun x => ?_) | refine WLA.x0 rfl ?_ (fun x => ?_)); first | exact trivial | exact rfl | assumption | omega | (refine ⟨?_, ?_⟩ <;> omega) | (simp only [Room, List.length_set, List.length_append, List.length_cons, List.length_nil, List.length_replicate]; omega) | decide | skip) | (refine Stp.go ?_) | (refine WPA.ifT ?_) | (refine WPA.ifF ?_) | ((first | refine WPA.dec ?_); first | refine .inl ⟨by first | assumption | omega | with_reducible rfl | (refine fun h => h ?_; first | assumption | with_reducible rfl) | (simp only [List.length_append, List.length_cons, List.length_nil, List.length_set] <;> omega) | decide, ?_⟩ | refine .inr ⟨by first | assumption | omega | with_reducible rfl | (refine fun h => h ?_; first | assumption | with_reducible rfl) | (simp only [List.length_append, List.length_cons, List.length_nil, List.length_set] <;> omega) | decide, ?_⟩) | ((first | refine WPA.ifBt ?_ ?_ | refine WPA.ifBnf ?_ ?_); assumption) | ((first | refine WPA.ifBnt ?_ ?_ | refine WPA.ifBf ?_ ?_); assumption) | ((first | refine WPA.ifs ?_ ?_ | refine WPA.ifB ?_ ?_) <;> intro hc))
  exact QQ.end_ rfl _ rfl fun w h => h.to
/-- The iterator over the lines: the rounds' state is the caller's. -/
theorem Lines1_tr {Bx lb : Nat} {s : ByteArray} {w0 : World} {I : Foot} {τ ω : Type} (Lk : τ → List HP) (ls : τ → List ByteArray) (ix : τ → Int) (C : τ → Prop) (B : ω → World → Prop) (hs : s.size ≤ 1000000) (hix : ∀ x, C x → 0 ≤ ix x ∧ ix x ≤ 10000000)
    (hy : ∀ x p tl, C x → ls x = p :: tl → YTr Try.prog lb #[.int .i64 (ix x), .string p] (SL w0 I (Bk Bx 9 [.string s] :: Lk x)) (fun y : τ ⊕ ω => .bool y.isLeft)
      (fun y w => match y with | .inl x' => (C x' ∧ ls x' = tl ∧ ix x' = ix x + 1) ∧ SL w0 I (Bk Bx 9 [.string s] :: Lk x') w | .inr z => B z w))
    (x0 : τ) (hC : C x0) (hls : ls x0 = linesL s) (hx0 : ix x0 = 0) :
    Tr Try.prog 146 #[.func (.yield lb) #[] #[], .pointer (some ⟨Bx, 0, none⟩)] (SL w0 I (Bk Bx 9 [.string s] :: Lk x0)) (fun _ : τ ⊕ ω => .tuple #[])
      (fun y w => match y with | .inl x' => (C x' ∧ ls x' = []) ∧ SL w0 I (Bk Bx 9 [.string s] :: Lk x') w | .inr z => B z w) := by
  refine Tr.intro Try.func146 rfl Try.ntmps146 rfl ?_
  repeat' (first | ((first | refine WLA.m rfl rfl ?_ ?_ | refine WLA.st rfl ?_ ?_ | refine WLA.x rfl rfl ?_ (fun x => ?_) | refine WLA.x0 rfl ?_ (fun x => ?_)); first | exact trivial | exact rfl | assumption | omega | (refine ⟨?_, ?_⟩ <;> omega) | (simp only [Room, List.length_set, List.length_append, List.length_cons, List.length_nil, List.length_replicate]; omega) | decide | skip) | (refine Stp.go ?_) | (refine WPA.ifT ?_) | (refine WPA.ifF ?_) | ((first | refine WPA.dec ?_); first | refine .inl ⟨by first | assumption | omega | with_reducible rfl | (refine fun h => h ?_; first | assumption | with_reducible rfl) | (simp only [List.length_append, List.length_cons, List.length_nil, List.length_set] <;> omega) | decide, ?_⟩ | refine .inr ⟨by first | assumption | omega | with_reducible rfl | (refine fun h => h ?_; first | assumption | with_reducible rfl) | (simp only [List.length_append, List.length_cons, List.length_nil, List.length_set] <;> omega) | decide, ?_⟩) | ((first | refine WPA.ifBt ?_ ?_ | refine WPA.ifBnf ?_ ?_); assumption) | ((first | refine WPA.ifBnt ?_ ?_ | refine WPA.ifBf ?_ ?_); assumption) | ((first | refine WPA.ifs ?_ ?_ | refine WPA.ifB ?_ ?_) <;> intro hc))
  refine WPA.loopS (σ := Nat × τ) (fun x => [(0, .func (.yield lb) #[] #[]), (3, .string (s.extract x.1 s.size)), (4, .int .i64 (ix x.2))]) (fun x => x.1 ≤ s.size ∧ C x.2 ∧ ls x.2 = lns s x.1 (s.size - x.1))
    (fun x => SL w0 I (Bk Bx 9 [.string s] :: Lk x.2)) (fun x => s.size - x.1) (0, x0) ⟨rfl, by rw [ext_full]; rfl, by rw [hx0]; rfl, trivial⟩ ⟨Nat.zero_le _, hC, hls⟩ (fun w h => h) ?_
  rintro ⟨f, st⟩ ρ ⟨hf, hCx, hl⟩
  dsimp only at hf hCx hl ⊢
  have hi := hix st hCx
  have hsz := ext_size s f hf
  have hsm : (s.extract f s.size).size ≤ 1000000 := by omega
  rcases rest_cut hf with ⟨h1, h2⟩ | ⟨i, h1, h2, h3⟩
  · rw [h2] at hl
    have hcut : ∀ {L : List HP}, TrP Try.prog 147 #[.string (s.extract f s.size), .string ⟨#[10]⟩] (SL w0 I L) (.tuple #[.string (s.extract f s.size), .string ⟨#[]⟩, .bool false]) := by
      intro L
      have := Cut_tr (L := L) (w0 := w0) (I := I) hsm
      rw [h1, if_neg (by decide), if_neg (by decide)] at this
      exact this
    repeat' (first | ((first | refine WLA.m rfl rfl ?_ ?_ | refine WLA.st rfl ?_ ?_ | refine WLA.x rfl rfl ?_ (fun x => ?_) | refine WLA.x0 rfl ?_ (fun x => ?_)); first | exact trivial | exact rfl | assumption | omega | (refine ⟨?_, ?_⟩ <;> omega) | (simp only [Room, List.length_set, List.length_append, List.length_cons, List.length_nil, List.length_replicate]; omega) | decide | skip) | (refine Stp.go ?_) | (guard_target =~ WLA _ _ _ _ _ (⟨_, .call ⟨.value (.func 147), _, _⟩, _, _, _, _⟩ :: _) _ _; refine WLA.cq rfl rfl (hcut) ?_) | (guard_target =~ WLA _ _ _ _ _ (⟨_, .call ⟨.value (.tmp _), _, _⟩, _, _, _, _⟩ :: _) _ _; refine WLA.yield rfl rfl ((hy st _ _ hCx hl).ent) ?_; rintro (x' | z) <;> dsimp only [Sum.isLeft_inl, Sum.isLeft_inr, Bool.not_true, Bool.not_false]) | (refine WPA.ifT ?_) | (refine WPA.ifF ?_) | (refine WLA.no rfl rfl ?_) | ((first | refine WPA.dec ?_ | ((fail_if_success (guard_target =~ WLA _ _ _ _ _ _ (put1 _ _ (.bool true)) _)); (fail_if_success (guard_target =~ WLA _ _ _ _ _ _ (put1 _ _ (.bool false)) _)); refine WLA.dec rfl rfl ?_) | refine WLA.pk ?_); first | refine .inl ⟨by first | assumption | omega | with_reducible rfl | (refine fun h => h ?_; first | assumption | with_reducible rfl) | (simp only [List.length_append, List.length_cons, List.length_nil, List.length_set] <;> omega) | decide, ?_⟩ | refine .inr ⟨by first | assumption | omega | with_reducible rfl | (refine fun h => h ?_; first | assumption | with_reducible rfl) | (simp only [List.length_append, List.length_cons, List.length_nil, List.length_set] <;> omega) | decide, ?_⟩) | ((first | refine WPA.ifBt ?_ ?_ | refine WPA.ifBnf ?_ ?_); assumption) | ((first | refine WPA.ifBnt ?_ ?_ | refine WPA.ifBf ?_ ?_); assumption) | ((first | refine WPA.ifs ?_ ?_ | refine WPA.ifB ?_ ?_) <;> intro hc) | ((fail_if_success (guard_target =~ WLA _ _ _ _ _ _ (put1 _ _ (.bool true)) _)); (fail_if_success (guard_target =~ WLA _ _ _ _ _ _ (put1 _ _ (.bool false)) _)); (first | refine WLA.both rfl rfl ?_ ?_ | refine WLA.bothB rfl rfl ?_ ?_) <;> intro hg))
    · refine QQ.pre fun hC' => ?_
      exact QQ.end_ rfl (.inl x') rfl fun w h => ⟨⟨hC'.1, hC'.2.1⟩, h⟩
    · exact QQ.end_ rfl (.inr z) rfl fun w h => h
  · rw [h3] at hl
    have hcut : ∀ {L : List HP}, TrP Try.prog 147 #[.string (s.extract f s.size), .string ⟨#[10]⟩] (SL w0 I L) (.tuple #[.string (s.extract f (f + i)), .string (s.extract (f + i + 1) s.size), .bool true]) := by
      intro L
      have := Cut_tr (L := L) (w0 := w0) (I := I) hsm
      rw [h1, if_pos (by omega), if_pos (by omega), decide_eq_true (by omega), hsz, show ((i : Int) + 1).toNat = i + 1 by omega, Int.toNat_natCast, ext_ext s f 0 i (by omega), ext_ext s f (i + 1) (s.size - f) (by omega)] at this
      rw [show f + 0 = f by omega, show f + (i + 1) = f + i + 1 by omega, show f + (s.size - f) = s.size by omega] at this
      exact this
    repeat' (first | ((first | refine WLA.m rfl rfl ?_ ?_ | refine WLA.st rfl ?_ ?_ | refine WLA.x rfl rfl ?_ (fun x => ?_) | refine WLA.x0 rfl ?_ (fun x => ?_)); first | exact trivial | exact rfl | assumption | omega | (refine ⟨?_, ?_⟩ <;> omega) | (simp only [Room, List.length_set, List.length_append, List.length_cons, List.length_nil, List.length_replicate]; omega) | decide | skip) | (refine Stp.go ?_) | (guard_target =~ WLA _ _ _ _ _ (⟨_, .call ⟨.value (.func 147), _, _⟩, _, _, _, _⟩ :: _) _ _; refine WLA.cq rfl rfl (hcut) ?_) | (guard_target =~ WLA _ _ _ _ _ (⟨_, .call ⟨.value (.tmp _), _, _⟩, _, _, _, _⟩ :: _) _ _; refine WLA.yield rfl rfl ((hy st _ _ hCx hl).ent) ?_; rintro (x' | z) <;> dsimp only [Sum.isLeft_inl, Sum.isLeft_inr, Bool.not_true, Bool.not_false]) | (refine WPA.ifT ?_) | (refine WPA.ifF ?_) | (refine WLA.no rfl rfl ?_) | ((first | refine WPA.dec ?_ | ((fail_if_success (guard_target =~ WLA _ _ _ _ _ _ (put1 _ _ (.bool true)) _)); (fail_if_success (guard_target =~ WLA _ _ _ _ _ _ (put1 _ _ (.bool false)) _)); refine WLA.dec rfl rfl ?_) | refine WLA.pk ?_); first | refine .inl ⟨by first | assumption | omega | with_reducible rfl | (refine fun h => h ?_; first | assumption | with_reducible rfl) | (simp only [List.length_append, List.length_cons, List.length_nil, List.length_set] <;> omega) | decide, ?_⟩ | refine .inr ⟨by first | assumption | omega | with_reducible rfl | (refine fun h => h ?_; first | assumption | with_reducible rfl) | (simp only [List.length_append, List.length_cons, List.length_nil, List.length_set] <;> omega) | decide, ?_⟩) | ((first | refine WPA.ifBt ?_ ?_ | refine WPA.ifBnf ?_ ?_); assumption) | ((first | refine WPA.ifBnt ?_ ?_ | refine WPA.ifBf ?_ ?_); assumption) | ((first | refine WPA.ifs ?_ ?_ | refine WPA.ifB ?_ ?_) <;> intro hc) | ((fail_if_success (guard_target =~ WLA _ _ _ _ _ _ (put1 _ _ (.bool true)) _)); (fail_if_success (guard_target =~ WLA _ _ _ _ _ _ (put1 _ _ (.bool false)) _)); (first | refine WLA.both rfl rfl ?_ ?_ | refine WLA.bothB rfl rfl ?_ ?_) <;> intro hg))
    · refine QQ.pre fun hC' => ?_
      refine QQ.loopS (f + i + 1, x') ⟨rfl, rfl, by rw [hC'.2.2]; rfl, trivial⟩ ⟨h2, hC'.1, hC'.2.1⟩ (by dsimp only; omega) (fun w h => h)
    · exact QQ.end_ rfl (.inr z) rfl fun w h => h
/-- Where, where the line began, the lines so far, their slice. -/
structure RL where
  i : Nat
  f : Nat
  out : List ByteArray
  r : SV
theorem rLines_tr {s : ByteArray} {L : List HP} (w0 : World) (I : Foot) (hs : s.size ≤ 1000000) : Tr Try.prog 123 #[.string s] (SL w0 I L) (fun r : SV => .slice r.a r.n r.cap) (fun r => SL w0 I (OwnS 9 r (linesL s) :: L)) := by
  refine Tr.intro Try.func123 rfl Try.ntmps123 rfl ?_
  repeat' (first | ((first | refine WLA.m rfl rfl ?_ ?_ | refine WLA.st rfl ?_ ?_ | refine WLA.x rfl rfl ?_ (fun x => ?_) | refine WLA.x0 rfl ?_ (fun x => ?_)); first | exact trivial | exact rfl | assumption | omega | (refine ⟨?_, ?_⟩ <;> omega) | (simp only [Room, List.length_set, List.length_append, List.length_cons, List.length_nil, List.length_replicate]; omega) | decide | skip) | (refine Stp.go ?_) | (refine WPA.ifT ?_) | (refine WPA.ifF ?_) | ((first | refine WPA.dec ?_); first | refine .inl ⟨by first | assumption | omega | with_reducible rfl | (refine fun h => h ?_; first | assumption | with_reducible rfl) | (simp only [List.length_append, List.length_cons, List.length_nil, List.length_set] <;> omega) | decide, ?_⟩ | refine .inr ⟨by first | assumption | omega | with_reducible rfl | (refine fun h => h ?_; first | assumption | with_reducible rfl) | (simp only [List.length_append, List.length_cons, List.length_nil, List.length_set] <;> omega) | decide, ?_⟩) | ((first | refine WPA.ifBt ?_ ?_ | refine WPA.ifBnf ?_ ?_); assumption) | ((first | refine WPA.ifBnt ?_ ?_ | refine WPA.ifBf ?_ ?_); assumption) | ((first | refine WPA.ifs ?_ ?_ | refine WPA.ifB ?_ ?_) <;> intro hc))
  refine WPA.loopS (σ := RL) (fun x => [(0, .string s), (3, .slice x.r.a x.r.n x.r.cap), (4, .int .i64 x.f), (5, .int .i64 x.i)]) (fun x => (x.i ≤ s.size ∧ x.f ≤ x.i) ∧ x.out ++ lns s x.f (s.size - x.i) = linesL s ∧ x.out.length ≤ x.i)
    (fun x => SL w0 I (OwnS 9 x.r x.out :: L)) (fun x => s.size - x.i) ⟨0, 0, [], SV.nil⟩ ⟨rfl, rfl, rfl, rfl, trivial⟩ ⟨⟨Nat.zero_le _, Nat.le_refl _⟩, rfl, Nat.le_refl _⟩ (fun w h => h.to) ?_
  rintro ⟨i, f, out, r⟩ ρ ⟨⟨hi, hf⟩, hC, ho⟩
  dsimp only at hi hf hC ho ⊢
  by_cases hlt : i < s.size
  · have hlt' : (i : Int) < s.size := by omega
    rw [lns_at hlt] at hC
    by_cases hb : bt s (i : Nat) = 10
    · rw [if_pos hb] at hC
      repeat' (first | ((first | refine WLA.m rfl rfl ?_ ?_ | refine WLA.st rfl ?_ ?_ | refine WLA.x rfl rfl ?_ (fun x => ?_) | refine WLA.x0 rfl ?_ (fun x => ?_)); first | exact trivial | exact rfl | assumption | omega | (refine ⟨?_, ?_⟩ <;> omega) | (simp only [Room, List.length_set, List.length_append, List.length_cons, List.length_nil, List.length_replicate]; omega) | decide | skip) | (refine Stp.go ?_) | (refine WPA.ifT ?_) | (refine WPA.ifF ?_) | ((first | refine WPA.dec ?_); first | refine .inl ⟨by first | assumption | omega | with_reducible rfl | (refine fun h => h ?_; first | assumption | with_reducible rfl) | (simp only [List.length_append, List.length_cons, List.length_nil, List.length_set] <;> omega) | decide, ?_⟩ | refine .inr ⟨by first | assumption | omega | with_reducible rfl | (refine fun h => h ?_; first | assumption | with_reducible rfl) | (simp only [List.length_append, List.length_cons, List.length_nil, List.length_set] <;> omega) | decide, ?_⟩) | ((first | refine WPA.ifBt ?_ ?_ | refine WPA.ifBnf ?_ ?_); assumption) | ((first | refine WPA.ifBnt ?_ ?_ | refine WPA.ifBf ?_ ?_); assumption) | ((first | refine WPA.ifs ?_ ?_ | refine WPA.ifB ?_ ?_) <;> intro hc))
      exact QQ.loopS ⟨i + 1, i + 1, out ++ [s.extract (f : Int).toNat (i : Int).toNat], x⟩ ⟨rfl, rfl, rfl, rfl, trivial⟩ ⟨⟨hlt, Nat.le_refl _⟩, by dsimp only; rw [List.append_assoc]; exact hC, by dsimp only; rw [List.length_append, List.length_singleton]; omega⟩ (by dsimp only; omega) (fun w h => h.to)
    · rw [if_neg hb] at hC
      repeat' (first | ((first | refine WLA.m rfl rfl ?_ ?_ | refine WLA.st rfl ?_ ?_ | refine WLA.x rfl rfl ?_ (fun x => ?_) | refine WLA.x0 rfl ?_ (fun x => ?_)); first | exact trivial | exact rfl | assumption | omega | (refine ⟨?_, ?_⟩ <;> omega) | (simp only [Room, List.length_set, List.length_append, List.length_cons, List.length_nil, List.length_replicate]; omega) | decide | skip) | (refine Stp.go ?_) | (refine WPA.ifT ?_) | (refine WPA.ifF ?_) | ((first | refine WPA.dec ?_); first | refine .inl ⟨by first | assumption | omega | with_reducible rfl | (refine fun h => h ?_; first | assumption | with_reducible rfl) | (simp only [List.length_append, List.length_cons, List.length_nil, List.length_set] <;> omega) | decide, ?_⟩ | refine .inr ⟨by first | assumption | omega | with_reducible rfl | (refine fun h => h ?_; first | assumption | with_reducible rfl) | (simp only [List.length_append, List.length_cons, List.length_nil, List.length_set] <;> omega) | decide, ?_⟩) | ((first | refine WPA.ifBt ?_ ?_ | refine WPA.ifBnf ?_ ?_); assumption) | ((first | refine WPA.ifBnt ?_ ?_ | refine WPA.ifBf ?_ ?_); assumption) | ((first | refine WPA.ifs ?_ ?_ | refine WPA.ifB ?_ ?_) <;> intro hc))
      exact QQ.loopS ⟨i + 1, f, out, r⟩ ⟨rfl, rfl, rfl, rfl, trivial⟩ ⟨⟨hlt, by dsimp only; omega⟩, hC, by dsimp only; omega⟩ (by dsimp only; omega) (fun w h => h.to)
  · have hlt' : ¬ (i : Int) < s.size := by omega
    have e : i = s.size := by omega
    subst e
    rw [Nat.sub_self, lns] at hC
    repeat' (first | ((first | refine WLA.m rfl rfl ?_ ?_ | refine WDQ.m rfl rfl ?_ ?_ | refine WDP.m rfl rfl ?_ ?_ | refine WLA.st rfl ?_ ?_ | refine WLA.x rfl rfl ?_ (fun x => ?_) | refine WLA.x0 rfl ?_ (fun x => ?_) | refine WDW.x rfl rfl ?_ (fun x => ?_) | refine WDW.st rfl ?_ ?_); first | exact trivial | exact rfl | assumption | omega | (refine ⟨?_, ?_⟩ <;> omega) | (simp only [Room, List.length_set, List.length_append, List.length_cons, List.length_nil, List.length_replicate]; omega) | decide | skip) | (refine Stp.go ?_) | (refine WPA.ifT ?_) | (refine WPA.ifF ?_) | ((first | refine WPA.dec ?_); first | refine .inl ⟨by first | assumption | omega | with_reducible rfl | (refine fun h => h ?_; first | assumption | with_reducible rfl) | (simp only [List.length_append, List.length_cons, List.length_nil, List.length_set] <;> omega) | decide, ?_⟩ | refine .inr ⟨by first | assumption | omega | with_reducible rfl | (refine fun h => h ?_; first | assumption | with_reducible rfl) | (simp only [List.length_append, List.length_cons, List.length_nil, List.length_set] <;> omega) | decide, ?_⟩) | ((first | refine WPA.ifBt ?_ ?_ | refine WPA.ifBnf ?_ ?_); assumption) | ((first | refine WPA.ifBnt ?_ ?_ | refine WPA.ifBf ?_ ?_); assumption) | ((first | refine WPA.ifs ?_ ?_ | refine WPA.ifB ?_ ?_) <;> intro hc) | (guard_target =~ WPA _ _ _ (.region 9 _ true) _ _ _; refine WPA.drawT 7 (.p 1 (.p 3 (.p 4 (.p 5 (.b false 0 (.b true 2 (.e 6 .fin) false 6 (.w 2 .fin)) false 6 (.e 0 (.w 2 .fin))))))) mixed ?_ ?_; kernel_rfl) | (refine WDA.finish (tl := [⟨_, _, _, _, _, _⟩, ⟨_, _, _, _, _, _⟩]) rfl ?_) | (refine WDQ.see rfl ?_) | (refine WDP.see rfl ?_) | (refine WDW.see rfl ?_) | (first | (refine WDA.two rfl rfl ?_ ?_) | (refine WDA.twoL rfl rfl ?_ ?_) | (refine WDA.twoR rfl rfl ?_ ?_) | (refine WDA.twoW rfl rfl ?_ ?_)) | (refine WDE.see rfl ?_) | (refine WDE.alloc rfl rfl (fun w h => h) (fun x => ?_)) | (refine WDE.stE rfl ?_) | (refine WDE.x rfl rfl ?_ ?_ (fun x => ?_); rotate_left 1; (intro x w h; first | exact h | exact Ent.drop1.sl h | exact SL.unI h | exact SL.to h); rotate_left 1; first | exact trivial | exact rfl | assumption | omega | (refine ⟨?_, ?_⟩ <;> omega) | (simp only [Room, List.length_set, List.length_append, List.length_cons, List.length_nil, List.length_replicate]; omega) | decide | skip))
    all_goals
      rw [show s.extract (f : Int).toNat (s.size : Int).toNat = s.extract f s.size from rfl, hC]
      exact QQ.end_ rfl x rfl fun w h => h.to
end Go.Proofs.Ytlodbajaoadhdaa
