/- What is reckoned of a text; the text of a number; the place of a text among the slots. Conditions: none. -/
import Derived.Test.YtfhelnalegochaaSlT
namespace Go.Proofs.Ytfhelnalegochaa
open Go Go.Fw Go.RowKit
set_option linter.unusedVariables false
set_option linter.unusedSimpArgs false
set_option maxRecDepth 100000
set_option maxHeartbeats 16000000
set_option synthInstance.maxHeartbeats 200000
set_option synthInstance.maxSize 100000
attribute [local irreducible] WPA WLA WDA WDQ WDE QQ seqQ blockQ loopQ fnQ OpP OpT Tr TrP SL SLd OwnS LitS Bk BkE Ob

def mixL (s : ByteArray) : Nat → Int → Int → Int
  | 0, h, _ => h
  | k + 1, h, i => if i < (s.size : Int) then mixL s k (IntKind.u64.wrap (Go.bits .xor .u64 h (bt s i) * 1099511628211)) (i + 1) else h
def mixv (s : ByteArray) : Int := Go.bits .xor .u64 (mixL s s.size 14695981039346656037 0) ((mixL s s.size 14695981039346656037 0).fdiv (2 ^ 29))
section
variable {L L1 L2 : List HP} {w0 : World} {I : Foot}
theorem mix_tr {s : ByteArray} (hs : s.size ≤ 140737488355328) : TrP Try.prog 122 #[.string s] (SL w0 I L) (.int .u64 (mixv s)) := by
  refine TrP.ofD fun u => Tr.intro Try.func122 rfl Try.ntmps122 rfl ?_
  repeat' (first | ((first | refine WLA.m rfl rfl ?_ ?_ | refine WLA.st rfl ?_ ?_ | refine WLA.x rfl rfl ?_ (fun x => ?_) | refine WLA.x0 rfl ?_ (fun x => ?_)); first | exact trivial | exact rfl | assumption | omega | (refine ⟨?_, ?_⟩ <;> omega) | (simp only [Room, List.length_set, List.length_append, List.length_cons, List.length_nil, List.length_replicate]; omega) | decide | skip) | (refine Stp.go ?_) | (refine WPA.ifT ?_) | (refine WPA.ifF ?_) | ((first | refine WPA.dec ?_); first | refine .inl ⟨by first | assumption | omega | with_reducible rfl | (refine fun h => h ?_; assumption) | (simp only [List.length_append, List.length_cons, List.length_nil, List.length_set] <;> omega) | decide, ?_⟩ | refine .inr ⟨by first | assumption | omega | with_reducible rfl | (refine fun h => h ?_; assumption) | (simp only [List.length_append, List.length_cons, List.length_nil, List.length_set] <;> omega) | decide, ?_⟩) | ((first | refine WPA.ifBt ?_ ?_ | refine WPA.ifBnf ?_ ?_); assumption) | ((first | refine WPA.ifBnt ?_ ?_ | refine WPA.ifBf ?_ ?_); assumption) | ((first | refine WPA.ifs ?_ ?_ | refine WPA.ifB ?_ ?_) <;> intro hc))
  refine WPA.loopS (σ := Nat × Int) (fun x => [(0, .string s), (3, .int .u64 x.2), (4, .int .i64 x.1)]) (fun x => x.1 ≤ s.size ∧ mixL s (s.size - x.1) x.2 x.1 = mixL s s.size 14695981039346656037 0)
    (fun _ => SLd w0 I L u) (fun x => s.size - x.1) (0, 14695981039346656037) ⟨rfl, rfl, rfl, trivial⟩ ⟨by omega, rfl⟩ (fun _ h => h) ?_
  rintro ⟨i, h⟩ ρ ⟨hi, hm⟩
  dsimp only at hi hm ⊢
  by_cases hlt : i < s.size
  · have hlt' : (i : Int) < s.size := by omega
    have hbt := bt_range s (i : Int)
    repeat' (first | ((first | refine WLA.m rfl rfl ?_ ?_ | refine WLA.st rfl ?_ ?_ | refine WLA.x rfl rfl ?_ (fun x => ?_) | refine WLA.x0 rfl ?_ (fun x => ?_)); first | exact trivial | exact rfl | assumption | omega | (refine ⟨?_, ?_⟩ <;> omega) | (simp only [Room, List.length_set, List.length_append, List.length_cons, List.length_nil, List.length_replicate]; omega) | decide | skip) | (refine Stp.go ?_) | (refine WPA.ifT ?_) | (refine WPA.ifF ?_) | ((first | refine WPA.dec ?_); first | refine .inl ⟨by first | assumption | omega | with_reducible rfl | (refine fun h => h ?_; assumption) | (simp only [List.length_append, List.length_cons, List.length_nil, List.length_set] <;> omega) | decide, ?_⟩ | refine .inr ⟨by first | assumption | omega | with_reducible rfl | (refine fun h => h ?_; assumption) | (simp only [List.length_append, List.length_cons, List.length_nil, List.length_set] <;> omega) | decide, ?_⟩) | ((first | refine WPA.ifBt ?_ ?_ | refine WPA.ifBnf ?_ ?_); assumption) | ((first | refine WPA.ifBnt ?_ ?_ | refine WPA.ifBf ?_ ?_); assumption) | ((first | refine WPA.ifs ?_ ?_ | refine WPA.ifB ?_ ?_) <;> intro hc))
    obtain ⟨d, hd⟩ : ∃ d, s.size - i = d + 1 := ⟨s.size - i - 1, by omega⟩
    rw [hd, mixL, if_pos (by omega)] at hm
    exact QQ.loopS (i + 1, _) ⟨rfl, rfl, rfl, trivial⟩ ⟨by omega, by rw [show s.size - (i + 1) = d by omega]; push_cast; exact hm⟩ (by omega) (fun _ h => h)
  · have hlt' : ¬ (i : Int) < s.size := by omega
    repeat' (first | ((first | refine WLA.m rfl rfl ?_ ?_ | refine WLA.st rfl ?_ ?_ | refine WLA.x rfl rfl ?_ (fun x => ?_) | refine WLA.x0 rfl ?_ (fun x => ?_)); first | exact trivial | exact rfl | assumption | omega | (refine ⟨?_, ?_⟩ <;> omega) | (simp only [Room, List.length_set, List.length_append, List.length_cons, List.length_nil, List.length_replicate]; omega) | decide | skip) | (refine Stp.go ?_) | (refine WPA.ifT ?_) | (refine WPA.ifF ?_) | ((first | refine WPA.dec ?_); first | refine .inl ⟨by first | assumption | omega | with_reducible rfl | (refine fun h => h ?_; assumption) | (simp only [List.length_append, List.length_cons, List.length_nil, List.length_set] <;> omega) | decide, ?_⟩ | refine .inr ⟨by first | assumption | omega | with_reducible rfl | (refine fun h => h ?_; assumption) | (simp only [List.length_append, List.length_cons, List.length_nil, List.length_set] <;> omega) | decide, ?_⟩) | ((first | refine WPA.ifBt ?_ ?_ | refine WPA.ifBnf ?_ ?_); assumption) | ((first | refine WPA.ifBnt ?_ ?_ | refine WPA.ifBf ?_ ?_); assumption) | ((first | refine WPA.ifs ?_ ?_ | refine WPA.ifB ?_ ?_) <;> intro hc))
    have e : s.size - i = 0 := by omega
    rw [e, mixL] at hm
    refine QQ.end_ rfl () ?_ (fun _ h => h)
    unfold mixv; rw [← hm]; rfl
theorem key_tr {B T : Nat} {vt : SV} {x1 x2 x3 : Value} {texts : List ByteArray} {z : Int} [h1 : FindBk L B 110 [.pointer (some ⟨T, 0, none⟩)] L1] [h2 : FindBk L T 155 [.slice vt.a vt.n vt.cap, x1, x2, x3] L2] [h3 : RdS I L vt ByteArray inferInstance texts] (hz : 0 ≤ z ∧ z < texts.length) :
    TrP Try.prog 123 #[.int .i64 z, .pointer (some ⟨B, 0, none⟩)] (SL w0 I L) (.string (at_ texts z)) := by
  refine TrP.ofD fun u => Tr.intro Try.func123 rfl Try.ntmps123 rfl ?_
  repeat' (first | ((first | refine WLA.m rfl rfl ?_ ?_ | refine WLA.st rfl ?_ ?_ | refine WLA.x rfl rfl ?_ (fun x => ?_) | refine WLA.x0 rfl ?_ (fun x => ?_)); first | exact trivial | exact rfl | assumption | omega | (refine ⟨?_, ?_⟩ <;> omega) | (simp only [Room, List.length_set, List.length_append, List.length_cons, List.length_nil, List.length_replicate]; omega) | decide | skip) | (refine Stp.go ?_) | (refine WPA.ifT ?_) | (refine WPA.ifF ?_) | ((first | refine WPA.dec ?_); first | refine .inl ⟨by first | assumption | omega | with_reducible rfl | (refine fun h => h ?_; assumption) | (simp only [List.length_append, List.length_cons, List.length_nil, List.length_set] <;> omega) | decide, ?_⟩ | refine .inr ⟨by first | assumption | omega | with_reducible rfl | (refine fun h => h ?_; assumption) | (simp only [List.length_append, List.length_cons, List.length_nil, List.length_set] <;> omega) | decide, ?_⟩) | ((first | refine WPA.ifBt ?_ ?_ | refine WPA.ifBnf ?_ ?_); assumption) | ((first | refine WPA.ifBnt ?_ ?_ | refine WPA.ifBf ?_ ?_); assumption) | ((first | refine WPA.ifs ?_ ?_ | refine WPA.ifB ?_ ?_) <;> intro hc))
  exact QQ.end_ rfl () rfl (fun _ h => h)
/-- The walk over the slots. -/
def placeL (texts : List ByteArray) (sl : List Int) (s : ByteArray) : Nat → Nat → Option Nat
  | 0, _ => none
  | f + 1, i => if sl.getD i 0 = 0 then some i else if texts.getD (sl.getD i 0 - 1).toNat ⟨#[]⟩ = s then some i else placeL texts sl s f ((i + 1) % sl.length)
def start (sl : List Int) (s : ByteArray) : Nat := (mixv s % (sl.length : Int)).toNat
theorem and_mask (a : Int) (p : Nat) (hp : p ≤ 62) : Go.bits .and .i64 a (2 ^ p - 1) = a % 2 ^ p := by
  have hlt : (2 : Nat) ^ p < 2 ^ 63 := Nat.pow_lt_pow_right (by omega) (by omega)
  have hpos : 0 < (2 : Nat) ^ p := Nat.pow_pos (by omega)
  have hc : ((2 : Int) ^ p) = ((2 ^ p : Nat) : Int) := by push_cast; rfl
  have e1 : (BitVec.ofInt 64 (2 ^ p - 1)).toNat = 2 ^ p - 1 := by
    rw [BitVec.toNat_ofInt, hc]
    have : (((2 ^ p : Nat) : Int) - 1) % ((2 ^ 64 : Nat) : Int) = ((2 ^ p : Nat) : Int) - 1 := Int.emod_eq_of_lt (by omega) (by omega)
    rw [this]; omega
  have e2 : (BitVec.ofInt 64 a &&& BitVec.ofInt 64 (2 ^ p - 1)).toNat = (a % 2 ^ p).toNat := by
    rw [BitVec.toNat_and, e1, Nat.and_two_pow_sub_one_eq_mod, BitVec.toNat_ofInt]
    have h1 : ((a % ((2 ^ 64 : Nat) : Int)).toNat : Int) = a % ((2 ^ 64 : Nat) : Int) := Int.toNat_of_nonneg (Int.emod_nonneg _ (by decide))
    have h2 : (((a % ((2 ^ 64 : Nat) : Int)).toNat % 2 ^ p : Nat) : Int) = a % ((2 ^ p : Nat) : Int) := by
      rw [Int.natCast_emod, h1]
      refine Int.emod_emod_of_dvd a ?_
      refine Int.natCast_dvd_natCast.2 (Nat.pow_dvd_pow 2 (by omega))
    rw [hc]; omega
  have e3 : 0 ≤ a % (2 : Int) ^ p ∧ a % (2 : Int) ^ p < 2 ^ p := by
    rw [hc]; exact ⟨Int.emod_nonneg _ (by omega), Int.emod_lt_of_pos _ (by omega)⟩
  show IntKind.i64.wrap ((BitVec.ofInt 64 a &&& BitVec.ofInt 64 (2 ^ p - 1)).toNat : Int) = _
  rw [e2, wrap_i64]
  · omega
  · rw [hc] at e3 ⊢; omega

theorem wrap_mod (a : Int) (p : Nat) (hp : p ≤ 62) : IntKind.i64.wrap a % 2 ^ p = a % 2 ^ p := by
  have hd : ((2 : Int) ^ p) ∣ 18446744073709551616 := by
    have : (18446744073709551616 : Int) = 2 ^ p * 2 ^ (64 - p) := by rw [← Int.pow_add, show p + (64 - p) = 64 by omega]; rfl
    exact ⟨_, this⟩
  have e : IntKind.i64.wrap a = a % 18446744073709551616 ∨ IntKind.i64.wrap a = a % 18446744073709551616 - 18446744073709551616 := by
    simp only [IntKind.wrap, IntKind.bits, IntKind.signed]; simp; omega
  rcases e with e | e
  · rw [e, Int.emod_emod_of_dvd _ hd]
  · obtain ⟨c, hc⟩ := hd
    rw [e]
    conv => lhs; rw [hc]
    rw [Int.sub_mul_emod_self_left, ← hc, Int.emod_emod_of_dvd _ ⟨c, hc⟩]

/-- The numbers in the slots. -/
def i32s (l : List Int) : List (KInt .i32) := l
abbrev slv (l : List Int) (i : Nat) : Int := ofK (at_ (i32s l) (i : Int))
theorem i32s_at (l : List Int) (i : Nat) : slv l i = l.getD i 0 := rfl
theorem i32s_len (l : List Int) : (i32s l).length = l.length := rfl
set_option maxHeartbeats 4000000 in
theorem place_tr {B T p f r : Nat} {vt sa : SV} {texts : List ByteArray} {sl : List Int} {s : ByteArray} [h1 : FindBk L B 110 [.pointer (some ⟨T, 0, none⟩)] L1] [h2 : FindBk L T 155 [.slice vt.a vt.n vt.cap, .slice sa.a sa.n sa.cap, .func (.func 122) #[] #[], .func (.func 123) #[] #[.pointer (some ⟨B, 0, none⟩)]] L2]
    [h3 : RdS I L vt ByteArray inferInstance texts] [h4 : RdS I L sa (KInt .i32) inferInstance (i32s sl)]
    (hp : sl.length = 2 ^ p) (hp2 : p ≤ 40) (hat : ∀ i, i < sl.length → 0 ≤ sl.getD i 0 ∧ sl.getD i 0 ≤ texts.length) (hn : texts.length ≤ 2147483647) (hs : s.size ≤ 140737488355328) (hr : placeL texts sl s f (start sl s) = some r) :
    TrP Try.prog 112 #[.pointer (some ⟨T, 1, none⟩), .string s] (SL w0 I L) (.int .i64 r) := by
  have hm0 : 0 < sl.length := by rw [hp]; exact Nat.pow_pos (by omega)
  have hm1 : (sl.length : Int) ≤ 1099511627776 := by
    have : 2 ^ p ≤ 2 ^ 40 := Nat.pow_le_pow_right (by omega) hp2
    omega
  have hpi : (sl.length : Int) = 2 ^ p := by rw [hp]; push_cast; rfl
  have hst : start sl s < sl.length := by
    unfold start
    have := Int.emod_lt_of_pos (mixv s) (show (0 : Int) < sl.length by omega)
    have := Int.emod_nonneg (mixv s) (show (sl.length : Int) ≠ 0 by omega)
    omega
  have hs0 : Go.bits .and .i64 (IntKind.i64.wrap (mixv s)) ((sl.length : Int) - 1) = (start sl s : Int) := by
    unfold start
    rw [hpi, and_mask _ _ (by omega), wrap_mod _ _ (by omega), Int.toNat_of_nonneg]
    exact Int.emod_nonneg _ (by rw [← hpi]; omega)
  have hlen := i32s_len sl
  refine TrP.ofD fun u => Tr.intro Try.func112 rfl Try.ntmps112 rfl ?_
  repeat' (first | (guard_target =~ WLA _ _ _ _ _ (⟨_, .convert _ _ _, _, _, _, _⟩ :: _) _ _; refine WLA.m (h := convW) rfl rfl trivial ?_) | (guard_target =~ WDQ _ _ _ _ _ _ _ ⟨_, .convert _ _ _, _, _, _, _⟩ _ _ _; refine WDQ.m (h := convW) rfl rfl trivial ?_) | (guard_target =~ WDP _ _ _ _ _ _ _ ⟨_, .convert _ _ _, _, _, _, _⟩ _ _ _; refine WDP.m (h := convW) rfl rfl trivial ?_) | ((first | refine WLA.m rfl rfl ?_ ?_ | refine WLA.st rfl ?_ ?_ | refine WLA.x rfl rfl ?_ (fun x => ?_) | refine WLA.x0 rfl ?_ (fun x => ?_)); first | exact trivial | exact rfl | assumption | omega | (refine ⟨?_, ?_⟩ <;> omega) | (simp only [Room, List.length_set, List.length_append, List.length_cons, List.length_nil, List.length_replicate]; omega) | decide | skip) | (refine Stp.go ?_) | (guard_target =~ WLA _ _ _ _ _ (⟨_, .call ⟨.value (.tmp _), _, _⟩, _, _, _, _⟩ :: _) _ _; refine WLA.cqV rfl rfl (mix_tr hs) ?_) | (refine WPA.ifT ?_) | (refine WPA.ifF ?_) | ((first | refine WPA.dec ?_); first | refine .inl ⟨by first | assumption | omega | with_reducible rfl | (refine fun h => h ?_; assumption) | (simp only [List.length_append, List.length_cons, List.length_nil, List.length_set] <;> omega) | decide, ?_⟩ | refine .inr ⟨by first | assumption | omega | with_reducible rfl | (refine fun h => h ?_; assumption) | (simp only [List.length_append, List.length_cons, List.length_nil, List.length_set] <;> omega) | decide, ?_⟩) | ((first | refine WPA.ifBt ?_ ?_ | refine WPA.ifBnf ?_ ?_); assumption) | ((first | refine WPA.ifBnt ?_ ?_ | refine WPA.ifBf ?_ ?_); assumption) | ((first | refine WPA.ifs ?_ ?_ | refine WPA.ifB ?_ ?_) <;> intro hc))
  refine WPA.loopS (σ := Nat × Nat) (fun x => [(0, .pointer (some ⟨T, 1, none⟩)), (1, .string s), (5, .int .i64 ((sl.length : Int) - 1)), (6, .int .i64 x.2)]) (fun x => x.2 < sl.length ∧ placeL texts sl s x.1 x.2 = some r)
    (fun _ => SLd w0 I L u) (fun x => x.1) (f, start sl s) ⟨rfl, rfl, rfl, congrArg (Value.int .i64) hs0, trivial⟩ ⟨hst, hr⟩ (fun _ h => h) ?_
  rintro ⟨f, i⟩ ρ ⟨hi, hf⟩
  dsimp only at hi hf ⊢
  cases f with
  | zero => simp [placeL] at hf
  | succ f =>
    rw [placeL] at hf
    have hx := i32s_at sl i
    have hb := hat i hi
    have hx1 : (i : Int) < (i32s sl).length := by rw [hlen]; omega
    clear hat hr hs0
    by_cases he : sl.getD i 0 = 0
    · rw [if_pos he] at hf
      have he' : ¬ slv sl i ≠ 0 := fun h => h (hx.trans he)
      cases hf
      repeat' (first | ((first | refine WLA.m rfl rfl ?_ ?_ | refine WDQ.m rfl rfl ?_ ?_ | refine WLA.st rfl ?_ ?_ | refine WLA.x rfl rfl ?_ (fun x => ?_) | refine WLA.x0 rfl ?_ (fun x => ?_)); first | exact trivial | exact rfl | assumption | omega | (refine ⟨?_, ?_⟩ <;> omega) | (simp only [Room, List.length_set, List.length_append, List.length_cons, List.length_nil, List.length_replicate]; omega) | decide | skip) | (refine Stp.go ?_) | (guard_target =~ WLA _ _ _ _ _ (⟨_, .call ⟨.value (.tmp _), _, _⟩, _, _, _, _⟩ :: _) _ _; refine WLA.cqV rfl rfl (key_tr (by assumption)) ?_) | (refine WPA.ifT ?_) | (refine WPA.ifF ?_) | (refine WLA.no rfl rfl ?_) | (refine WDQ.no rfl rfl ?_) | ((first | refine WPA.dec ?_ | ((fail_if_success (guard_target =~ WLA _ _ _ _ _ _ (put1 _ _ (.bool true)) _)); (fail_if_success (guard_target =~ WLA _ _ _ _ _ _ (put1 _ _ (.bool false)) _)); refine WLA.dec rfl rfl ?_) | refine WLA.pk ?_ | refine WDQ.dec rfl rfl ?_); first | refine .inl ⟨by first | assumption | omega | with_reducible rfl | (refine fun h => h ?_; assumption) | (simp only [List.length_append, List.length_cons, List.length_nil, List.length_set] <;> omega) | decide, ?_⟩ | refine .inr ⟨by first | assumption | omega | with_reducible rfl | (refine fun h => h ?_; assumption) | (simp only [List.length_append, List.length_cons, List.length_nil, List.length_set] <;> omega) | decide, ?_⟩) | ((first | refine WPA.ifBt ?_ ?_ | refine WPA.ifBnf ?_ ?_); assumption) | ((first | refine WPA.ifBnt ?_ ?_ | refine WPA.ifBf ?_ ?_); assumption) | ((first | refine WPA.ifs ?_ ?_ | refine WPA.ifB ?_ ?_) <;> intro hc) | ((fail_if_success (guard_target =~ WLA _ _ _ _ _ _ (put1 _ _ (.bool true)) _)); (fail_if_success (guard_target =~ WLA _ _ _ _ _ _ (put1 _ _ (.bool false)) _)); (first | refine WLA.both rfl rfl ?_ ?_ | refine WLA.bothB rfl rfl ?_ ?_) <;> intro hg) | (guard_target =~ WPA _ _ _ (.region 3 _ true) _ _ _; refine WPA.drawT 24 (.q 0 (.q 1 (.q 2 (.q 3 (.q 4 (.q 5 (.q 6 (.q 7 (.q 8 (.q 9 (.q 10 (.q 11 (.q 12 (.q 13 (.q 14 (.q 15 (.q 16 (.q 17 (.q 18 (.q 19 (.q 20 (.q 21 (.q 22 (.q 23 .fin)))))))))))))))))))))))) mixed ?_ ?_; kernel_rfl) | (refine WDA.finish (tl := [⟨_, _, _, _, _, _⟩, ⟨_, _, _, _, _, _⟩]) rfl ?_) | (refine WDQ.see rfl ?_) | (guard_target =~ WDQ _ _ _ _ _ _ _ ⟨_, .call ⟨.value (.tmp _), _, _⟩, _, _, _, _⟩ _ _ _; refine WDQ.cqV rfl rfl (key_tr (by assumption)) ?_) | ((first | refine WDQ.both rfl rfl ?_ ?_) <;> intro hg))
      exact QQ.end_ rfl () rfl (fun _ h => h)
    · rw [if_neg he] at hf
      have he' : slv sl i ≠ 0 := fun h => he (hx.symm.trans h)
      have hj : 0 ≤ slv sl i - 1 ∧ slv sl i - 1 < texts.length := by rw [hx]; omega
      have hw : -9223372036854775808 ≤ ofK (at_ (i32s sl) (i : Int)) ∧ ofK (at_ (i32s sl) (i : Int)) ≤ 9223372036854775807 := by have := hx; unfold slv at this; rw [this]; omega
      have hw2 : -9223372036854775808 ≤ ofK (at_ (i32s sl) (i : Int)) - 1 ∧ ofK (at_ (i32s sl) (i : Int)) - 1 ≤ 9223372036854775807 := by have := hx; unfold slv at this; rw [this]; omega
      have hg : texts.getD (sl.getD i 0 - 1).toNat ⟨#[]⟩ = at_ texts (slv sl i - 1) := by rw [hx]; rfl
      rw [hg] at hf
      have hand : Go.bits .and .i64 ((i : Int) + 1) ((sl.length : Int) - 1) = (((i + 1) % sl.length : Nat) : Int) := by
        rw [hpi, and_mask _ _ (by omega), ← hpi]; push_cast; rfl
      by_cases hc : at_ texts (slv sl i - 1) = s
      · rw [if_pos hc] at hf
        have hc' : ¬ at_ texts (slv sl i - 1) ≠ s := fun h => h hc
        cases hf
        repeat' (first | ((first | refine WLA.m rfl rfl ?_ ?_ | refine WDQ.m rfl rfl ?_ ?_ | refine WLA.st rfl ?_ ?_ | refine WLA.x rfl rfl ?_ (fun x => ?_) | refine WLA.x0 rfl ?_ (fun x => ?_)); first | exact trivial | exact rfl | assumption | omega | (refine ⟨?_, ?_⟩ <;> omega) | (simp only [Room, List.length_set, List.length_append, List.length_cons, List.length_nil, List.length_replicate]; omega) | decide | skip) | (refine Stp.go ?_) | (guard_target =~ WLA _ _ _ _ _ (⟨_, .call ⟨.value (.tmp _), _, _⟩, _, _, _, _⟩ :: _) _ _; refine WLA.cqV rfl rfl (key_tr hj) ?_) | (refine WPA.ifT ?_) | (refine WPA.ifF ?_) | (refine WLA.no rfl rfl ?_) | (refine WDQ.no rfl rfl ?_) | ((first | refine WPA.dec ?_ | ((fail_if_success (guard_target =~ WLA _ _ _ _ _ _ (put1 _ _ (.bool true)) _)); (fail_if_success (guard_target =~ WLA _ _ _ _ _ _ (put1 _ _ (.bool false)) _)); refine WLA.dec rfl rfl ?_) | refine WLA.pk ?_ | refine WDQ.dec rfl rfl ?_); first | refine .inl ⟨by first | assumption | omega | with_reducible rfl | (refine fun h => h ?_; assumption) | (simp only [List.length_append, List.length_cons, List.length_nil, List.length_set] <;> omega) | decide, ?_⟩ | refine .inr ⟨by first | assumption | omega | with_reducible rfl | (refine fun h => h ?_; assumption) | (simp only [List.length_append, List.length_cons, List.length_nil, List.length_set] <;> omega) | decide, ?_⟩) | ((first | refine WPA.ifBt ?_ ?_ | refine WPA.ifBnf ?_ ?_); assumption) | ((first | refine WPA.ifBnt ?_ ?_ | refine WPA.ifBf ?_ ?_); assumption) | ((first | refine WPA.ifs ?_ ?_ | refine WPA.ifB ?_ ?_) <;> intro hc) | ((fail_if_success (guard_target =~ WLA _ _ _ _ _ _ (put1 _ _ (.bool true)) _)); (fail_if_success (guard_target =~ WLA _ _ _ _ _ _ (put1 _ _ (.bool false)) _)); (first | refine WLA.both rfl rfl ?_ ?_ | refine WLA.bothB rfl rfl ?_ ?_) <;> intro hg) | (guard_target =~ WPA _ _ _ (.region 3 _ true) _ _ _; refine WPA.drawT 24 (.q 0 (.q 1 (.q 2 (.q 3 (.q 4 (.q 5 (.q 6 (.q 7 (.q 8 (.q 9 (.q 10 (.q 11 (.q 12 (.q 13 (.q 14 (.q 15 (.q 16 (.q 17 (.q 18 (.q 19 (.q 20 (.q 21 (.q 22 (.q 23 .fin)))))))))))))))))))))))) mixed ?_ ?_; kernel_rfl) | (refine WDA.finish (tl := [⟨_, _, _, _, _, _⟩, ⟨_, _, _, _, _, _⟩]) rfl ?_) | (refine WDQ.see rfl ?_) | (guard_target =~ WDQ _ _ _ _ _ _ _ ⟨_, .call ⟨.value (.tmp _), _, _⟩, _, _, _, _⟩ _ _ _; refine WDQ.cqV rfl rfl (key_tr hj) ?_) | ((first | refine WDQ.both rfl rfl ?_ ?_) <;> intro hg))
        exact QQ.end_ rfl () rfl (fun _ h => h)
      · rw [if_neg hc] at hf
        have hc' : at_ texts (slv sl i - 1) ≠ s := hc
        repeat' (first | ((first | refine WLA.m rfl rfl ?_ ?_ | refine WDQ.m rfl rfl ?_ ?_ | refine WLA.st rfl ?_ ?_ | refine WLA.x rfl rfl ?_ (fun x => ?_) | refine WLA.x0 rfl ?_ (fun x => ?_)); first | exact trivial | exact rfl | assumption | omega | (refine ⟨?_, ?_⟩ <;> omega) | (simp only [Room, List.length_set, List.length_append, List.length_cons, List.length_nil, List.length_replicate]; omega) | decide | skip) | (refine Stp.go ?_) | (guard_target =~ WLA _ _ _ _ _ (⟨_, .call ⟨.value (.tmp _), _, _⟩, _, _, _, _⟩ :: _) _ _; refine WLA.cqV rfl rfl (key_tr hj) ?_) | (refine WPA.ifT ?_) | (refine WPA.ifF ?_) | (refine WLA.no rfl rfl ?_) | (refine WDQ.no rfl rfl ?_) | ((first | refine WPA.dec ?_ | ((fail_if_success (guard_target =~ WLA _ _ _ _ _ _ (put1 _ _ (.bool true)) _)); (fail_if_success (guard_target =~ WLA _ _ _ _ _ _ (put1 _ _ (.bool false)) _)); refine WLA.dec rfl rfl ?_) | refine WLA.pk ?_ | refine WDQ.dec rfl rfl ?_); first | refine .inl ⟨by first | assumption | omega | with_reducible rfl | (refine fun h => h ?_; assumption) | (simp only [List.length_append, List.length_cons, List.length_nil, List.length_set] <;> omega) | decide, ?_⟩ | refine .inr ⟨by first | assumption | omega | with_reducible rfl | (refine fun h => h ?_; assumption) | (simp only [List.length_append, List.length_cons, List.length_nil, List.length_set] <;> omega) | decide, ?_⟩) | ((first | refine WPA.ifBt ?_ ?_ | refine WPA.ifBnf ?_ ?_); assumption) | ((first | refine WPA.ifBnt ?_ ?_ | refine WPA.ifBf ?_ ?_); assumption) | ((first | refine WPA.ifs ?_ ?_ | refine WPA.ifB ?_ ?_) <;> intro hc) | ((fail_if_success (guard_target =~ WLA _ _ _ _ _ _ (put1 _ _ (.bool true)) _)); (fail_if_success (guard_target =~ WLA _ _ _ _ _ _ (put1 _ _ (.bool false)) _)); (first | refine WLA.both rfl rfl ?_ ?_ | refine WLA.bothB rfl rfl ?_ ?_) <;> intro hg) | (guard_target =~ WPA _ _ _ (.region 3 _ true) _ _ _; refine WPA.drawT 24 (.q 0 (.q 1 (.q 2 (.q 3 (.q 4 (.q 5 (.q 6 (.q 7 (.q 8 (.q 9 (.q 10 (.q 11 (.q 12 (.q 13 (.q 14 (.q 15 (.q 16 (.q 17 (.q 18 (.q 19 (.q 20 (.q 21 (.q 22 (.q 23 .fin)))))))))))))))))))))))) mixed ?_ ?_; kernel_rfl) | (refine WDA.finish (tl := [⟨_, _, _, _, _, _⟩, ⟨_, _, _, _, _, _⟩]) rfl ?_) | (refine WDQ.see rfl ?_) | (guard_target =~ WDQ _ _ _ _ _ _ _ ⟨_, .call ⟨.value (.tmp _), _, _⟩, _, _, _, _⟩ _ _ _; refine WDQ.cqV rfl rfl (key_tr hj) ?_) | ((first | refine WDQ.both rfl rfl ?_ ?_) <;> intro hg))
        exact QQ.loopS (f, (i + 1) % sl.length) ⟨rfl, rfl, rfl, congrArg (Value.int .i64) hand, trivial⟩ ⟨Nat.mod_lt _ hm0, hf⟩ (Nat.lt_succ_self _) (fun _ h => h)
end
end Go.Proofs.Ytfhelnalegochaa
