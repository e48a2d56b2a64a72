/- Texts that ArpaParses_law leans on, part 12. Conditions: none. -/
import Derived.MapKept
import Derived.WideMake
import Derived.Test.YthkhneimfjaohaaGreatDoorQq11
namespace Go.Proofs.YthkhneimfjaohaaGreatDoor
open Go Go.Fw Go.RowKit
set_option linter.unusedVariables false
set_option linter.unusedSimpArgs false
set_option maxRecDepth 100000
set_option maxHeartbeats 16000000
set_option synthInstance.maxHeartbeats 200000
set_option synthInstance.maxSize 100000
attribute [local irreducible] WPA WLA WDA WDQ WDE QQ seqQ blockQ loopQ fnQ OpP OpT Tr TrP SL SLd OwnS LitS Bk BkE Ob
theorem u8_nat {m : Nat} (h : m < 256) : ((UInt8.ofNat m).toNat : Int) = m := by rw [UInt8.toNat_ofNat', Nat.mod_eq_of_lt h]
theorem bytesK_1 {m : Nat} (h : m < 256) : bytesK ⟨#[UInt8.ofNat m]⟩ = [toK .u8 (m : Int)] := by
  show [kb (UInt8.ofNat m)] = _
  unfold kb
  rw [u8_nat h]; rfl
def decL (v : Nat) : ByteArray := if h : v < 10 then ⟨#[UInt8.ofNat (48 + v)]⟩ else decL (v / 10) ++ ⟨#[UInt8.ofNat (48 + v % 10)]⟩
termination_by v
decreasing_by omega
theorem dec_lt {v : Nat} (h : v < 10) : decL v = ⟨#[UInt8.ofNat (48 + v)]⟩ := by rw [decL, dif_pos h]
theorem dec_ge {v : Nat} (h : ¬ v < 10) : decL v = decL (v / 10) ++ ⟨#[UInt8.ofNat (48 + v % 10)]⟩ := by rw [decL, dif_neg h]
theorem one_sz (b : UInt8) : (⟨#[b]⟩ : ByteArray).size = 1 := rfl
theorem dec_size : ∀ (f : Nat) {v : Nat}, v < 10 ^ (f + 1) → (decL v).size ≤ f + 1
  | 0, v, h => by rw [dec_lt (by simpa using h), one_sz]; omega
  | f + 1, v, h => by
    by_cases h1 : v < 10
    · rw [dec_lt h1, one_sz]; omega
    · rw [dec_ge h1, ByteArray.size_append, one_sz]
      have := dec_size f (v := v / 10) (by rw [Nat.pow_succ] at h; exact Nat.div_lt_of_lt_mul (by rw [Nat.mul_comm]; exact h))
      omega
theorem dec_20 {v : Nat} (h : v ≤ 18446744073709551615) : (decL v).size ≤ 20 := dec_size 19 (Nat.lt_of_le_of_lt h (by decide))
theorem digits_tr {w0 : World} : ∀ (f : Nat) {n : Nat} {I : Foot} {L : List HP}, n < 10 ^ (f + 1) → n ≤ 18446744073709551615 → Tr Tryz.prog 54 #[.int .u64 (n : Int)] (SL w0 I L) (fun _ : Unit => .string (decL n)) (fun _ => SL w0 I L) := by
  intro f
  induction f with
  | zero =>
    intro n I L h hn
    have h1 : n < 10 := by simpa using h
    refine Tr.intro Tryz.func54 rfl Tryz.ntmps54 rfl ?_
    have h1' : (n : Int) < 10 := by omega
    obtain ⟨m, hm⟩ : ∃ m : Nat, m = 48 + n := ⟨_, rfl⟩
    have e1 : 48 + (n : Int) = (m : Int) := by omega
    have hb : (0 : Int) ≤ m ∧ (m : Int) ≤ 255 := by omega
    have hl : [toK .u8 (m : Int)] = bytesK ⟨#[UInt8.ofNat m]⟩ := (bytesK_1 (by omega)).symm
    rw [dec_lt h1, ← hm]
    repeat' (first | ((rw [e1])) | ((rw [hl])) | ((first | refine WLA.m rfl rfl ?_ ?_ | refine WLA.st rfl ?_ ?_ | refine WLA.x rfl rfl ?_ (fun x => ?_) | refine WLA.x0 rfl ?_ (fun x => ?_)); first | exact sdT | skip) | (refine Stp.go ?_) | (refine WPA.ifT ?_) | (refine WPA.ifF ?_) | ((first | refine WPA.dec ?_); first | refine orL ?_ | refine orR ?_) | ((first | refine WPA.ifBt ?_ ?_ | refine WPA.ifBnf ?_ ?_); assumption) | ((first | refine WPA.ifBnt ?_ ?_ | refine WPA.ifBf ?_ ?_); assumption) | ((first | refine WPA.ifs ?_ ?_ | refine WPA.ifB ?_ ?_) <;> intro hc))
    exact QQ.end_ rfl () rfl fun w h => h.to
  | succ f ih =>
    intro n I L h hn
    refine Tr.intro Tryz.func54 rfl Tryz.ntmps54 rfl ?_
    by_cases h1 : n < 10
    · have h1' : (n : Int) < 10 := by omega
      obtain ⟨m, hm⟩ : ∃ m : Nat, m = 48 + n := ⟨_, rfl⟩
      have e1 : 48 + (n : Int) = (m : Int) := by omega
      have hb : (0 : Int) ≤ m ∧ (m : Int) ≤ 255 := by omega
      have hl : [toK .u8 (m : Int)] = bytesK ⟨#[UInt8.ofNat m]⟩ := (bytesK_1 (by omega)).symm
      rw [dec_lt h1, ← hm]
      clear ih
      repeat' (first | ((rw [e1])) | ((rw [hl])) | ((first | refine WLA.m rfl rfl ?_ ?_ | refine WLA.st rfl ?_ ?_ | refine WLA.x rfl rfl ?_ (fun x => ?_) | refine WLA.x0 rfl ?_ (fun x => ?_)); first | exact sdT | skip) | (refine Stp.go ?_) | (refine WPA.ifT ?_) | (refine WPA.ifF ?_) | ((first | refine WPA.dec ?_); first | refine orL ?_ | refine orR ?_) | ((first | refine WPA.ifBt ?_ ?_ | refine WPA.ifBnf ?_ ?_); assumption) | ((first | refine WPA.ifBnt ?_ ?_ | refine WPA.ifBf ?_ ?_); assumption) | ((first | refine WPA.ifs ?_ ?_ | refine WPA.ifB ?_ ?_) <;> intro hc))
      exact QQ.end_ rfl () rfl fun w h => h.to
    · have h1' : ¬ (n : Int) < 10 := by omega
      obtain ⟨m, hm⟩ : ∃ m : Nat, m = 48 + n % 10 := ⟨_, rfl⟩
      obtain ⟨q, hq0⟩ : ∃ q : Nat, q = n / 10 := ⟨_, rfl⟩
      obtain ⟨r, hr0⟩ : ∃ r : Nat, r = n % 10 := ⟨_, rfl⟩
      have ih3 := fun {I : Foot} {L : List HP} => ih (n := n / 10) (I := I) (L := L) (by rw [Nat.pow_succ] at h; exact Nat.div_lt_of_lt_mul (by rw [Nat.mul_comm]; exact h)) (by omega)
      have hge := dec_ge h1
      rw [← hm, ← hq0] at hge
      rw [← hq0] at ih3
      rw [hge]
      have e0 : (n : Int) % 10 = (r : Int) := by omega
      have e1 : 48 + (r : Int) = (m : Int) := by omega
      have e2 : (n : Int) / 10 = (q : Int) := by omega
      have hl : [toK .u8 (m : Int)] = bytesK ⟨#[UInt8.ofNat m]⟩ := (bytesK_1 (by omega)).symm
      have hvs := dec_20 (v := q) (by omega)
      have hsz : (decL q).size + (⟨#[UInt8.ofNat m]⟩ : ByteArray).size ≤ 9223372036854775807 := by rw [one_sz]; omega
      generalize (⟨#[UInt8.ofNat m]⟩ : ByteArray) = cb at hl hsz
      have hb : (0 : Int) ≤ m ∧ (m : Int) ≤ 255 := by omega
      have hq : ((0 : Int) ≤ n ∧ (n : Int) ≤ 18446744073709551615) ∧ (0 : Int) < 10 := by omega
      clear ih hge
      repeat' (first | ((rw [e0])) | ((rw [e1])) | ((rw [e2])) | ((rw [hl])) | ((first | refine WLA.m rfl rfl ?_ ?_ | refine WDQ.m rfl rfl ?_ ?_ | refine WLA.st rfl ?_ ?_ | refine WLA.x rfl rfl ?_ (fun x => ?_) | refine WLA.x0 rfl ?_ (fun x => ?_)); first | exact sdT | skip) | (refine Stp.go ?_) | (guard_target =~ WLA _ _ _ _ _ (⟨_, .call ⟨.value (.func 54), _, _⟩, _, _, _, _⟩ :: _) _ _; refine WLA.call rfl rfl (ih3) ?_; rintro ⟨⟩) | (refine WPA.ifT ?_) | (refine WPA.ifF ?_) | ((first | refine WPA.dec ?_); first | refine orL ?_ | refine orR ?_) | ((first | refine WPA.ifBt ?_ ?_ | refine WPA.ifBnf ?_ ?_); assumption) | ((first | refine WPA.ifBnt ?_ ?_ | refine WPA.ifBf ?_ ?_); assumption) | ((first | refine WPA.ifs ?_ ?_ | refine WPA.ifB ?_ ?_) <;> intro hc) | (guard_target =~ WPA _ _ _ (.region 3 _ true) _ _ _; refine WPA.drawT 9 (.q 0 (.q 1 (.q 3 (.q 4 (.q 5 (.q 6 (.b false 2 (.e 7 (.q 8 .fin)) false 7 (.q 8 (.e 2 .fin))))))))) mixed ?_ ?_; kernel_rfl) | (refine WDA.finish (tl := [⟨_, _, _, _, _, _⟩, ⟨_, _, _, _, _, _⟩]) rfl ?_) | (refine WDQ.see rfl ?_) | (first | (refine WDA.two rfl rfl ?_ ?_) | (refine WDA.twoL rfl rfl ?_ ?_) | (refine WDA.twoR rfl rfl ?_ ?_) | (refine WDA.twoW rfl rfl ?_ ?_)) | (refine WDE.see rfl ?_) | (refine WDE.alloc rfl rfl (fun w h => h) (fun x => ?_)) | (refine WDE.stE rfl ?_) | (refine WDE.x rfl rfl ?_ ?_ (fun x => ?_); rotate_left 1; (intro x w h; first | exact h | exact Ent.drop1.sl h | exact SL.unI h | exact SL.to h); rotate_left 1; first | exact sdT | skip) | (guard_target =~ WDE _ _ _ _ _ _ _ ⟨_, .call ⟨.value (.func 54), _, _⟩, _, _, _, _⟩ _ _ _; refine WDE.call rfl rfl (ih3) ?_ ?_; (intro x w h; first | exact h | exact Ent.drop1.sl h | exact SL.unI h | exact SL.to h); rintro ⟨⟩) | (guard_target =~ WDW _ _ _ _ _ _ _ ⟨_, .call ⟨.value (.func 54), _, _⟩, _, _, _, _⟩ _ _ _; refine WDW.call rfl rfl (ih3) ?_; rintro ⟨⟩))
      all_goals exact QQ.end_ rfl () rfl fun w h => h.to
def intS (v : Int) : ByteArray := if v < 0 then mnB ++ decL (-v).toNat else decL v.toNat
section
variable {L L' : List HP} {w0 : World} {I : Foot}
theorem Int_tr {v : Int} (hv : -9223372036854775808 ≤ v ∧ v ≤ 9223372036854775807) : Tr Tryz.prog 28 #[.int .i64 v] (SL w0 I L) (fun _ : Unit => .string (intS v)) (fun _ => SL w0 I L) := by
  refine Tr.intro Tryz.func28 rfl Tryz.ntmps28 rfl ?_
  unfold intS
  by_cases h : v < 0
  · obtain ⟨n, hn⟩ : ∃ n : Nat, (n : Int) = -v := ⟨(-v).toNat, by omega⟩
    obtain ⟨m, hm⟩ : ∃ m : Nat, (m : Int) = 0 - (v + 1) := ⟨(0 - (v + 1)).toNat, by omega⟩
    have hnm : (m : Int) + 1 = n := by omega
    have hvn : (-v).toNat = n := by omega
    rw [if_pos h, hvn]
    have hd := fun {L : List HP} => digits_tr (w0 := w0) 19 (n := n) (I := I) (L := L) (Nat.lt_of_le_of_lt (show n ≤ 18446744073709551615 by omega) (by decide)) (by omega)
    have hsz := dec_20 (v := n) (by omega)
    have hb1 : -9223372036854775808 ≤ v + 1 ∧ v + 1 ≤ 9223372036854775807 := by omega
    have hb2 : -9223372036854775808 ≤ 0 - (v + 1) ∧ 0 - (v + 1) ≤ 9223372036854775807 := by omega
    have hb3 : (0 : Int) ≤ m ∧ (m : Int) ≤ 18446744073709551615 := by omega
    have hb4 : (0 : Int) ≤ (m : Int) + 1 ∧ (m : Int) + 1 ≤ 18446744073709551615 := by omega
    have hsz2 : (⟨#[45]⟩ : ByteArray).size + (decL n).size ≤ 9223372036854775807 := by rw [one_sz]; omega
    repeat' (first | ((rw [← hm])) | ((rw [hnm])) | ((first | refine WLA.m rfl rfl ?_ ?_ | refine WLA.st rfl ?_ ?_ | refine WLA.x rfl rfl ?_ (fun x => ?_) | refine WLA.x0 rfl ?_ (fun x => ?_)); first | exact sdT | skip) | (refine Stp.go ?_) | (guard_target =~ WLA _ _ _ _ _ (⟨_, .call ⟨.value (.func 54), _, _⟩, _, _, _, _⟩ :: _) _ _; refine WLA.call rfl rfl (hd) ?_; rintro ⟨⟩) | (refine WPA.ifT ?_) | (refine WPA.ifF ?_) | ((first | refine WPA.dec ?_); first | refine orL ?_ | refine orR ?_) | ((first | refine WPA.ifBt ?_ ?_ | refine WPA.ifBnf ?_ ?_); assumption) | ((first | refine WPA.ifBnt ?_ ?_ | refine WPA.ifBf ?_ ?_); assumption) | ((first | refine WPA.ifs ?_ ?_ | refine WPA.ifB ?_ ?_) <;> intro hc))
    exact QQ.end_ rfl () rfl fun w h => h.to
  · obtain ⟨n, hn⟩ : ∃ n : Nat, (n : Int) = v := ⟨v.toNat, by omega⟩
    subst hn
    rw [if_neg h, Int.toNat_natCast]
    have hd := fun {L : List HP} => digits_tr (w0 := w0) 19 (n := n) (I := I) (L := L) (Nat.lt_of_le_of_lt (show n ≤ 18446744073709551615 by omega) (by decide)) (by omega)
    have hb3 : (0 : Int) ≤ n ∧ (n : Int) ≤ 18446744073709551615 := by omega
    repeat' (first | ((first | refine WLA.m rfl rfl ?_ ?_ | refine WLA.st rfl ?_ ?_ | refine WLA.x rfl rfl ?_ (fun x => ?_) | refine WLA.x0 rfl ?_ (fun x => ?_)); first | exact sdT | skip) | (refine Stp.go ?_) | (guard_target =~ WLA _ _ _ _ _ (⟨_, .call ⟨.value (.func 54), _, _⟩, _, _, _, _⟩ :: _) _ _; refine WLA.call rfl rfl (hd) ?_; rintro ⟨⟩) | (refine WPA.ifT ?_) | (refine WPA.ifF ?_) | ((first | refine WPA.dec ?_); first | refine orL ?_ | refine orR ?_) | ((first | refine WPA.ifBt ?_ ?_ | refine WPA.ifBnf ?_ ?_); assumption) | ((first | refine WPA.ifBnt ?_ ?_ | refine WPA.ifBf ?_ ?_); assumption) | ((first | refine WPA.ifs ?_ ?_ | refine WPA.ifB ?_ ?_) <;> intro hc))
    exact QQ.end_ rfl () rfl fun w h => h.to
end
end Go.Proofs.YthkhneimfjaohaaGreatDoor
namespace Go.Proofs.YthkhneimfjaohaaGreatDoor
open Go Go.Fw Go.RowKit
set_option linter.unusedVariables false
set_option linter.unusedSimpArgs false
set_option maxRecDepth 100000
set_option maxHeartbeats 16000000
set_option synthInstance.maxHeartbeats 200000
set_option synthInstance.maxSize 100000
attribute [local irreducible] WPA WLA WDA WDQ WDE QQ seqQ blockQ loopQ fnQ OpP OpT Tr TrP SL SLd OwnS LitS Bk BkE Ob
attribute [local irreducible] fnX TrX
section
variable {L L' : List HP} {w0 : World} {I : Foot} {s : ByteArray} {P : Nat} {n : Int}
theorem small_tr {i : Nat} (hi : i < 10) : TrP Tryz.prog 87 #[.int .i64 i] (SL w0 I L) (.string (intS i)) := by
  refine TrP.ofD fun u => Tr.intro Tryz.func87 rfl Tryz.ntmps87 rfl ?_
  have h1 : (i : Int) < 10 := by omega
  have e : intS (i : Int) = ⟨#[UInt8.ofNat (48 + i)]⟩ := by unfold intS; rw [if_neg (by omega), Int.toNat_natCast, dec_lt hi]
  rw [e]
  have hb : ((0 : Int) ≤ i ∧ (i : Int) ≤ (i : Int) + 1) ∧ (i : Int) + 1 ≤ 36 := by omega
  repeat' (first | ((first | refine WLA.m rfl rfl ?_ ?_ | refine WLA.st rfl ?_ ?_ | refine WLA.x rfl rfl ?_ (fun x => ?_) | refine WLA.x0 rfl ?_ (fun x => ?_)); first | exact sdT | skip) | (refine Stp.go ?_) | (refine WPA.ifT ?_) | (refine WPA.ifF ?_) | ((first | refine WPA.dec ?_); first | refine orL ?_ | refine orR ?_) | ((first | refine WPA.ifBt ?_ ?_ | refine WPA.ifBnf ?_ ?_); assumption) | ((first | refine WPA.ifBnt ?_ ?_ | refine WPA.ifBf ?_ ?_); assumption) | ((first | refine WPA.ifs ?_ ?_ | refine WPA.ifB ?_ ?_) <;> intro hc))
  refine QQ.end_ rfl () (congrArg Value.string ?_) fun w h => h
  rcases (show i = 0 ∨ i = 1 ∨ i = 2 ∨ i = 3 ∨ i = 4 ∨ i = 5 ∨ i = 6 ∨ i = 7 ∨ i = 8 ∨ i = 9 by omega) with rfl | rfl | rfl | rfl | rfl | rfl | rfl | rfl | rfl | rfl <;> decide
theorem Format_tr {i : Nat} (hi : i < 10) : TrP Tryz.prog 69 #[.int .i64 i, .int .i64 10] (SL w0 I L) (.string (intS i)) := by
  refine TrP.ofD fun u => Tr.intro Tryz.func69 rfl Tryz.ntmps69 rfl ?_
  have h1 : (0 : Int) ≤ i := by omega
  have h2 : (i : Int) < 100 := by omega
  have hs := fun {L : List HP} => small_tr (w0 := w0) (I := I) (L := L) hi
  repeat' (first | ((first | refine WLA.m rfl rfl ?_ ?_ | refine WLA.st rfl ?_ ?_ | refine WLA.x rfl rfl ?_ (fun x => ?_) | refine WLA.x0 rfl ?_ (fun x => ?_)); first | exact sdT | skip) | (refine Stp.go ?_) | (guard_target =~ WLA _ _ _ _ _ (⟨_, .call ⟨.value (.func 87), _, _⟩, _, _, _, _⟩ :: _) _ _; refine WLA.cq rfl rfl (hs) ?_) | (refine WPA.ifT ?_) | (refine WPA.ifF ?_) | (refine WLA.no rfl rfl ?_) | ((first | refine WPA.dec ?_ | ((fail_if_success (guard_target =~ WLA _ _ _ _ _ _ (put1 _ _ (.bool true)) _)); (fail_if_success (guard_target =~ WLA _ _ _ _ _ _ (put1 _ _ (.bool false)) _)); refine WLA.dec rfl rfl ?_) | refine WLA.pk ?_); first | refine orL ?_ | refine orR ?_) | ((first | refine WPA.ifBt ?_ ?_ | refine WPA.ifBnf ?_ ?_); assumption) | ((first | refine WPA.ifBnt ?_ ?_ | refine WPA.ifBf ?_ ?_); assumption) | ((first | refine WPA.ifs ?_ ?_ | refine WPA.ifB ?_ ?_) <;> intro hc) | ((fail_if_success (guard_target =~ WLA _ _ _ _ _ _ (put1 _ _ (.bool true)) _)); (fail_if_success (guard_target =~ WLA _ _ _ _ _ _ (put1 _ _ (.bool false)) _)); (first | refine WLA.both rfl rfl ?_ ?_ | refine WLA.bothB rfl rfl ?_ ?_) <;> intro hg))
  exact QQ.end_ rfl () rfl fun w h => h
theorem Itoa_small {i : Nat} (hi : i < 10) : TrP Tryz.prog 17 #[.int .i64 i] (SL w0 I L) (.string (intS i)) := by
  refine TrP.ofD fun u => Tr.intro Tryz.func17 rfl Tryz.ntmps17 rfl ?_
  have hs : ∀ {L : List HP}, TrP Tryz.prog 44 #[.int .i64 i] (SL w0 I L) (.string (intS i)) := fun {L} => by
    refine TrP.ofD fun u => Tr.intro Tryz.func44 rfl Tryz.ntmps44 rfl ?_
    have hf := fun {L : List HP} => Format_tr (w0 := w0) (I := I) (L := L) hi
    repeat' (first | ((first | refine WLA.m rfl rfl ?_ ?_ | refine WLA.st rfl ?_ ?_ | refine WLA.x rfl rfl ?_ (fun x => ?_) | refine WLA.x0 rfl ?_ (fun x => ?_)); first | exact sdT | skip) | (refine Stp.go ?_) | (guard_target =~ WLA _ _ _ _ _ (⟨_, .call ⟨.value (.func 69), _, _⟩, _, _, _, _⟩ :: _) _ _; refine WLA.cq rfl rfl (hf) ?_) | (refine WPA.ifT ?_) | (refine WPA.ifF ?_) | ((first | refine WPA.dec ?_); first | refine orL ?_ | refine orR ?_) | ((first | refine WPA.ifBt ?_ ?_ | refine WPA.ifBnf ?_ ?_); assumption) | ((first | refine WPA.ifBnt ?_ ?_ | refine WPA.ifBf ?_ ?_); assumption) | ((first | refine WPA.ifs ?_ ?_ | refine WPA.ifB ?_ ?_) <;> intro hc))
    exact QQ.end_ rfl () rfl fun w h => h
  repeat' (first | ((first | refine WLA.m rfl rfl ?_ ?_ | refine WLA.st rfl ?_ ?_ | refine WLA.x rfl rfl ?_ (fun x => ?_) | refine WLA.x0 rfl ?_ (fun x => ?_)); first | exact sdT | skip) | (refine Stp.go ?_) | (guard_target =~ WLA _ _ _ _ _ (⟨_, .call ⟨.value (.func 44), _, _⟩, _, _, _, _⟩ :: _) _ _; refine WLA.cq rfl rfl (hs) ?_) | (refine WPA.ifT ?_) | (refine WPA.ifF ?_) | ((first | refine WPA.dec ?_); first | refine orL ?_ | refine orR ?_) | ((first | refine WPA.ifBt ?_ ?_ | refine WPA.ifBnf ?_ ?_); assumption) | ((first | refine WPA.ifBnt ?_ ?_ | refine WPA.ifBf ?_ ?_); assumption) | ((first | refine WPA.ifs ?_ ?_ | refine WPA.ifB ?_ ?_) <;> intro hc))
  exact QQ.end_ rfl () rfl fun w h => h
def dataB : ByteArray := ⟨#[92, 100, 97, 116, 97, 92]⟩
def fracB : ByteArray := ⟨#[102, 114, 97, 99, 61]⟩
def ngB (k : Nat) : ByteArray := (⟨#[110, 103, 114, 97, 109, 32]⟩ ++ intS (k : Int)) ++ ⟨#[61]⟩
noncomputable def cntF : Nat → ByteArray → Int → ByteArray → List Int → Except (Int × Int) (List Int × ByteArray × Int)
  | 0, _, _, _, _ => .error (0, 0)
  | f + 1, s, n, l, cs =>
    open Classical in
    if l = ⟨#[]⟩ ∧ cs ≠ [] then .ok (cs, s, n)
    else if 8 ≤ cs.length then .error (n, 3)
    else if ¬ (hasP l (ngB (cs.length + 1)) ∧ NumOk (cutP l (ngB (cs.length + 1)))) then .error (n, 3)
    else if numV (cutP l (ngB (cs.length + 1))) < 0 then .error (n, 3)
    else if ¬ 0 ≤ atB s 10 then .error (n + 1, 2)
    else cntF f (aftB s 10) (n + 1) (befB s 10) (cs ++ [numV (cutP l (ngB (cs.length + 1)))])
noncomputable def headF (s : ByteArray) (n : Int) : Except (Int × Int) ((Int × List Int) × ByteArray × Int) :=
  open Classical in
  if ¬ 0 ≤ atB s 10 then .error (n + 1, 2) else if befB s 10 ≠ dataB then .error (n + 1, 3)
  else if ¬ 0 ≤ atB (aftB s 10) 10 then .error (n + 1 + 1, 2)
  else if ¬ (hasP (befB (aftB s 10) 10) fracB ∧ NumOk (cutP (befB (aftB s 10) 10) fracB)) then .error (n + 1 + 1, 3)
  else if ¬ 0 ≤ atB (aftB (aftB s 10) 10) 10 then .error (n + 1 + 1 + 1, 2)
  else (cntF ((aftB (aftB (aftB s 10) 10) 10).size + 1) (aftB (aftB (aftB s 10) 10) 10) (n + 1 + 1 + 1) (befB (aftB (aftB s 10) 10) 10) []).map fun r => ((numV (cutP (befB (aftB s 10) 10) fracB), r.1), r.2)
structure HW where
  f : Nat
  s : ByteArray
  n : Int
  l : ByteArray
  v : SV
  cs : List Int
theorem head_trX [h : FindK L PsH P (s, n) L'] (hsz : 0 ≤ n ∧ n + s.size ≤ 1000000) :
    TrX Tryz.prog 25 #[.pointer (some ⟨P, 0, none⟩)] (SL w0 I L)
      (fun x : { x : (Int × List Int) × SV × ByteArray × Int // headF s n = .ok (x.1, x.2.2) } => .tuple #[.int .i64 x.1.1.1, .slice x.1.2.1.a x.1.2.1.n x.1.2.1.cap])
      (fun x => SL w0 I (OwnS 3 x.1.2.1 x.1.1.2 :: PsH P x.1.2.2 :: L'))
      (fun y : { y : Int × Int // headF s n = .error y } => wrV y.1) (fun _ => SL w0 I L') := by
  refine TrX.at h.out ?_
  refine TrX.intro Tryz.func25 rfl Tryz.ntmps25 rfl ?_
  have az : ∀ {t : ByteArray}, 0 ≤ atB t 10 → (aftB t 10).size < t.size := fun h => aft_size h
  have bz : ∀ {t : ByteArray}, (befB t 10).size ≤ t.size := fun {t} => by unfold befB; rw [ByteArray.size_extract]; omega
  repeat' ((fail_if_success (guard_target =~ WPA _ _ _ (.region 2 _ _) _ _ _)); first | ((first | refine WLA.m rfl rfl ?_ ?_ | refine WLA.st rfl ?_ ?_ | refine WLA.x rfl rfl ?_ (fun x => ?_) | refine WLA.x0 rfl ?_ (fun x => ?_)); first | exact sdT | skip) | (refine Stp.go ?_) | (guard_target =~ WLA _ _ _ _ _ (⟨_, .call ⟨.value (.func 51), _, _⟩, _, _, _, _⟩ :: _) _ _; first | (refine WLA.callX rfl rfl (next_trX (by omega) ⟨hsz.1, by omega⟩) (by intro y; refine QQ.thrw ?_; exact QQ.thrown ⟨y.1, by rw [headF, if_pos y.2.1, y.2.2]⟩ rfl fun w h => h.to) ?_; rintro ⟨⟨⟩, h0⟩) | (refine WLA.callX0 rfl (next_trX (by omega) ⟨hsz.1, by omega⟩) (by intro y; refine QQ.thrw ?_; exact QQ.thrown ⟨y.1, by rw [headF, if_pos y.2.1, y.2.2]⟩ rfl fun w h => h.to) ?_; rintro ⟨⟨⟩, h0⟩)) | (guard_target =~ WLA _ _ _ _ _ (⟨_, .call ⟨.value (.func 50), _, _⟩, _, _, _, _⟩ :: _) _ _; first | (refine WLA.callX rfl rfl (must_trX) (by intro y; refine QQ.thrw ?_; exact QQ.thrown ⟨y.1, by rw [headF, if_neg (fun k => k h0), if_pos (show befB s 10 ≠ dataB from of_decide_eq_false y.2.1), y.2.2]⟩ rfl fun w h => h.to) ?_; rintro ⟨⟨⟩, h1⟩) | (refine WLA.callX0 rfl (must_trX) (by intro y; refine QQ.thrw ?_; exact QQ.thrown ⟨y.1, by rw [headF, if_neg (fun k => k h0), if_pos (show befB s 10 ≠ dataB from of_decide_eq_false y.2.1), y.2.2]⟩ rfl fun w h => h.to) ?_; rintro ⟨⟨⟩, h1⟩)) | (refine WPA.ifT ?_) | (refine WPA.ifF ?_) | ((first | refine WPA.dec ?_); first | refine orL ?_ | refine orR ?_) | ((first | refine WPA.ifBt ?_ ?_ | refine WPA.ifBnf ?_ ?_); assumption) | ((first | refine WPA.ifBnt ?_ ?_ | refine WPA.ifBf ?_ ?_); assumption) | ((first | refine WPA.ifs ?_ ?_ | refine WPA.ifB ?_ ?_) <;> intro hc))
  replace h1 := of_decide_eq_true h1
  have a0 := az h0
  have hF : headF s n = (open Classical in if ¬ 0 ≤ atB (aftB s 10) 10 then .error (n + 1 + 1, 2)
    else if ¬ (hasP (befB (aftB s 10) 10) fracB ∧ NumOk (cutP (befB (aftB s 10) 10) fracB)) then .error (n + 1 + 1, 3)
    else if ¬ 0 ≤ atB (aftB (aftB s 10) 10) 10 then .error (n + 1 + 1 + 1, 2)
    else (cntF ((aftB (aftB (aftB s 10) 10) 10).size + 1) (aftB (aftB (aftB s 10) 10) 10) (n + 1 + 1 + 1) (befB (aftB (aftB s 10) 10) 10) []).map fun r => ((numV (cutP (befB (aftB s 10) 10) fracB), r.1), r.2)) := by
    rw [headF, if_neg (fun k => k h0), if_neg (fun k => k (show befB s 10 = dataB from h1))]
  generalize aftB s 10 = s1 at a0 hF ⊢
  repeat' ((fail_if_success (guard_target =~ WPA _ _ _ (.region 3 _ _) _ _ _)); first | ((first | refine WLA.m rfl rfl ?_ ?_ | refine WLA.st rfl ?_ ?_ | refine WLA.x rfl rfl ?_ (fun x => ?_) | refine WLA.x0 rfl ?_ (fun x => ?_)); first | exact sdT | skip) | (refine Stp.go ?_) | (guard_target =~ WLA _ _ _ _ _ (⟨_, .call ⟨.value (.func 51), _, _⟩, _, _, _, _⟩ :: _) _ _; first | (refine WLA.callX rfl rfl (next_trX (by omega) ⟨by omega, by omega⟩) (by intro y; refine QQ.thrw ?_; exact QQ.thrown ⟨y.1, by rw [hF, if_pos y.2.1, y.2.2]⟩ rfl fun w h => h.to) ?_; rintro ⟨⟨⟩, h2⟩) | (refine WLA.callX0 rfl (next_trX (by omega) ⟨by omega, by omega⟩) (by intro y; refine QQ.thrw ?_; exact QQ.thrown ⟨y.1, by rw [hF, if_pos y.2.1, y.2.2]⟩ rfl fun w h => h.to) ?_; rintro ⟨⟨⟩, h2⟩)) | (guard_target =~ WLA _ _ _ _ _ (⟨_, .call ⟨.value (.func 52), _, _⟩, _, _, _, _⟩ :: _) _ _; first | (refine WLA.callX rfl rfl (after_trX) (by intro y; refine QQ.thrw ?_; exact QQ.thrown ⟨y.1, by rw [hF, if_neg (fun k => k h2), if_pos (show ¬ (hasP (befB s1 10) fracB ∧ NumOk (cutP (befB s1 10) fracB)) from y.2.1), y.2.2]⟩ rfl fun w h => h.to) ?_; rintro ⟨fr, h3, hfr⟩) | (refine WLA.callX0 rfl (after_trX) (by intro y; refine QQ.thrw ?_; exact QQ.thrown ⟨y.1, by rw [hF, if_neg (fun k => k h2), if_pos (show ¬ (hasP (befB s1 10) fracB ∧ NumOk (cutP (befB s1 10) fracB)) from y.2.1), y.2.2]⟩ rfl fun w h => h.to) ?_; rintro ⟨fr, h3, hfr⟩)) | (refine WPA.ifT ?_) | (refine WPA.ifF ?_) | ((first | refine WPA.dec ?_); first | refine orL ?_ | refine orR ?_) | ((first | refine WPA.ifBt ?_ ?_ | refine WPA.ifBnf ?_ ?_); assumption) | ((first | refine WPA.ifBnt ?_ ?_ | refine WPA.ifBf ?_ ?_); assumption) | ((first | refine WPA.ifs ?_ ?_ | refine WPA.ifB ?_ ?_) <;> intro hc))
  dsimp only
  have a1 := az h2
  replace hF : headF s n = (open Classical in if ¬ 0 ≤ atB (aftB s1 10) 10 then .error (n + 1 + 1 + 1, 2)
    else (cntF ((aftB (aftB s1 10) 10).size + 1) (aftB (aftB s1 10) 10) (n + 1 + 1 + 1) (befB (aftB s1 10) 10) []).map fun r => ((fr, r.1), r.2)) := by
    rw [hF, if_neg (fun k => k h2), if_neg (fun k => k (show hasP (befB s1 10) fracB ∧ NumOk (cutP (befB s1 10) fracB) from h3)), hfr]; rfl
  generalize aftB s1 10 = s2 at a1 hF ⊢
  repeat' (first | ((first | refine WLA.m rfl rfl ?_ ?_ | refine WLA.st rfl ?_ ?_ | refine WLA.x rfl rfl ?_ (fun x => ?_) | refine WLA.x0 rfl ?_ (fun x => ?_)); first | exact sdT | skip) | (refine Stp.go ?_) | (guard_target =~ WLA _ _ _ _ _ (⟨_, .call ⟨.value (.func 51), _, _⟩, _, _, _, _⟩ :: _) _ _; first | (refine WLA.callX rfl rfl (next_trX (by omega) ⟨by omega, by omega⟩) (by intro y; refine QQ.thrw ?_; exact QQ.thrown ⟨y.1, by rw [hF, if_pos y.2.1, y.2.2]⟩ rfl fun w h => h.to) ?_; rintro ⟨⟨⟩, h4⟩) | (refine WLA.callX0 rfl (next_trX (by omega) ⟨by omega, by omega⟩) (by intro y; refine QQ.thrw ?_; exact QQ.thrown ⟨y.1, by rw [hF, if_pos y.2.1, y.2.2]⟩ rfl fun w h => h.to) ?_; rintro ⟨⟨⟩, h4⟩)) | (refine WPA.ifT ?_) | (refine WPA.ifF ?_) | ((first | refine WPA.dec ?_); first | refine orL ?_ | refine orR ?_) | ((first | refine WPA.ifBt ?_ ?_ | refine WPA.ifBnf ?_ ?_); assumption) | ((first | refine WPA.ifBnt ?_ ?_ | refine WPA.ifBf ?_ ?_); assumption) | ((first | refine WPA.ifs ?_ ?_ | refine WPA.ifB ?_ ?_) <;> intro hc))
  have a2 := az h4
  rw [if_neg (fun k => k h4)] at hF
  generalize aftB s2 10 = s3 at a2 hF ⊢
  have b2 : (befB s2 10).size ≤ s2.size := bz
  generalize befB s2 10 = l3 at b2 hF ⊢
  refine WPA.loopS (σ := HW) (fun y => [(0, .pointer (some ⟨P, 0, none⟩)), (4, .int .i64 fr), (5, .slice y.v.a y.v.n y.v.cap), (6, .string y.l)])
    (fun y => (y.s.size < y.f ∧ y.cs.length ≤ 8 ∧ 0 ≤ y.n ∧ y.n + y.s.size ≤ 1000000) ∧ headF s n = (cntF y.f y.s y.n y.l y.cs).map fun r => ((fr, r.1), r.2)) (fun y => SL w0 I (OwnS 3 y.v y.cs :: PsH P (y.s, y.n) :: L')) (fun y => y.f) ⟨s3.size + 1, s3, n + 1 + 1 + 1, l3, SV.nil, []⟩ ⟨rfl, rfl, rfl, rfl, trivial⟩
    ⟨⟨by dsimp only; omega, Nat.zero_le _, by dsimp only; omega, by dsimp only; omega⟩, hF⟩ (fun w h => by
      have h2 := (Ent.ownNil (α := Int) (t := 3) Ent.refl).sl h
      show SL w0 I (OwnS 3 SV.nil ([] : List Int) :: PsH P (s3, n + 1 + 1 + 1) :: L') w
      exact h2.to) ?_
  clear hF
  rintro ⟨f, t, m, l, v, cs⟩ ρ ⟨⟨hf, hc8, hm, hmt⟩, hF⟩
  dsimp only at hf hc8 hm hmt hF ⊢
  obtain ⟨f, rfl⟩ : ∃ g, f = g + 1 := ⟨f - 1, by omega⟩
  by_cases hstop : l = ⟨#[]⟩ ∧ cs ≠ []
  · rw [cntF, if_pos hstop] at hF
    obtain ⟨hl, hcs⟩ := hstop
    have hc0 : ¬ (cs.length : Int) = 0 := by have := List.length_pos_iff.2 hcs; omega
    repeat' (first | ((first | refine WLA.m rfl rfl ?_ ?_ | refine WLA.st rfl ?_ ?_ | refine WLA.x rfl rfl ?_ (fun x => ?_) | refine WLA.x0 rfl ?_ (fun x => ?_)); first | exact sdT | skip) | (refine Stp.go ?_) | (refine WPA.ifT ?_) | (refine WPA.ifF ?_) | (refine WLA.no rfl rfl ?_) | ((first | refine WPA.dec ?_ | ((fail_if_success (guard_target =~ WLA _ _ _ _ _ _ (put1 _ _ (.bool true)) _)); (fail_if_success (guard_target =~ WLA _ _ _ _ _ _ (put1 _ _ (.bool false)) _)); refine WLA.dec rfl rfl ?_) | refine WLA.pk ?_); first | refine orL ?_ | refine orR ?_) | ((first | refine WPA.ifBt ?_ ?_ | refine WPA.ifBnf ?_ ?_); assumption) | ((first | refine WPA.ifBnt ?_ ?_ | refine WPA.ifBf ?_ ?_); assumption) | ((first | refine WPA.ifs ?_ ?_ | refine WPA.ifB ?_ ?_) <;> intro hc) | ((fail_if_success (guard_target =~ WLA _ _ _ _ _ _ (put1 _ _ (.bool true)) _)); (fail_if_success (guard_target =~ WLA _ _ _ _ _ _ (put1 _ _ (.bool false)) _)); (first | refine WLA.both rfl rfl ?_ ?_ | refine WLA.bothB rfl rfl ?_ ?_) <;> intro hg))
    exact QQ.fnX_ret (QQ.end_ rfl ⟨((fr, cs), v, t, m), hF⟩ rfl fun w h => h.to)
  rw [cntF, if_neg hstop] at hF
  have hgo : ¬ l = ⟨#[]⟩ ∨ l = ⟨#[]⟩ ∧ (cs.length : Int) = 0 := by
    by_cases hl : l = ⟨#[]⟩
    · refine .inr ⟨hl, ?_⟩
      by_cases hc : cs = []
      · rw [hc]; rfl
      · exact absurd ⟨hl, hc⟩ hstop
    · exact .inl hl
  have en : (cs.length : Int) + 1 = ((cs.length + 1 : Nat) : Int) := by omega
  have hb0 : -9223372036854775808 ≤ (cs.length : Int) + 1 ∧ (cs.length : Int) + 1 ≤ 9223372036854775807 := by omega
  have hit := fun {L : List HP} => Itoa_small (w0 := w0) (I := I) (L := L) (show cs.length + 1 < 10 by omega)
  have hz0 : (intS ((cs.length + 1 : Nat) : Int)).size = 1 := by unfold intS; rw [if_neg (by omega), Int.toNat_natCast, dec_lt (by omega)]; rfl
  have hz1 : (⟨#[110, 103, 114, 97, 109, 32]⟩ : ByteArray).size + (intS ((cs.length + 1 : Nat) : Int)).size ≤ 9223372036854775807 := by rw [hz0]; decide
  have hz2 : ((⟨#[110, 103, 114, 97, 109, 32]⟩ : ByteArray) ++ intS ((cs.length + 1 : Nat) : Int)).size + (⟨#[61]⟩ : ByteArray).size ≤ 9223372036854775807 := by rw [ByteArray.size_append, hz0]; decide
  have hroom : Room (cs.length + 1) 8 := ⟨by omega, by omega⟩
  have P1 : ∀ {y : Int × Int}, ¬ ((cs.length : Int) < 8) → y = (m, 3) → headF s n = .error y := fun h e => by rw [hF, if_pos (by omega), e]; rfl
  have P2 : ∀ {y : Int × Int}, cs.length < 8 → ¬ (hasP l (ngB (cs.length + 1)) ∧ NumOk (cutP l (ngB (cs.length + 1)))) → y = (m, 3) → headF s n = .error y := fun h k e => by rw [hF, if_neg (by omega), if_pos k, e]; rfl
  have P3 : ∀ {y : Int × Int}, cs.length < 8 → (hasP l (ngB (cs.length + 1)) ∧ NumOk (cutP l (ngB (cs.length + 1)))) → ¬ 0 ≤ numV (cutP l (ngB (cs.length + 1))) → y = (m, 3) → headF s n = .error y := fun h k j e => by rw [hF, if_neg (by omega), if_neg (fun q => q k), if_pos (by omega), e]; rfl
  have P4 : ∀ {y : Int × Int}, cs.length < 8 → (hasP l (ngB (cs.length + 1)) ∧ NumOk (cutP l (ngB (cs.length + 1)))) → 0 ≤ numV (cutP l (ngB (cs.length + 1))) → ¬ 0 ≤ atB t 10 → y = (m + 1, 2) → headF s n = .error y := fun h k j q e => by rw [hF, if_neg (by omega), if_neg (fun q => q k), if_neg (by omega), if_pos q, e]; rfl
  have P5 : cs.length < 8 → (hasP l (ngB (cs.length + 1)) ∧ NumOk (cutP l (ngB (cs.length + 1)))) → 0 ≤ numV (cutP l (ngB (cs.length + 1))) → 0 ≤ atB t 10 → headF s n = (cntF f (aftB t 10) (m + 1) (befB t 10) (cs ++ [numV (cutP l (ngB (cs.length + 1)))])).map fun r => ((fr, r.1), r.2) := fun h k j q => by rw [hF, if_neg (by omega), if_neg (fun q => q k), if_neg (by omega), if_neg (fun k => k q)]
  have hng : (⟨#[110, 103, 114, 97, 109, 32]⟩ ++ intS ((cs.length + 1 : Nat) : Int)) ++ ⟨#[61]⟩ = ngB (cs.length + 1) := rfl
  clear hF
  rcases hgo with hl | ⟨hl, hc0⟩
  all_goals
    repeat' ((fail_if_success (guard_target =~ WPA _ _ _ (.region 8 _ _) _ _ _)); first | ((first | refine WLA.m rfl rfl ?_ ?_ | refine WLA.st rfl ?_ ?_ | refine WLA.x rfl rfl ?_ (fun x => ?_) | refine WLA.x0 rfl ?_ (fun x => ?_)); first | exact sdT | skip) | (refine Stp.go ?_) | (guard_target =~ WLA _ _ _ _ _ (⟨_, .call ⟨.value (.func 50), _, _⟩, _, _, _, _⟩ :: _) _ _; first | (refine WLA.callX rfl rfl (must_trX) (by intro y; refine QQ.thrw ?_; exact QQ.thrown ⟨y.1, P1 (of_decide_eq_false y.2.1) y.2.2⟩ rfl fun w h => h.to) ?_; rintro ⟨⟨⟩, h5⟩) | (refine WLA.callX0 rfl (must_trX) (by intro y; refine QQ.thrw ?_; exact QQ.thrown ⟨y.1, P1 (of_decide_eq_false y.2.1) y.2.2⟩ rfl fun w h => h.to) ?_; rintro ⟨⟨⟩, h5⟩)) | (refine WPA.ifT ?_) | (refine WPA.ifF ?_) | (refine WLA.no rfl rfl ?_) | ((first | refine WPA.dec ?_ | ((fail_if_success (guard_target =~ WLA _ _ _ _ _ _ (put1 _ _ (.bool true)) _)); (fail_if_success (guard_target =~ WLA _ _ _ _ _ _ (put1 _ _ (.bool false)) _)); refine WLA.dec rfl rfl ?_) | refine WLA.pk ?_); first | refine orL ?_ | refine orR ?_) | ((first | refine WPA.ifBt ?_ ?_ | refine WPA.ifBnf ?_ ?_); assumption) | ((first | refine WPA.ifBnt ?_ ?_ | refine WPA.ifBf ?_ ?_); assumption) | ((first | refine WPA.ifs ?_ ?_ | refine WPA.ifB ?_ ?_) <;> intro hc) | ((fail_if_success (guard_target =~ WLA _ _ _ _ _ _ (put1 _ _ (.bool true)) _)); (fail_if_success (guard_target =~ WLA _ _ _ _ _ _ (put1 _ _ (.bool false)) _)); (first | refine WLA.both rfl rfl ?_ ?_ | refine WLA.bothB rfl rfl ?_ ?_) <;> intro hg))
  all_goals
    have h5' : cs.length < 8 := by have := of_decide_eq_true h5; omega
    repeat' ((fail_if_success (guard_target =~ WPA _ _ _ (.region 6 _ _) _ _ _)); first | ((rw [en])) | ((rw [hng])) | ((first | refine WLA.m rfl rfl ?_ ?_ | refine WLA.st rfl ?_ ?_ | refine WLA.x rfl rfl ?_ (fun x => ?_) | refine WLA.x0 rfl ?_ (fun x => ?_)); first | exact sdT | skip) | (refine Stp.go ?_) | (guard_target =~ WLA _ _ _ _ _ (⟨_, .call ⟨.value (.func 17), _, _⟩, _, _, _, _⟩ :: _) _ _; refine WLA.cq rfl rfl (hit) ?_) | (guard_target =~ WLA _ _ _ _ _ (⟨_, .call ⟨.value (.func 52), _, _⟩, _, _, _, _⟩ :: _) _ _; first | (refine WLA.callX rfl rfl (after_trX) (by intro y; refine QQ.thrw ?_; exact QQ.thrown ⟨y.1, P2 h5' y.2.1 y.2.2⟩ rfl fun w h => h.to) ?_; rintro ⟨c1, h6, hc1⟩) | (refine WLA.callX0 rfl (after_trX) (by intro y; refine QQ.thrw ?_; exact QQ.thrown ⟨y.1, P2 h5' y.2.1 y.2.2⟩ rfl fun w h => h.to) ?_; rintro ⟨c1, h6, hc1⟩)) | (guard_target =~ WLA _ _ _ _ _ (⟨_, .call ⟨.value (.func 50), _, _⟩, _, _, _, _⟩ :: _) _ _; first | (refine WLA.callX rfl rfl (must_trX) (by intro y; refine QQ.thrw ?_; exact QQ.thrown ⟨y.1, P3 h5' h6 (by rw [← hc1]; exact of_decide_eq_false y.2.1) y.2.2⟩ rfl fun w h => h.to) ?_; rintro ⟨⟨⟩, h7⟩) | (refine WLA.callX0 rfl (must_trX) (by intro y; refine QQ.thrw ?_; exact QQ.thrown ⟨y.1, P3 h5' h6 (by rw [← hc1]; exact of_decide_eq_false y.2.1) y.2.2⟩ rfl fun w h => h.to) ?_; rintro ⟨⟨⟩, h7⟩)) | (refine WPA.ifT ?_) | (refine WPA.ifF ?_) | ((first | refine WPA.dec ?_); first | refine orL ?_ | refine orR ?_) | ((first | refine WPA.ifBt ?_ ?_ | refine WPA.ifBnf ?_ ?_); assumption) | ((first | refine WPA.ifBnt ?_ ?_ | refine WPA.ifBf ?_ ?_); assumption) | ((first | refine WPA.ifs ?_ ?_ | refine WPA.ifB ?_ ?_) <;> intro hc))
  all_goals
    have h7' : 0 ≤ numV (cutP l (ngB (cs.length + 1))) := by rw [← hc1]; exact of_decide_eq_true h7
    repeat' (first | ((first | refine WLA.m rfl rfl ?_ ?_ | refine WLA.st rfl ?_ ?_ | refine WLA.x rfl rfl ?_ (fun x => ?_) | refine WLA.x0 rfl ?_ (fun x => ?_)); first | exact sdT | skip) | (refine Stp.go ?_) | (guard_target =~ WLA _ _ _ _ _ (⟨_, .call ⟨.value (.func 51), _, _⟩, _, _, _, _⟩ :: _) _ _; first | (refine WLA.callX rfl rfl (next_trX (by omega) ⟨by omega, by omega⟩) (by intro y; refine QQ.thrw ?_; exact QQ.thrown ⟨y.1, P4 h5' h6 h7' y.2.1 y.2.2⟩ rfl fun w h => h.to) ?_; rintro ⟨⟨⟩, h8⟩) | (refine WLA.callX0 rfl (next_trX (by omega) ⟨by omega, by omega⟩) (by intro y; refine QQ.thrw ?_; exact QQ.thrown ⟨y.1, P4 h5' h6 h7' y.2.1 y.2.2⟩ rfl fun w h => h.to) ?_; rintro ⟨⟨⟩, h8⟩)) | (refine WPA.ifT ?_) | (refine WPA.ifF ?_) | ((first | refine WPA.dec ?_); first | refine orL ?_ | refine orR ?_) | ((first | refine WPA.ifBt ?_ ?_ | refine WPA.ifBnf ?_ ?_); assumption) | ((first | refine WPA.ifBnt ?_ ?_ | refine WPA.ifBf ?_ ?_); assumption) | ((first | refine WPA.ifs ?_ ?_ | refine WPA.ifB ?_ ?_) <;> intro hc))
  all_goals
    have a3 := az h8
    dsimp only
    subst hc1
    exact QQ.loopS ⟨f, aftB t 10, m + 1, befB t 10, x, cs ++ [numV (cutP l (ngB (cs.length + 1)))]⟩ ⟨rfl, rfl, rfl, rfl, trivial⟩ ⟨⟨by dsimp only; omega, by dsimp only; rw [List.length_append, List.length_singleton]; omega, by dsimp only; omega, by dsimp only; omega⟩, P5 h5' h6 h7' h8⟩ (by dsimp only; omega) (fun w h => h.to)
end
end Go.Proofs.YthkhneimfjaohaaGreatDoor
namespace Go.Fw
open Go Go.RowKit
set_option linter.unusedVariables false
instance {w0 : World} {I I' : Foot} {L : List HP} {p : HP} [e : EntC L [p]] [h : SubI I I'] : SubT (SL w0 I L) (SL w0 I' [p]) := ⟨fun w hw => (e.out.sl hw).sub h.out⟩
theorem WPA.drawP {ro : Option Nat} {P : Program} {N : Nat} {Q : Hnd} {ρ : Env} {A : World → Prop} {id : Nat} {l : List Oper} {w0 : World} {I : Foot} {L : List HP} (p : HP) [hA : InSL A w0 I L] [e : EntC L [p]] (n : Nat) (pl : Plan) (hm : P.follows .mixedOrders = true) (hok : drawOk l.toArray n pl = true)
    [hdr : DrC A] (h : WDA ro P N l.toArray Q (SL w0 I [p]) n pl ρ A) : WPA ro P N (.region id l.toArray true) Q ρ A := WPA.draw n pl hm hok (fun w hw => e.out.sl (hA.out w hw)) h
end Go.Fw
namespace Go.Proofs.YthkhneimfjaohaaGreatDoor
open Go Go.Fw Go.RowKit
set_option linter.unusedVariables false
set_option linter.unusedSimpArgs false
set_option maxRecDepth 100000
set_option maxHeartbeats 16000000
set_option synthInstance.maxHeartbeats 200000
set_option synthInstance.maxSize 100000
attribute [local irreducible] WPA WLA WDA WDQ WDE QQ seqQ blockQ loopQ fnQ OpP OpT Tr TrP SL SLd OwnS LitS Bk BkE Ob
attribute [local irreducible] fnX TrX EntOk
abbrev GM := Int × SV × Int × Int
noncomputable def grF (last : Bool) (n : Int) (l : ByteArray) : GrL := ⟨n + 1, splB (nthB (splB l 9) 1) 32, numV (nthB (splB l 9) 0), if last then 0 else numV (nthB (splB l 9) 2)⟩
def GrI (J : Foot) (e : GM) (g : GrL) : Prop := (e.1 = g.line ∧ e.2.2.1 = g.prob ∧ e.2.2.2 = g.back) ∧ SlI J e.2.1 ByteArray inferInstance g.words
noncomputable def secF (o : Int) (last : Bool) : Nat → ByteArray → Int → Except (Int × Int) (List GrL × ByteArray × Int)
  | 0, s, n => .ok ([], s, n)
  | k + 1, s, n =>
    open Classical in
    if ¬ 0 ≤ atB s 10 then .error (n + 1, 2) else if ¬ EntOk o last (befB s 10) then .error (n + 1, 3)
    else (secF o last k (aftB s 10) (n + 1)).map fun r => (grF last n (befB s 10) :: r.1, r.2)
def secB (k : Nat) : ByteArray := (⟨#[92]⟩ ++ intS (k : Int)) ++ ⟨#[45, 103, 114, 97, 109, 115, 58]⟩
def endB : ByteArray := ⟨#[92, 101, 110, 100, 92]⟩
noncomputable def allF (N : Nat) : List Int → Nat → ByteArray → Int → Except (Int × Int) (List (List GrL) × ByteArray × Int)
  | [], _, s, n =>
    open Classical in
    if ¬ 0 ≤ atB s 10 then .error (n + 1, 2) else if befB s 10 ≠ endB then .error (n + 1, 3) else if aftB s 10 ≠ ⟨#[]⟩ then .error (n + 1 + 1, 3) else .ok ([], aftB s 10, n + 1 + 1)
  | c :: cs, k, s, n =>
    open Classical in
    if ¬ 0 ≤ atB s 10 then .error (n + 1, 2) else if befB s 10 ≠ secB (k + 1) then .error (n + 1, 3)
    else match secF ((k + 1 : Nat) : Int) (decide ((k : Int) = (N : Int) - 1)) c.toNat (aftB s 10) (n + 1) with
      | .error e => .error e
      | .ok (gs, s2, n2) => if ¬ 0 ≤ atB s2 10 then .error (n2 + 1, 2) else if befB s2 10 ≠ ⟨#[]⟩ then .error (n2 + 1, 3) else (allF N cs (k + 1) (aftB s2 10) (n2 + 1)).map fun r => (gs :: r.1, r.2)
def GrsI (J : Foot) (es : List GM) (l : List GrL) : Prop := es.length = l.length ∧ ∀ j : Nat, j < l.length → GrI J (at_ es (j : Int)) (l.getD j ⟨0, [], 0, 0⟩)
def RowG (J : Foot) (v : SV) (l : List GrL) : Prop := ∃ es : List GM, SlI J v GM inferInstance es ∧ GrsI J es l
theorem GrI.sub {J J' : Foot} {e : GM} {g : GrL} (h : GrI J e g) (k : SubI J' J) : GrI J' e g := ⟨h.1, h.2.sub (hs := k)⟩
theorem GrsI.sub {J J' : Foot} {es : List GM} {l : List GrL} (h : GrsI J es l) (k : SubI J' J) : GrsI J' es l := ⟨h.1, fun j hj => (h.2 j hj).sub k⟩
theorem RowG.sub {J J' : Foot} {v : SV} {l : List GrL} (h : RowG J v l) (k : SubI J' J) : RowG J' v l := by
  obtain ⟨es, h1, h2⟩ := h
  exact ⟨es, h1.sub (hs := k), h2.sub k⟩
theorem GrsI.snoc {J : Foot} {es : List GM} {l : List GrL} {e : GM} {g : GrL} (h : GrsI J es l) (k : GrI J e g) : GrsI J (es ++ [e]) (l ++ [g]) := by
  have h1 := h.1
  refine ⟨by simp [h1], fun j hj => ?_⟩
  rw [List.length_append, List.length_singleton] at hj
  rw [at_nat _ j (by simp; omega), List.getElem_append, List.getD_eq_getElem?_getD, List.getElem?_append]
  by_cases hjl : j < es.length
  · rw [dif_pos hjl, if_pos (by omega), ← List.getD_eq_getElem?_getD, ← at_nat es j hjl]; exact h.2 j (by omega)
  · rw [dif_neg hjl, if_neg (by omega)]
    have e0 : j - l.length = 0 := by omega
    rw [e0]; simpa using k
theorem map_map {ε α β γ : Type} {f : α → β} {g : β → γ} : ∀ x : Except ε α, (x.map f).map g = x.map fun a => g (f a)
  | .ok _ => rfl
  | .error _ => rfl
theorem map_nil {ε α β : Type} : ∀ x : Except ε (List α × β), x.map (fun r => (([] : List α) ++ r.1, r.2)) = x
  | .ok _ => rfl
  | .error _ => rfl
structure OW9 where
  k : Nat
  s : ByteArray
  n : Int
  vs : List SV
  dn : List (List GrL)
  J : Foot
structure IW9 where
  s : ByteArray
  n : Int
  vs : List SV
  q : SV
  gs : List GM
  dg : List GrL
  r : Nat
  J : Foot
instance psS {ρ : Env} {A : World → Prop} {ty t : TypeId} {x : Operand} {y : ByteArray × Int} {S : Nat} {w0 : World} {I : Foot} {L L' : List HP} [hx : Ev ρ x (.pointer (some ⟨S, 0 + 0, none⟩))] [ht : One Tryz.prog t] [hA : InSL A w0 I L] [hb : FindK L PsH S y L'] : OpM Tryz.prog ρ A (.load t x) ty (.string y.1) True :=
  ⟨fun _ => P_load ht.out hx.out fun w hw => cell_of_heap (by have := hb.out.sl (hA.out w hw); unfold PsH at this; exact this.bk) (by simp)⟩
section
variable {L L' : List HP} {w0 : World} {I : Foot} {s : ByteArray} {P : Nat} {n : Int}
theorem entry_trS {o : Int} {last : Bool} [h : FindK L PsH P (s, n) L'] (hsz : s.size ≤ 1000000) (hn : 0 ≤ n ∧ n ≤ 1000000) :
    TrX Tryz.prog 53 #[.pointer (some ⟨P, 0, none⟩), .int .i64 o, .bool last] (SL w0 I L)
      (fun x : { x : SV × Foot // (0 ≤ atB s 10 ∧ EntOk o last (befB s 10)) ∧ SlI (x.2 ++ I) x.1 ByteArray inferInstance (splB (nthB (splB (befB s 10) 9) 1) 32) } =>
        .agg #[.int .i64 (n + 1), .slice x.1.1.a x.1.1.n x.1.1.cap, .int .i64 (numV (nthB (splB (befB s 10) 9) 0)), .int .i64 (if last then 0 else numV (nthB (splB (befB s 10) 9) 2))])
      (fun x => SL w0 (x.1.2 ++ I) (PsH P (aftB s 10, n + 1) :: L'))
      (fun y : { y : Int × Int // (¬ 0 ≤ atB s 10 ∧ y = (n + 1, 2)) ∨ (0 ≤ atB s 10 ∧ ¬ EntOk o last (befB s 10) ∧ y = (n + 1, 3)) } => wrV y.1) (fun _ => SL w0 I L') :=
  (entry_trX hsz hn).conv (fun _ h => h) (fun x w h => ⟨⟨x.1, ⟨x.2.1, x.2.2.1⟩, haveI := x.2.2.2.2; inferInstance⟩, rfl, h.sub fun z hz => (List.mem_append.1 hz).elim id fun hz => x.2.2.2.1.out hz⟩) fun y w h => ⟨y, rfl, h⟩
theorem all_trX {cv : SV} {cs : List Int} [h : FindK L PsH P (s, n) L'] [hcs : SlI I cv Int inferInstance cs] (hsz : 0 ≤ n ∧ n + s.size ≤ 999990) (hc : cs.length ≤ 8) (hc0 : ∀ c ∈ cs, 0 ≤ c) :
    TrX Tryz.prog 27 #[.pointer (some ⟨P, 0, none⟩), .slice cv.a cv.n cv.cap] (SL w0 I L)
      (fun x : SV × List SV × List (List GrL) × (ByteArray × Int) × Foot => .slice x.1.a x.1.n x.1.cap)
      (fun x w => (allF cs.length cs 0 s n = .ok (x.2.2.1, x.2.2.2.1) ∧ SubI x.2.2.2.2 I ∧ x.2.1.length = x.2.2.1.length ∧ ∀ j : Nat, j < x.2.2.1.length → RowG x.2.2.2.2 (at_ x.2.1 (j : Int)) (x.2.2.1.getD j [])) ∧ SL w0 x.2.2.2.2 (OwnS 105 x.1 x.2.1 :: PsH P x.2.2.2.1 :: L') w)
      (fun y : { y : Int × Int // allF cs.length cs 0 s n = .error y } => wrV y.1) (fun _ => SL w0 I L') := by
  refine TrX.at h.out ?_
  refine TrX.intro Tryz.func27 rfl Tryz.ntmps27 rfl ?_
  have hmk : ((0 : Int) ≤ cs.length ∧ (cs.length : Int) ≤ cs.length) ∧ (((24 : Nat) : Int) * cs.length ≤ 281474976710656 ∧ (cs.length : Int) ≤ 9223372036854775807) := by omega
  repeat' (first | ((first | refine WLA.m rfl rfl ?_ ?_ | refine WLA.st rfl ?_ ?_ | refine WLA.x rfl rfl ?_ (fun x => ?_) | refine WLA.x0 rfl ?_ (fun x => ?_)); first | exact sdT | skip) | (refine Stp.go ?_) | (refine WPA.ifT ?_) | (refine WPA.ifF ?_) | ((first | refine WPA.dec ?_); first | refine orL ?_ | refine orR ?_) | ((first | refine WPA.ifBt ?_ ?_ | refine WPA.ifBnf ?_ ?_); assumption) | ((first | refine WPA.ifBnt ?_ ?_ | refine WPA.ifBf ?_ ?_); assumption) | ((first | refine WPA.ifs ?_ ?_ | refine WPA.ifB ?_ ?_) <;> intro hc))
  revert x; intro v
  have eln : ((cs.length : Int)).toNat = cs.length := by omega
  rw [eln]
  obtain ⟨A0, hA0⟩ : ∃ A0, allF cs.length cs 0 s n = A0 := ⟨_, rfl⟩
  rw [hA0]
  refine WPA.loopS (σ := OW9) (fun y => [(0, .pointer (some ⟨P, 0, none⟩)), (1, .slice cv.a cv.n cv.cap), (5, .slice v.a v.n v.cap), (11, .slice cv.a cv.n cv.cap), (12, .int .i64 cs.length), (13, .int .i64 y.k)])
    (fun y => (y.k ≤ cs.length ∧ y.vs.length = cs.length ∧ y.dn.length = y.k) ∧ (SubI y.J I ∧ 0 ≤ y.n ∧ y.n + y.s.size ≤ 999990) ∧ ((∀ j : Nat, j < y.k → RowG y.J (at_ y.vs (j : Int)) (y.dn.getD j [])) ∧ ∀ j : Nat, y.k ≤ j → at_ y.vs (j : Int) = SV.nil) ∧ (allF cs.length (cs.drop y.k) y.k y.s y.n).map (fun r => (y.dn ++ r.1, r.2)) = A0)
    (fun y => SL w0 y.J (OwnS 105 v y.vs :: PsH P (y.s, y.n) :: L')) (fun y => cs.length - y.k) ⟨0, s, n, List.replicate cs.length SV.nil, [], I⟩ ⟨rfl, rfl, rfl, rfl, rfl, rfl, trivial⟩
    ⟨⟨Nat.zero_le _, by simp, rfl⟩, ⟨inferInstance, hsz.1, hsz.2⟩, ⟨fun j hj => absurd hj (Nat.not_lt_zero j), fun j _ => by
      unfold at_; rw [Int.toNat_natCast, List.getD_eq_getElem?_getD]
      by_cases hj : j < cs.length
      · rw [List.getElem?_eq_getElem (by simpa using hj)]; simp
      · rw [List.getElem?_eq_none (by simp; omega)]; rfl⟩, by dsimp only; rw [List.drop_zero, map_nil]; exact hA0⟩ (fun w h => h.to) ?_
  rintro ⟨k, t, m, vs, dn, J⟩ ρ ⟨⟨hk, hvl, hdn⟩, ⟨hJ, hm, hmt⟩, ⟨hrow, hnil⟩, hA⟩
  dsimp only at hk hvl hdn hJ hm hmt hrow hnil hA ⊢
  have hcJ : SlI J cv Int inferInstance cs := hcs.sub
  have az : ∀ {t : ByteArray}, 0 ≤ atB t 10 → (aftB t 10).size < t.size := fun h => aft_size h
  by_cases hlt : k < cs.length
  · have hlt' : (k : Int) < cs.length := by omega
    have hir : (0 : Int) ≤ k ∧ (k : Int) < cs.length := by omega
    rw [List.drop_eq_getElem_cons hlt, ← at_nat cs k hlt] at hA
    have hcm : at_ cs (k : Int) ∈ cs := by rw [at_nat cs k hlt]; exact List.getElem_mem _
    have hcp := hc0 _ hcm
    obtain ⟨c, hcc⟩ : ∃ c, at_ cs (k : Int) = c := ⟨_, rfl⟩
    rw [hcc] at hA hcp
    rw [allF] at hA
    have en : (k : Int) + 1 = ((k + 1 : Nat) : Int) := by omega
    have hit := fun {L : List HP} => Itoa_small (w0 := w0) (I := J) (L := L) (show k + 1 < 10 by omega)
    have hz0 : (intS ((k + 1 : Nat) : Int)).size = 1 := by unfold intS; rw [if_neg (by omega), Int.toNat_natCast, dec_lt (by omega)]; rfl
    have hz1 : (⟨#[92]⟩ : ByteArray).size + (intS ((k + 1 : Nat) : Int)).size ≤ 9223372036854775807 := by rw [hz0]; decide
    have hz2 : ((⟨#[92]⟩ : ByteArray) ++ intS ((k + 1 : Nat) : Int)).size + (⟨#[45, 103, 114, 97, 109, 115, 58]⟩ : ByteArray).size ≤ 9223372036854775807 := by rw [ByteArray.size_append, hz0]; decide
    repeat' (first | ((rw [hcc])) | ((rw [en])) | ((first | refine WLA.m rfl rfl ?_ ?_ | refine WLA.st rfl ?_ ?_ | refine WLA.x rfl rfl ?_ (fun x => ?_) | refine WLA.x0 rfl ?_ (fun x => ?_)); first | exact sdT | skip) | (refine Stp.go ?_) | (guard_target =~ WLA _ _ _ _ _ (⟨_, .call ⟨.value (.func 17), _, _⟩, _, _, _, _⟩ :: _) _ _; refine WLA.cq rfl rfl (hit) ?_) | (guard_target =~ WLA _ _ _ _ _ (⟨_, .call ⟨.value (.func 51), _, _⟩, _, _, _, _⟩ :: _) _ _; first | (refine WLA.callX rfl rfl (next_trX (by omega) ⟨by omega, by omega⟩) (by intro y; refine QQ.thrw ?_; exact QQ.thrown ⟨y.1, by rw [← hA, if_pos y.2.1, y.2.2]; rfl⟩ rfl fun w h => (SL.to (L' := L') h).sub hJ.out) ?_; rintro ⟨⟨⟩, h0⟩) | (refine WLA.callX0 rfl (next_trX (by omega) ⟨by omega, by omega⟩) (by intro y; refine QQ.thrw ?_; exact QQ.thrown ⟨y.1, by rw [← hA, if_pos y.2.1, y.2.2]; rfl⟩ rfl fun w h => (SL.to (L' := L') h).sub hJ.out) ?_; rintro ⟨⟨⟩, h0⟩)) | (guard_target =~ WLA _ _ _ _ _ (⟨_, .call ⟨.value (.func 50), _, _⟩, _, _, _, _⟩ :: _) _ _; first | (refine WLA.callX rfl rfl (must_trX) (by intro y; refine QQ.thrw ?_; exact QQ.thrown ⟨y.1, by rw [← hA, if_neg (fun q => q h0), if_pos (show befB t 10 ≠ secB (k + 1) from of_decide_eq_false y.2.1), y.2.2]; rfl⟩ rfl fun w h => (SL.to (L' := L') h).sub hJ.out) ?_; rintro ⟨⟨⟩, h1⟩) | (refine WLA.callX0 rfl (must_trX) (by intro y; refine QQ.thrw ?_; exact QQ.thrown ⟨y.1, by rw [← hA, if_neg (fun q => q h0), if_pos (show befB t 10 ≠ secB (k + 1) from of_decide_eq_false y.2.1), y.2.2]; rfl⟩ rfl fun w h => (SL.to (L' := L') h).sub hJ.out) ?_; rintro ⟨⟨⟩, h1⟩)) | (refine WPA.ifT ?_) | (refine WPA.ifF ?_) | ((first | refine WPA.dec ?_); first | refine orL ?_ | refine orR ?_) | ((first | refine WPA.ifBt ?_ ?_ | refine WPA.ifBnf ?_ ?_); assumption) | ((first | refine WPA.ifBnt ?_ ?_ | refine WPA.ifBf ?_ ?_); assumption) | ((first | refine WPA.ifs ?_ ?_ | refine WPA.ifB ?_ ?_) <;> intro hc))
    have a0 := az h0
    rw [if_neg (fun q => q h0), if_neg (fun q => q (show befB t 10 = secB (k + 1) from of_decide_eq_true h1))] at hA
    generalize aftB t 10 = t1 at a0 hA ⊢
    obtain ⟨lt, hlt0⟩ : ∃ b, decide ((k : Int) = (cs.length : Int) - 1) = b := ⟨_, rfl⟩
    rw [hlt0] at hA
    obtain ⟨X, hX0⟩ : ∃ X, secF ((k + 1 : Nat) : Int) lt c.toNat t1 (m + 1) = X := ⟨_, rfl⟩
    rw [hX0] at hA
    have hE : ∀ {e : Int × Int}, X = .error e → A0 = .error e := fun {e} he => by rw [← hA, he]; rfl
    refine WPA.loopS (σ := IW9) (fun y => [(0, .pointer (some ⟨P, 0, none⟩)), (1, .slice cv.a cv.n cv.cap), (5, .slice v.a v.n v.cap), (6, .int .i64 k), (7, .int .i64 c), (11, .slice cv.a cv.n cv.cap), (12, .int .i64 cs.length), (13, .int .i64 k)])
      (fun y => (y.vs.length = cs.length ∧ at_ y.vs (k : Int) = y.q ∧ (y.gs.length + y.s.size ≤ 999990 ∧ y.r + y.gs.length = c.toNat) ∧ (∀ j : Nat, j ≠ k → at_ y.vs (j : Int) = at_ vs (j : Int))) ∧ (SubI y.J J ∧ 0 ≤ y.n ∧ y.n + y.s.size ≤ 999990) ∧ GrsI y.J y.gs y.dg ∧ (secF ((k + 1 : Nat) : Int) lt y.r y.s y.n).map (fun q => (y.dg ++ q.1, q.2)) = X)
      (fun y => SL w0 y.J (OwnS 105 v y.vs :: OwnS 107 y.q y.gs :: PsH P (y.s, y.n) :: L')) (fun y => y.s.size) ⟨t1, m + 1, vs, SV.nil, [], [], c.toNat, J⟩ ⟨rfl, rfl, rfl, rfl, rfl, rfl, rfl, rfl, trivial⟩
      ⟨⟨hvl, hnil k (Nat.le_refl _), ⟨by dsimp only [List.length_nil]; omega, rfl⟩, fun _ _ => rfl⟩, ⟨inferInstance, by dsimp only; omega, by dsimp only; omega⟩, ⟨rfl, fun j hj => absurd hj (Nat.not_lt_zero j)⟩, by dsimp only; rw [map_nil]; exact hX0⟩ (fun w h => by
        have h2 := (Ent.ownNil (α := GM) (t := 107) Ent.refl).sl h
        show SL w0 J (OwnS 105 v vs :: OwnS 107 SV.nil ([] : List GM) :: PsH P (t1, m + 1) :: L') w
        exact h2.to) ?_
    rintro ⟨t2, m2, vs2, q, gs, dg, r, K⟩ ρ ⟨⟨hv2, hq, ⟨hgl, hr⟩, hoth⟩, ⟨hK, hm2, hmt2⟩, hG, hX⟩
    dsimp only at hv2 hq hgl hr hoth hK hm2 hmt2 hG hX ⊢
    have hcK : SlI K cv Int inferInstance cs := hcJ.sub
    have hKI : SubI K I := ⟨fun z hz => hK.out (hJ.out hz)⟩
    have hir2 : (0 : Int) ≤ k ∧ (k : Int) < vs2.length := by omega
    by_cases hgo : (gs.length : Int) < c
    · have hent := fun {L L' : List HP} [FindK L PsH P (t2, m2) L'] => entry_trS (w0 := w0) (I := K) (L := L) (L' := L') (P := P) (o := ((k + 1 : Nat) : Int)) (last := lt) (s := t2) (n := m2) (by omega) ⟨hm2, by omega⟩
      have hroom : Room (gs.length + 1) 48 := ⟨by omega, by omega⟩
      have hb0 : -9223372036854775808 ≤ (k : Int) + 1 ∧ (k : Int) + 1 ≤ 9223372036854775807 := by omega
      have hb1 : -9223372036854775808 ≤ (cs.length : Int) - 1 ∧ (cs.length : Int) - 1 ≤ 9223372036854775807 := by omega
      obtain ⟨r, rfl⟩ : ∃ r', r = r' + 1 := ⟨r - 1, by omega⟩
      rw [secF] at hX
      have hXe : ∀ {y : Int × Int}, (¬ 0 ≤ atB t2 10 ∧ y = (m2 + 1, 2)) ∨ (0 ≤ atB t2 10 ∧ ¬ EntOk ((k + 1 : Nat) : Int) lt (befB t2 10) ∧ y = (m2 + 1, 3)) → A0 = .error y := fun {y} hy => hE (by
        rcases hy with ⟨h, e⟩ | ⟨h, h', e⟩
        · rw [← hX, if_pos h, e]; rfl
        · rw [← hX, if_neg (fun q => q h), if_pos h', e]; rfl)
      repeat' (first | ((rw [hq])) | ((rw [en])) | ((rw [hlt0])) | ((first | refine WLA.m rfl rfl ?_ ?_ | refine WDQ.m rfl rfl ?_ ?_ | refine WDP.m rfl rfl ?_ ?_ | refine WLA.st rfl ?_ ?_ | refine WLA.x rfl rfl ?_ (fun x => ?_) | refine WLA.x0 rfl ?_ (fun x => ?_) | refine WDW.x rfl rfl ?_ (fun x => ?_) | refine WDW.st rfl ?_ ?_); first | exact sdT | skip) | (refine Stp.go ?_) | (guard_target =~ WLA _ _ _ _ _ (⟨_, .call ⟨.value (.func 53), _, _⟩, _, _, _, _⟩ :: _) _ _; first | (refine WLA.callX rfl rfl (hent) (by intro y; refine QQ.thrw ?_; exact QQ.thrown ⟨y.1, hXe y.2⟩ rfl fun w h => (SL.to (L' := L') h).sub hKI.out) ?_; rintro ⟨⟨v2, R⟩, hg1, hg2⟩) | (refine WLA.callX0 rfl (hent) (by intro y; refine QQ.thrw ?_; exact QQ.thrown ⟨y.1, hXe y.2⟩ rfl fun w h => (SL.to (L' := L') h).sub hKI.out) ?_; rintro ⟨⟨v2, R⟩, hg1, hg2⟩)) | (refine WPA.ifT ?_) | (refine WPA.ifF ?_) | ((first | refine WPA.dec ?_); first | refine orL ?_ | refine orR ?_) | ((first | refine WPA.ifBt ?_ ?_ | refine WPA.ifBnf ?_ ?_); assumption) | ((first | refine WPA.ifBnt ?_ ?_ | refine WPA.ifBf ?_ ?_); assumption) | ((first | refine WPA.ifs ?_ ?_ | refine WPA.ifB ?_ ?_) <;> intro hc) | (guard_target =~ WPA _ _ _ (.region 7 _ true) _ _ _; refine WPA.drawP (OwnS 105 v vs2) 17 (.p 0 (.p 1 (.p 2 (.p 3 (.p 4 (.p 5 (.p 6 (.p 7 (.p 8 (.p 9 (.p 10 (.q 11 (.p 12 (.p 13 (.w 14 (.e 15 (.w 16 .fin))))))))))))))))) mixed ?_ ?_; kernel_rfl) | (refine WDA.finish (tl := [⟨_, _, _, _, _, _⟩, ⟨_, _, _, _, _, _⟩]) rfl ?_) | (refine WDQ.see rfl ?_) | (refine WDP.see rfl ?_) | (refine WDW.see rfl ?_) | (refine WDE.see rfl ?_) | (refine WDE.alloc rfl rfl (fun w h => h) (fun x => ?_)) | (refine WDE.stE rfl ?_) | (refine WDE.x rfl rfl ?_ ?_ (fun x => ?_); rotate_left 1; (intro x w h; first | exact h | exact Ent.drop1.sl h | exact SL.unI h | exact SL.to h); rotate_left 1; first | exact sdT | skip) | (guard_target =~ WDE _ _ _ _ _ _ _ ⟨_, .call ⟨.value (.func 53), _, _⟩, _, _, _, _⟩ _ _ _; refine WDE.callX rfl rfl (hent) (by intro y; refine QQ.thrw ?_; exact QQ.thrown ⟨y.1, hXe y.2⟩ rfl fun w h => (SL.to (L' := L') h).sub hKI.out) ?_ ?_; (intro x w h; first | exact h | exact Ent.drop1.sl h | exact SL.unI h | exact SL.to h); rintro ⟨⟨v2, R⟩, hg1, hg2⟩) | (guard_target =~ WDW _ _ _ _ _ _ _ ⟨_, .call ⟨.value (.func 53), _, _⟩, _, _, _, _⟩ _ _ _; refine WDW.callX rfl rfl (hent) (by intro y; refine QQ.thrw ?_; exact QQ.thrown ⟨y.1, hXe y.2⟩ rfl fun w h => (SL.to (L' := L') h).sub hKI.out) ?_; rintro ⟨⟨v2, R⟩, hg1, hg2⟩))
      all_goals
        dsimp only at hg2 ⊢
        have a2 := az hg1.1
        rw [if_neg (fun q => q hg1.1), if_neg (fun q => q hg1.2), map_map] at hX
        have hkn : ((k : Int)).toNat = k := by omega
        rw [hkn]
        refine QQ.loopS ⟨aftB t2 10, m2 + 1, vs2.set k x, x, gs ++ [(m2 + 1, v2, numV (nthB (splB (befB t2 10) 9) 0), if lt = true then 0 else numV (nthB (splB (befB t2 10) 9) 2))], dg ++ [grF lt m2 (befB t2 10)], r, R ++ K⟩ ⟨rfl, rfl, rfl, rfl, rfl, rfl, rfl, rfl, trivial⟩
          ⟨⟨by dsimp only; rw [List.length_set]; exact hv2, by dsimp only; rw [at_nat _ k (by rw [List.length_set]; omega), List.getElem_set_self], ⟨by dsimp only; rw [List.length_append, List.length_singleton]; omega, by dsimp only; rw [List.length_append, List.length_singleton]; omega⟩, fun j hj => ?_⟩, ⟨⟨fun z hz => List.mem_append_right _ (hK.out hz)⟩, by dsimp only; omega, by dsimp only; omega⟩, (hG.sub inferInstance).snoc ⟨⟨rfl, rfl, rfl⟩, hg2⟩, ?_⟩ (by dsimp only; omega) (fun w h => h.to)
        · dsimp only
          rw [← hoth j hj]
          unfold at_; rw [Int.toNat_natCast, List.getD_eq_getElem?_getD, List.getD_eq_getElem?_getD, List.getElem?_set_ne (by omega)]
        · dsimp only
          rw [← hX]; simp only [List.append_assoc, List.singleton_append]
    · have hr0 : r = 0 := by omega
      subst hr0
      rw [secF] at hX
      have hX1 : X = .ok (dg, t2, m2) := by rw [← hX]; show Except.ok (dg ++ [], (t2, m2)) = _; rw [List.append_nil]
      rw [hX1] at hA
      dsimp only at hA
      repeat' (first | ((rw [hq])) | ((first | refine WLA.m rfl rfl ?_ ?_ | refine WLA.st rfl ?_ ?_ | refine WLA.x rfl rfl ?_ (fun x => ?_) | refine WLA.x0 rfl ?_ (fun x => ?_)); first | exact sdT | skip) | (refine Stp.go ?_) | (guard_target =~ WLA _ _ _ _ _ (⟨_, .call ⟨.value (.func 51), _, _⟩, _, _, _, _⟩ :: _) _ _; first | (refine WLA.callX rfl rfl (next_trX (by omega) ⟨by omega, by omega⟩) (by intro y; refine QQ.thrw ?_; exact QQ.thrown ⟨y.1, by rw [← hA, if_pos y.2.1, y.2.2]; rfl⟩ rfl fun w h => (SL.to (L' := L') h).sub hKI.out) ?_; rintro ⟨⟨⟩, h3⟩) | (refine WLA.callX0 rfl (next_trX (by omega) ⟨by omega, by omega⟩) (by intro y; refine QQ.thrw ?_; exact QQ.thrown ⟨y.1, by rw [← hA, if_pos y.2.1, y.2.2]; rfl⟩ rfl fun w h => (SL.to (L' := L') h).sub hKI.out) ?_; rintro ⟨⟨⟩, h3⟩)) | (guard_target =~ WLA _ _ _ _ _ (⟨_, .call ⟨.value (.func 50), _, _⟩, _, _, _, _⟩ :: _) _ _; first | (refine WLA.callX rfl rfl (must_trX) (by intro y; refine QQ.thrw ?_; exact QQ.thrown ⟨y.1, by rw [← hA, if_neg (fun q => q h3), if_pos (show befB t2 10 ≠ ⟨#[]⟩ from of_decide_eq_false y.2.1), y.2.2]; rfl⟩ rfl fun w h => (SL.to (L' := L') h).sub hKI.out) ?_; rintro ⟨⟨⟩, h4⟩) | (refine WLA.callX0 rfl (must_trX) (by intro y; refine QQ.thrw ?_; exact QQ.thrown ⟨y.1, by rw [← hA, if_neg (fun q => q h3), if_pos (show befB t2 10 ≠ ⟨#[]⟩ from of_decide_eq_false y.2.1), y.2.2]; rfl⟩ rfl fun w h => (SL.to (L' := L') h).sub hKI.out) ?_; rintro ⟨⟨⟩, h4⟩)) | (refine WPA.ifT ?_) | (refine WPA.ifF ?_) | ((first | refine WPA.dec ?_); first | refine orL ?_ | refine orR ?_) | ((first | refine WPA.ifBt ?_ ?_ | refine WPA.ifBnf ?_ ?_); assumption) | ((first | refine WPA.ifBnt ?_ ?_ | refine WPA.ifBf ?_ ?_); assumption) | ((first | refine WPA.ifs ?_ ?_ | refine WPA.ifB ?_ ?_) <;> intro hc))
      have a3 := az h3
      rw [if_neg (fun q => q h3), if_neg (fun q => q (show befB t2 10 = ⟨#[]⟩ from of_decide_eq_true h4)), map_map] at hA
      refine QQ.ent (EntC.out (L' := OwnS 107 q gs :: OwnS 105 v vs2 :: PsH P (aftB t2 10, m2 + 1) :: L')) ?_
      refine QQ.freeze fun R hR => ?_
      have sq : SlI (R ++ K) q GM inferInstance gs := by have := SlI.ofOwn hR; infer_instance
      refine QQ.loopS ⟨k + 1, aftB t2 10, m2 + 1, vs2, dn ++ [dg], R ++ K⟩ ⟨rfl, rfl, rfl, rfl, rfl, rfl, trivial⟩ ⟨⟨hlt, hv2, by dsimp only; rw [List.length_append, List.length_singleton, hdn]⟩, ⟨⟨fun z hz => List.mem_append_right _ (hKI.out hz)⟩, by dsimp only; omega, by dsimp only; omega⟩, ⟨fun j hj => ?_, fun j hj => ?_⟩, ?_⟩ (by dsimp only; omega) (fun w h => h.to)
      · dsimp only at hj ⊢
        rw [List.getD_eq_getElem?_getD, List.getElem?_append]
        by_cases e : j = k
        · subst e
          rw [if_neg (by omega), hq]
          have e0 : j - dn.length = 0 := by omega
          rw [e0]
          exact ⟨gs, sq, hG.sub inferInstance⟩
        · rw [if_pos (by omega), ← List.getD_eq_getElem?_getD, hoth j e]
          exact (hrow j (by omega)).sub ⟨fun z hz => List.mem_append_right _ (hK.out hz)⟩
      · dsimp only at hj ⊢
        rw [hoth j (by omega)]; exact hnil j (by omega)
      · dsimp only
        rw [← hA]; simp only [List.append_assoc, List.singleton_append]
  · have hlt' : ¬ (k : Int) < cs.length := by omega
    rw [List.drop_of_length_le (by omega), allF] at hA
    repeat' ((fail_if_success (guard_target =~ WPA _ _ _ (.region 11 _ _) _ _ _)); first | ((first | refine WLA.m rfl rfl ?_ ?_ | refine WLA.st rfl ?_ ?_ | refine WLA.x rfl rfl ?_ (fun x => ?_) | refine WLA.x0 rfl ?_ (fun x => ?_)); first | exact sdT | skip) | (refine Stp.go ?_) | (guard_target =~ WLA _ _ _ _ _ (⟨_, .call ⟨.value (.func 51), _, _⟩, _, _, _, _⟩ :: _) _ _; first | (refine WLA.callX rfl rfl (next_trX (by omega) ⟨by omega, by omega⟩) (by intro y; refine QQ.thrw ?_; exact QQ.thrown ⟨y.1, by rw [← hA, if_pos y.2.1, y.2.2]; rfl⟩ rfl fun w h => (SL.to (L' := L') h).sub hJ.out) ?_; rintro ⟨⟨⟩, h0⟩) | (refine WLA.callX0 rfl (next_trX (by omega) ⟨by omega, by omega⟩) (by intro y; refine QQ.thrw ?_; exact QQ.thrown ⟨y.1, by rw [← hA, if_pos y.2.1, y.2.2]; rfl⟩ rfl fun w h => (SL.to (L' := L') h).sub hJ.out) ?_; rintro ⟨⟨⟩, h0⟩)) | (guard_target =~ WLA _ _ _ _ _ (⟨_, .call ⟨.value (.func 50), _, _⟩, _, _, _, _⟩ :: _) _ _; first | (refine WLA.callX rfl rfl (must_trX) (by intro y; refine QQ.thrw ?_; exact QQ.thrown ⟨y.1, by rw [← hA, if_neg (fun q => q h0), if_pos (show befB t 10 ≠ endB from of_decide_eq_false y.2.1), y.2.2]; rfl⟩ rfl fun w h => (SL.to (L' := L') h).sub hJ.out) ?_; rintro ⟨⟨⟩, h1⟩) | (refine WLA.callX0 rfl (must_trX) (by intro y; refine QQ.thrw ?_; exact QQ.thrown ⟨y.1, by rw [← hA, if_neg (fun q => q h0), if_pos (show befB t 10 ≠ endB from of_decide_eq_false y.2.1), y.2.2]; rfl⟩ rfl fun w h => (SL.to (L' := L') h).sub hJ.out) ?_; rintro ⟨⟨⟩, h1⟩)) | (refine WPA.ifT ?_) | (refine WPA.ifF ?_) | ((first | refine WPA.dec ?_); first | refine orL ?_ | refine orR ?_) | ((first | refine WPA.ifBt ?_ ?_ | refine WPA.ifBnf ?_ ?_); assumption) | ((first | refine WPA.ifBnt ?_ ?_ | refine WPA.ifBf ?_ ?_); assumption) | ((first | refine WPA.ifs ?_ ?_ | refine WPA.ifB ?_ ?_) <;> intro hc))
    rw [if_neg (fun q => q h0), if_neg (fun q => q (show befB t 10 = endB from of_decide_eq_true h1))] at hA
    have ef : ∀ z : ByteArray × Int, PsH P z = Bk P 64 [.string z.1, .int .i64 z.2] := fun z => rfl
    rw [ef]
    repeat' ((fail_if_success (guard_target =~ WPA _ _ _ (.region 12 _ _) _ _ _)); first | ((first | refine WLA.m rfl rfl ?_ ?_ | refine WLA.st rfl ?_ ?_ | refine WLA.x rfl rfl ?_ (fun x => ?_) | refine WLA.x0 rfl ?_ (fun x => ?_)); first | exact sdT | skip) | (refine Stp.go ?_) | (refine WPA.ifT ?_) | (refine WPA.ifF ?_) | ((first | refine WPA.dec ?_); first | refine orL ?_ | refine orR ?_) | ((first | refine WPA.ifBt ?_ ?_ | refine WPA.ifBnf ?_ ?_); assumption) | ((first | refine WPA.ifBnt ?_ ?_ | refine WPA.ifBf ?_ ?_); assumption) | ((first | refine WPA.ifs ?_ ?_ | refine WPA.ifB ?_ ?_) <;> intro hc))
    refine WPA.ent (EntC.out (L' := Bk P 64 [.string (aftB t 10, m + 1 + 1).1, .int .i64 (aftB t 10, m + 1 + 1).2] :: OwnS 105 v vs :: L')) ?_
    rw [← ef]
    repeat' (first | ((first | refine WLA.m rfl rfl ?_ ?_ | refine WLA.st rfl ?_ ?_ | refine WLA.x rfl rfl ?_ (fun x => ?_) | refine WLA.x0 rfl ?_ (fun x => ?_)); first | exact sdT | skip) | (refine Stp.go ?_) | (guard_target =~ WLA _ _ _ _ _ (⟨_, .call ⟨.value (.func 50), _, _⟩, _, _, _, _⟩ :: _) _ _; first | (refine WLA.callX rfl rfl (must_trX) (by intro y; refine QQ.thrw ?_; exact QQ.thrown ⟨y.1, by rw [← hA, if_pos (show aftB t 10 ≠ ⟨#[]⟩ from of_decide_eq_false y.2.1), y.2.2]; rfl⟩ rfl fun w h => (SL.to (L' := L') h).sub hJ.out) ?_; rintro ⟨⟨⟩, h2⟩) | (refine WLA.callX0 rfl (must_trX) (by intro y; refine QQ.thrw ?_; exact QQ.thrown ⟨y.1, by rw [← hA, if_pos (show aftB t 10 ≠ ⟨#[]⟩ from of_decide_eq_false y.2.1), y.2.2]; rfl⟩ rfl fun w h => (SL.to (L' := L') h).sub hJ.out) ?_; rintro ⟨⟨⟩, h2⟩)) | (refine WPA.ifT ?_) | (refine WPA.ifF ?_) | ((first | refine WPA.dec ?_); first | refine orL ?_ | refine orR ?_) | ((first | refine WPA.ifBt ?_ ?_ | refine WPA.ifBnf ?_ ?_); assumption) | ((first | refine WPA.ifBnt ?_ ?_ | refine WPA.ifBf ?_ ?_); assumption) | ((first | refine WPA.ifs ?_ ?_ | refine WPA.ifB ?_ ?_) <;> intro hc))
    rw [if_neg (fun q => q (show aftB t 10 = ⟨#[]⟩ from of_decide_eq_true h2))] at hA
    have hA1 : A0 = .ok (dn, aftB t 10, m + 1 + 1) := by rw [← hA]; show Except.ok (dn ++ [], _) = _; rw [List.append_nil]
    exact QQ.fnX_ret (QQ.end_ rfl ⟨v, vs, dn, (aftB t 10, m + 1 + 1), J⟩ rfl fun w h => ⟨⟨hA1, hJ, by dsimp only; omega, fun j hj => hrow j (by dsimp only at hj; omega)⟩, h.to⟩)
end
end Go.Proofs.YthkhneimfjaohaaGreatDoor
namespace Go.Fw
open Go Go.RowKit Go.MapKept
set_option linter.unusedVariables false
set_option linter.unusedSimpArgs false
class ZeroV (P : Program) (t : TypeId) (v : Value) : Prop where
  out : (P.info? t).bind (·.zero) = some v
theorem ZeroV.run {P : Program} {t : TypeId} {v : Value} (h : ZeroV P t v) {w : World} : (zeroValue t).run P w = .ok v w := by
  obtain ⟨i, h1, h2⟩ := Option.bind_eq_some_iff.1 h.out
  simp [zeroValue, typeInfo, h1, h2, Result.andThen, go_sem]
end Go.Fw
namespace Go.Fw
open Go Go.RowKit Go.MapKept
set_option linter.unusedVariables false
set_option linter.unusedSimpArgs false
structure KeyedS (es : Array MapEntry) (f : ByteArray → Option Int) : Prop where
  key : ∀ (i : Nat) (e : MapEntry), es[i]? = some e → ∃ k v, e.key = .string k ∧ e.val = .int .i64 v ∧ f k = some v
  inj : ∀ (i j : Nat) (e e' : MapEntry), es[i]? = some e → es[j]? = some e' → e.key = e'.key → i = j
  out : ∀ k : ByteArray, (∀ (i : Nat) (e : MapEntry), es[i]? = some e → e.key ≠ .string k) → f k = none
theorem KeyedS.nil : KeyedS #[] (fun _ => none) := ⟨fun i e h => by simp at h, fun i j e e' h => by simp at h, fun k h => rfl⟩
def setS (f : ByteArray → Option Int) (k : ByteArray) (v : Int) : ByteArray → Option Int := fun j => if j = k then some v else f j
theorem KeyedS.push {es : Array MapEntry} {f : ByteArray → Option Int} (h : KeyedS es f) {k : ByteArray} {v : Int} {c : Nat} (hn : ∀ (i : Nat) (e : MapEntry), es[i]? = some e → e.key ≠ .string k) : KeyedS (es.push { key := .string k, val := .int .i64 v, born := c }) (setS f k v) := by
  have hp : ∀ (i : Nat) (e : MapEntry), (es.push { key := .string k, val := .int .i64 v, born := c })[i]? = some e → (i < es.size ∧ es[i]? = some e) ∨ (i = es.size ∧ e = { key := .string k, val := .int .i64 v, born := c }) := by
    intro i e hi
    rw [Array.getElem?_push] at hi
    split at hi
    · rename_i e1; exact .inr ⟨e1, (Option.some.inj hi).symm⟩
    · exact .inl ⟨(Array.getElem?_eq_some_iff.1 hi).1, hi⟩
  refine ⟨fun i e hi => ?_, fun i j e e' hi hj he => ?_, fun j hj => ?_⟩
  · rcases hp i e hi with ⟨_, h1⟩ | ⟨_, rfl⟩
    · obtain ⟨q, qv, h2, h3, h3'⟩ := h.key i e h1
      have hq : q ≠ k := fun e1 => hn i e h1 (by rw [h2, e1])
      exact ⟨q, qv, h2, h3, by rw [setS, if_neg hq]; exact h3'⟩
    · exact ⟨k, v, rfl, rfl, by rw [setS, if_pos rfl]⟩
  · rcases hp i e hi with ⟨h1, h2⟩ | ⟨h1, rfl⟩ <;> rcases hp j e' hj with ⟨h3, h4⟩ | ⟨h3, rfl⟩
    · exact h.inj i j e e' h2 h4 he
    · exact absurd he (hn i e h2)
    · exact absurd he.symm (hn j e' h4)
    · omega
  · have hjk : j ≠ k := fun e1 => by
      subst e1
      exact hj es.size _ (by rw [Array.getElem?_push, if_pos rfl]) rfl
    rw [setS, if_neg hjk]
    refine h.out j fun i e hi => hj i e ?_
    rw [Array.getElem?_push, if_neg]
    · exact hi
    · have := (Array.getElem?_eq_some_iff.1 hi).1; omega
theorem KeyedS.upd {es : Array MapEntry} {f : ByteArray → Option Int} (h : KeyedS es f) {k : ByteArray} {v : Int} {j : Nat} {e0 : MapEntry} (hj : es[j]? = some e0) (hk : e0.key = .string k) : KeyedS (es.modify j fun e => { e with key := .string k, val := .int .i64 v }) (setS f k v) := by
  have hp : ∀ (i : Nat) (e : MapEntry), (es.modify j fun e => { e with key := .string k, val := .int .i64 v })[i]? = some e → (i ≠ j ∧ es[i]? = some e) ∨ (i = j ∧ e.key = .string k ∧ e.val = .int .i64 v) := by
    intro i e hi
    rw [Array.getElem?_modify] at hi
    split at hi
    · rename_i e1
      subst e1
      rw [hj] at hi
      have := Option.some.inj hi
      subst this
      exact .inr ⟨rfl, rfl, rfl⟩
    · rename_i e1; exact .inl ⟨fun e2 => e1 e2.symm, hi⟩
  refine ⟨fun i e hi => ?_, fun i i' e e' hi hi' he => ?_, fun q hq => ?_⟩
  · rcases hp i e hi with ⟨h0, h1⟩ | ⟨_, h1, h2⟩
    · obtain ⟨q, qv, h2, h3, h3'⟩ := h.key i e h1
      have hq : q ≠ k := fun e1 => h0 (h.inj i j e e0 h1 hj (by rw [h2, hk, e1]))
      exact ⟨q, qv, h2, h3, by rw [setS, if_neg hq]; exact h3'⟩
    · exact ⟨k, v, h1, h2, by rw [setS, if_pos rfl]⟩
  · rcases hp i e hi with ⟨h0, h1⟩ | ⟨h0, h1, _⟩ <;> rcases hp i' e' hi' with ⟨h3, h4⟩ | ⟨h3, h4, _⟩
    · exact h.inj i i' e e' h1 h4 he
    · exact absurd (h.inj i j e e0 h1 hj (by rw [he, h4, hk])) h0
    · exact absurd (h.inj i' j e' e0 h4 hj (by rw [← he, h1, hk])) h3
    · omega
  · have hqk : q ≠ k := fun e1 => by
      subst e1
      exact hq j { e0 with key := .string q, val := .int .i64 v } (by rw [Array.getElem?_modify, if_pos rfl, hj]; rfl) rfl
    rw [setS, if_neg hqk]
    refine h.out q fun i e hi => ?_
    by_cases e1 : i = j
    · subst e1
      rw [hj] at hi
      rw [← Option.some.inj hi, hk]
      intro e2; injection e2 with e2; exact hqk e2.symm
    · exact hq i e (by rw [Array.getElem?_modify, if_neg (fun e2 => e1 e2.symm)]; exact hi)
def MapS (r : Nat) (f : ByteArray → Option Int) : HP := fun R => ∃ es clock, KeyedS es f ∧ R = [(r, .map es clock)]
theorem SL.mapS {w0 w : World} {I : Foot} {L : List HP} {r : Nat} {f : ByteArray → Option Int} (h : SL w0 I (MapS r f :: L) w) : ∃ es clock, KeyedS es f ∧ w.heap[r]? = some (.map es clock) := by
  obtain ⟨R, ⟨es, clock, hk, rfl⟩, hm⟩ := h.heap
  exact ⟨es, clock, hk, hm _ _ (List.mem_singleton.2 rfl)⟩
theorem KeyedS.find {es : Array MapEntry} {f : ByteArray → Option Int} (h : KeyedS es f) (k : ByteArray) :
    (Instr.findNow .string (.string k) es.toList 0 = some none ∧ ∀ (i : Nat) (e : MapEntry), es[i]? = some e → e.key ≠ .string k) ∨ ∃ j e, Instr.findNow .string (.string k) es.toList 0 = some (some (j, e.val)) ∧ es[j]? = some e ∧ e.key = .string k := by
  have hks : ∀ x ∈ es.toList, IsKey .string x.key := fun x hx => by
    obtain ⟨i, hi, e⟩ := List.mem_iff_getElem.1 hx
    obtain ⟨q, _, h1, _⟩ := h.key i x (by rw [← e, Array.getElem_toList, Array.getElem?_eq_getElem])
    rw [h1]; trivial
  rcases findNow_spec (d := .string) (k := .string k) trivial es.toList 0 hks with ⟨h1, h2⟩ | ⟨j, e, h1, h2, h3⟩
  · exact .inl ⟨h1, fun i e hi => h2 e (by rw [Array.mem_toList_iff]; exact Array.mem_of_getElem? hi)⟩
  · refine .inr ⟨j, e, by rw [h1, Nat.zero_add], ?_, h3⟩
    rw [Array.getElem?_toList] at h2; exact h2
section
variable {P : Program} {ρ : Env} {A : World → Prop} {ty : TypeId} {w0 : World} {I : Foot} {L : List HP}
instance {t : TypeId} [hA : InSL A w0 I L] : OpE P ρ A (.makeMap t none) ty Nat (fun r => .map (some r)) (fun r => SL w0 I (MapS r (fun _ => none) :: L)) True := ⟨fun _ => OpT.sl fun w hw d pos af g => by
  have e : (execOp (evalE ρ) ⟨d, .makeMap t none, ty, pos, af, g⟩).run P w = .ok (.value (.map (some w.heap.size))) (w.alloc (.map #[] 0)) := by
    simp [execOp, run_makeMap_plain, Result.andThen, go_sem]
  rw [e]
  exact ⟨w.heap.size, rfl, hw.push _ _ ⟨#[], 0, KeyedS.nil, rfl⟩⟩⟩
instance {t kt et : TypeId} {x y : Operand} {r : Nat} {k : ByteArray} {f : ByteArray → Option Int} {L' : List HP} [hx : Ev ρ x (.map (some r))] [hy : Ev ρ y (.string k)] [ht : Und P t (.map kt et)] [hk : Und P kt .string] [hz : ZeroV P et (.int .i64 0)] [hA : InSL A w0 I L] [hm : FindK L MapS r f L'] :
    OpM P ρ A (.lookup t x y true) ty (.tuple #[.int .i64 ((f k).getD 0), .bool (f k).isSome]) True := ⟨fun _ => OpP.at fun w hw => by
  obtain ⟨es, clock, hK, hb⟩ := (hm.out.sl (hA.out w hw)).mapS
  intro d pos af g u hu
  subst hu
  have hkk : IsKey .string (.string k) := trivial
  rcases hK.find k with ⟨h1, h2⟩ | ⟨j, e, h1, h2, h3⟩
  · have h0 := hK.out k h2
    simp [execOp, Instr.lookup, hx.out, hy.out, run_underlying ht.out, Go.MapKept.run_getObj_map hb, run_checkKey hk.out hkk, run_findKey hk.out h1, Result.andThen, go_sem, hz.run, h0]
  · obtain ⟨q, qv, h4, h5, h6⟩ := hK.key j e h2
    have hq : q = k := by rw [h3] at h4; injection h4 with h4; exact h4.symm
    subst hq
    simp [execOp, Instr.lookup, hx.out, hy.out, run_underlying ht.out, Go.MapKept.run_getObj_map hb, run_checkKey hk.out hkk, run_findKey hk.out h1, Result.andThen, go_sem, h5, h6]⟩
instance {t kt et : TypeId} {x y z : Operand} {r : Nat} {k : ByteArray} {v : Int} {f : ByteArray → Option Int} {L' : List HP} [hx : Ev ρ x (.map (some r))] [hy : Ev ρ y (.string k)] [hz : Ev ρ z (.int .i64 v)] [ht : Und P t (.map kt et)] [hk : Und P kt .string] [hA : InSL A w0 I L] [hm : FindK L MapS r f L'] :
    OpS P ρ A (.mapUpdate t x y z) ty (SL w0 I (MapS r (setS f k v) :: L')) True := ⟨fun _ => OpT.slS fun w hw d pos af g => by
  obtain ⟨H, R, Rs, h1, ⟨es, clock, hK, rfl⟩, h3, h4⟩ := (hm.out.sl hw).uncons
  have hb : w.heap[r]? = some (.map es clock) := h4.at_ (j := 0) rfl
  have hkk : IsKey .string (.string k) := trivial
  have fin : ∀ (es' : Array MapEntry) (clock' : Nat), KeyedS es' (setS f k v) → SL w0 I (MapS r (setS f k v) :: L') (w.putObj r (.map es' clock')) := fun es' clock' hk' => SL.cons h1 (R := [(r, .map es' clock')]) ⟨es', clock', hk', rfl⟩ h3 (h4.putObj _)
  rcases hK.find k with ⟨h5, h6⟩ | ⟨j, e, h5, h6, h7⟩
  · have e1 : (execOp (evalE ρ) ⟨d, .mapUpdate t x y z, ty, pos, af, g⟩).run P w = .ok .skip (w.putObj r (.map (es.push { key := .string k, val := .int .i64 v, born := clock }) (clock + 1))) := by
      simp [execOp, Instr.mapUpdate, hx.out, hy.out, hz.out, run_underlying ht.out, Go.MapKept.run_getObj_map hb, run_checkKey hk.out hkk, run_findKey hk.out h5, Go.MapKept.run_setObj_map _ hb, Result.andThen, go_sem, World.putObj]
    rw [e1]
    exact fin _ _ (hK.push h6)
  · have e1 : (execOp (evalE ρ) ⟨d, .mapUpdate t x y z, ty, pos, af, g⟩).run P w = .ok .skip (w.putObj r (.map (es.modify j fun e => { e with key := .string k, val := .int .i64 v }) clock)) := by
      simp [execOp, Instr.mapUpdate, hx.out, hy.out, hz.out, run_underlying ht.out, Go.MapKept.run_getObj_map hb, run_checkKey hk.out hkk, run_findKey hk.out h5, h6, h7, run_keyThatStays hkk, Go.MapKept.run_setObj_map _ hb, Result.andThen, go_sem, World.putObj]
    rw [e1]
    exact fin _ _ (hK.upd h6 h7)⟩
end
end Go.Fw
