/- Texts that ArpaParses_law leans on, part 10. Conditions: none. -/
import Derived.Lib.Bytealg
import Derived.Test.YthkhneimfjaohaaGreatDoorQq9
namespace Go.Proofs.YthkhneimfjaohaaGreatDoor
open Go Go.Fw Go.RowKit
set_option linter.unusedVariables false
set_option linter.unusedSimpArgs false
set_option maxRecDepth 100000
set_option maxHeartbeats 16000000
set_option synthInstance.maxHeartbeats 200000
set_option synthInstance.maxSize 100000
attribute [local irreducible] WPA WLA WDA WDQ WDE QQ seqQ blockQ loopQ fnQ OpP OpT Tr TrP SL SLd OwnS LitS Bk BkE Ob
theorem bt_exA {s : ByteArray} {a b j : Nat} (hb : b ≤ s.size) (hj : a + j < b) : bt (s.extract a b) (j : Nat) = bt s ((a + j : Nat) : Int) := by
  have h1 : j < (s.extract a b).size := by simp; omega
  have h2 : a + j < s.size := by omega
  unfold bt
  rw [Int.toNat_natCast, Int.toNat_natCast, dif_pos h1, dif_pos h2]
  simp [ByteArray.getElem_extract]
def hasP (s p : ByteArray) : Prop := p.size ≤ s.size ∧ s.extract 0 p.size = p
instance (s p : ByteArray) : Decidable (hasP s p) := inferInstanceAs (Decidable (_ ∧ _))
def cutP (s p : ByteArray) : ByteArray := if hasP s p then s.extract p.size s.size else s
def mnB : ByteArray := ⟨#[45]⟩
theorem ext_same {s t : ByteArray} (h : s.size = t.size) (k : ∀ j : Nat, j < s.size → bt s (j : Int) = bt t (j : Int)) : s = t := by
  apply ByteArray.ext
  apply Array.ext h
  intro i h1 h2
  have := k i h1
  unfold bt at this
  rw [Int.toNat_natCast, dif_pos (show i < s.size from h1), dif_pos (show i < t.size from h2)] at this
  exact UInt8.toNat_inj.1 (by exact_mod_cast this)
theorem hasP_mn {s : ByteArray} : hasP s mnB ↔ 0 < s.size ∧ bt s 0 = 45 := by
  have e1 : mnB.size = 1 := rfl
  have e2 : bt mnB ((0 : Nat) : Int) = 45 := by decide
  unfold hasP
  rw [e1]
  constructor
  · rintro ⟨h1, h2⟩
    refine ⟨h1, ?_⟩
    have := bt_exA (s := s) (a := 0) (b := 1) (j := 0) h1 (by omega)
    rw [h2, e2] at this
    exact this.symm
  · rintro ⟨h1, h2⟩
    refine ⟨h1, ext_same (by rw [ByteArray.size_extract, e1]; omega) fun j hj => ?_⟩
    rw [ByteArray.size_extract] at hj
    have hj0 : j = 0 := by omega
    subst hj0
    rw [bt_exA (s := s) (a := 0) (b := 1) (j := 0) h1 (by omega), e2]; exact h2
def digS (s : ByteArray) : ByteArray := cutP s mnB
theorem digS_len {s : ByteArray} : hasP s mnB ↔ (digS s).size < s.size := by
  unfold digS cutP
  by_cases h : hasP s mnB
  · rw [if_pos h]
    have := (hasP_mn.1 h).1
    have e1 : mnB.size = 1 := rfl
    rw [ByteArray.size_extract, e1]
    exact ⟨fun _ => by omega, fun _ => h⟩
  · rw [if_neg h]
    exact ⟨fun k => absurd k h, fun k => absurd k (Nat.lt_irrefl _)⟩
def valD (d : ByteArray) : Nat → Int
  | 0 => 0
  | n + 1 => 10 * valD d n + (bt d (n : Int) - 48)
def DigP (d : ByteArray) (n : Nat) : Prop := ∀ j : Nat, j < n → 48 ≤ bt d (j : Int) ∧ bt d (j : Int) ≤ 57
theorem valD_lt {d : ByteArray} : ∀ {n : Nat}, DigP d n → 0 ≤ valD d n ∧ valD d n < 10 ^ n
  | 0, _ => ⟨Int.le_refl 0, by show (0 : Int) < 1; decide⟩
  | n + 1, h => by
    have h1 := valD_lt (n := n) fun j hj => h j (by omega)
    have h2 := h n (by omega)
    rw [valD, Int.pow_succ]; omega
theorem p10 {n : Nat} (h : n ≤ 17) : (10 : Int) ^ n ≤ 100000000000000000 := by
  have : (10 : Nat) ^ n ≤ 10 ^ 17 := Nat.pow_le_pow_right (by omega) h
  have e : ((10 ^ n : Nat) : Int) = (10 : Int) ^ n := by push_cast; rfl
  omega
def zrB : ByteArray := ⟨#[48]⟩
def NumOk (s : ByteArray) : Prop := (digS s ≠ ⟨#[]⟩ ∧ (digS s).size ≤ 18) ∧ (bt (digS s) 0 = 48 → s = zrB) ∧ DigP (digS s) (digS s).size
open Classical in
noncomputable def numV (s : ByteArray) : Int := if NumOk s then (if hasP s mnB then -valD (digS s) (digS s).size else valD (digS s) (digS s).size) else 0
open Classical in
noncomputable def numB (s : ByteArray) : Bool := decide (NumOk s)
theorem num_yes {s : ByteArray} (h : NumOk s) : numV s = (if hasP s mnB then -valD (digS s) (digS s).size else valD (digS s) (digS s).size) ∧ numB s = true := by
  unfold numV numB; rw [if_pos h]; exact ⟨rfl, by simp [h]⟩
theorem num_no {s : ByteArray} (h : ¬ NumOk s) : numV s = 0 ∧ numB s = false := by
  unfold numV numB; rw [if_neg h]; exact ⟨rfl, by simp [h]⟩
theorem digS_pos {s : ByteArray} (h : digS s ≠ ⟨#[]⟩) : 0 < (digS s).size := by
  rcases Nat.eq_zero_or_pos (digS s).size with e | e
  · exact absurd (ext_same (t := ⟨#[]⟩) (by rw [e]; rfl) fun j hj => by omega) h
  · exact e
section
variable {L L' : List HP} {w0 : World} {I : Foot} {s p : ByteArray}
theorem HasPre_tr : TrP Tryz.prog 107 #[.string s, .string p] (SL w0 I L) (.bool (decide (hasP s p))) := by
  refine TrP.ofD fun u => Tr.intro Tryz.func107 rfl Tryz.ntmps107 rfl ?_
  by_cases h : p.size ≤ s.size
  · have h' : (p.size : Int) ≤ s.size := by omega
    have h0 : (0 : Int) ≤ 0 ∧ (0 : Int) ≤ p.size := by omega
    have e : decide (hasP s p) = decide (s.extract 0 p.size = p) := by rw [decide_eq_decide]; exact ⟨fun k => k.2, fun k => ⟨h, k⟩⟩
    rw [e]
    repeat' (first | ((first | refine WLA.m rfl rfl ?_ ?_ | refine WLA.st rfl ?_ ?_ | refine WLA.x rfl rfl ?_ (fun x => ?_) | refine WLA.x0 rfl ?_ (fun x => ?_)); first | exact sdT | skip) | (refine Stp.go ?_) | (refine WPA.ifT ?_) | (refine WPA.ifF ?_) | (refine WLA.no rfl rfl ?_) | ((first | refine WPA.dec ?_ | ((fail_if_success (guard_target =~ WLA _ _ _ _ _ _ (put1 _ _ (.bool true)) _)); (fail_if_success (guard_target =~ WLA _ _ _ _ _ _ (put1 _ _ (.bool false)) _)); refine WLA.dec rfl rfl ?_) | refine WLA.pk ?_); first | refine orL ?_ | refine orR ?_) | ((first | refine WPA.ifBt ?_ ?_ | refine WPA.ifBnf ?_ ?_); assumption) | ((first | refine WPA.ifBnt ?_ ?_ | refine WPA.ifBf ?_ ?_); assumption) | ((first | refine WPA.ifs ?_ ?_ | refine WPA.ifB ?_ ?_) <;> intro hc) | ((fail_if_success (guard_target =~ WLA _ _ _ _ _ _ (put1 _ _ (.bool true)) _)); (fail_if_success (guard_target =~ WLA _ _ _ _ _ _ (put1 _ _ (.bool false)) _)); (first | refine WLA.both rfl rfl ?_ ?_ | refine WLA.bothB rfl rfl ?_ ?_) <;> intro hg))
    exact QQ.end_ rfl () (by simp) fun w h => h
  · have h' : ¬ (p.size : Int) ≤ s.size := by omega
    rw [decide_eq_false fun k => h k.1]
    repeat' (first | ((first | refine WLA.m rfl rfl ?_ ?_ | refine WLA.st rfl ?_ ?_ | refine WLA.x rfl rfl ?_ (fun x => ?_) | refine WLA.x0 rfl ?_ (fun x => ?_)); first | exact sdT | skip) | (refine Stp.go ?_) | (refine WPA.ifT ?_) | (refine WPA.ifF ?_) | (refine WLA.no rfl rfl ?_) | ((first | refine WPA.dec ?_ | ((fail_if_success (guard_target =~ WLA _ _ _ _ _ _ (put1 _ _ (.bool true)) _)); (fail_if_success (guard_target =~ WLA _ _ _ _ _ _ (put1 _ _ (.bool false)) _)); refine WLA.dec rfl rfl ?_) | refine WLA.pk ?_); first | refine orL ?_ | refine orR ?_) | ((first | refine WPA.ifBt ?_ ?_ | refine WPA.ifBnf ?_ ?_); assumption) | ((first | refine WPA.ifBnt ?_ ?_ | refine WPA.ifBf ?_ ?_); assumption) | ((first | refine WPA.ifs ?_ ?_ | refine WPA.ifB ?_ ?_) <;> intro hc) | ((fail_if_success (guard_target =~ WLA _ _ _ _ _ _ (put1 _ _ (.bool true)) _)); (fail_if_success (guard_target =~ WLA _ _ _ _ _ _ (put1 _ _ (.bool false)) _)); (first | refine WLA.both rfl rfl ?_ ?_ | refine WLA.bothB rfl rfl ?_ ?_) <;> intro hg))
    exact QQ.end_ rfl () rfl fun w h => h
theorem lTrim_tr : TrP Tryz.prog 108 #[.string s, .string p] (SL w0 I L) (.string (cutP s p)) := by
  refine TrP.ofD fun u => Tr.intro Tryz.func108 rfl Tryz.ntmps108 rfl ?_
  have hp := fun {L : List HP} => HasPre_tr (w0 := w0) (I := I) (L := L) (s := s) (p := p)
  unfold cutP
  by_cases h : hasP s p
  · have h1 : (0 : Int) ≤ p.size ∧ (p.size : Int) ≤ s.size := by have := h.1; omega
    rw [decide_eq_true h] at hp
    rw [if_pos h]
    repeat' (first | ((first | refine WLA.m rfl rfl ?_ ?_ | refine WLA.st rfl ?_ ?_ | refine WLA.x rfl rfl ?_ (fun x => ?_) | refine WLA.x0 rfl ?_ (fun x => ?_)); first | exact sdT | skip) | (refine Stp.go ?_) | (guard_target =~ WLA _ _ _ _ _ (⟨_, .call ⟨.value (.func 107), _, _⟩, _, _, _, _⟩ :: _) _ _; refine WLA.cq rfl rfl (hp) ?_) | (refine WPA.ifT ?_) | (refine WPA.ifF ?_) | ((first | refine WPA.dec ?_); first | refine orL ?_ | refine orR ?_) | ((first | refine WPA.ifBt ?_ ?_ | refine WPA.ifBnf ?_ ?_); assumption) | ((first | refine WPA.ifBnt ?_ ?_ | refine WPA.ifBf ?_ ?_); assumption) | ((first | refine WPA.ifs ?_ ?_ | refine WPA.ifB ?_ ?_) <;> intro hc))
    exact QQ.end_ rfl () (by simp) fun w h => h
  · rw [decide_eq_false h] at hp
    rw [if_neg h]
    repeat' (first | ((first | refine WLA.m rfl rfl ?_ ?_ | refine WLA.st rfl ?_ ?_ | refine WLA.x rfl rfl ?_ (fun x => ?_) | refine WLA.x0 rfl ?_ (fun x => ?_)); first | exact sdT | skip) | (refine Stp.go ?_) | (guard_target =~ WLA _ _ _ _ _ (⟨_, .call ⟨.value (.func 107), _, _⟩, _, _, _, _⟩ :: _) _ _; refine WLA.cq rfl rfl (hp) ?_) | (refine WPA.ifT ?_) | (refine WPA.ifF ?_) | ((first | refine WPA.dec ?_); first | refine orL ?_ | refine orR ?_) | ((first | refine WPA.ifBt ?_ ?_ | refine WPA.ifBnf ?_ ?_); assumption) | ((first | refine WPA.ifBnt ?_ ?_ | refine WPA.ifBf ?_ ?_); assumption) | ((first | refine WPA.ifs ?_ ?_ | refine WPA.ifB ?_ ?_) <;> intro hc))
    exact QQ.end_ rfl () rfl fun w h => h
theorem Trim_tr : TrP Tryz.prog 94 #[.string s, .string p] (SL w0 I L) (.string (cutP s p)) := by
  refine TrP.ofD fun u => Tr.intro Tryz.func94 rfl Tryz.ntmps94 rfl ?_
  repeat' (first | ((first | refine WLA.m rfl rfl ?_ ?_ | refine WLA.st rfl ?_ ?_ | refine WLA.x rfl rfl ?_ (fun x => ?_) | refine WLA.x0 rfl ?_ (fun x => ?_)); first | exact sdT | skip) | (refine Stp.go ?_) | (guard_target =~ WLA _ _ _ _ _ (⟨_, .call ⟨.value (.func 108), _, _⟩, _, _, _, _⟩ :: _) _ _; refine WLA.cq rfl rfl (lTrim_tr) ?_) | (refine WPA.ifT ?_) | (refine WPA.ifF ?_) | ((first | refine WPA.dec ?_); first | refine orL ?_ | refine orR ?_) | ((first | refine WPA.ifBt ?_ ?_ | refine WPA.ifBnf ?_ ?_); assumption) | ((first | refine WPA.ifBnt ?_ ?_ | refine WPA.ifBf ?_ ?_); assumption) | ((first | refine WPA.ifs ?_ ?_ | refine WPA.ifB ?_ ?_) <;> intro hc))
  exact QQ.end_ rfl () rfl fun w h => h
theorem lCutP_tr : TrP Tryz.prog 93 #[.string s, .string p] (SL w0 I L) (.tuple #[.string (cutP s p), .bool (decide (hasP s p))]) := by
  refine TrP.ofD fun u => Tr.intro Tryz.func93 rfl Tryz.ntmps93 rfl ?_
  have hp := fun {L : List HP} => HasPre_tr (w0 := w0) (I := I) (L := L) (s := s) (p := p)
  have hbt : (!true) = false := rfl
  have hbf : (!false) = true := rfl
  unfold cutP
  by_cases h : hasP s p
  · have h1 : (0 : Int) ≤ p.size ∧ (p.size : Int) ≤ s.size := by have := h.1; omega
    rw [decide_eq_true h] at hp ⊢
    rw [if_pos h]
    repeat' (first | ((rw [hbt])) | ((first | refine WLA.m rfl rfl ?_ ?_ | refine WLA.st rfl ?_ ?_ | refine WLA.x rfl rfl ?_ (fun x => ?_) | refine WLA.x0 rfl ?_ (fun x => ?_)); first | exact sdT | skip) | (refine Stp.go ?_) | (guard_target =~ WLA _ _ _ _ _ (⟨_, .call ⟨.value (.func 107), _, _⟩, _, _, _, _⟩ :: _) _ _; refine WLA.cq rfl rfl (hp) ?_) | (refine WPA.ifT ?_) | (refine WPA.ifF ?_) | ((first | refine WPA.dec ?_); first | refine orL ?_ | refine orR ?_) | ((first | refine WPA.ifBt ?_ ?_ | refine WPA.ifBnf ?_ ?_); assumption) | ((first | refine WPA.ifBnt ?_ ?_ | refine WPA.ifBf ?_ ?_); assumption) | ((first | refine WPA.ifs ?_ ?_ | refine WPA.ifB ?_ ?_) <;> intro hc))
    exact QQ.end_ rfl () (by simp) fun w h => h
  · rw [decide_eq_false h] at hp ⊢
    rw [if_neg h]
    repeat' (first | ((rw [hbf])) | ((first | refine WLA.m rfl rfl ?_ ?_ | refine WLA.st rfl ?_ ?_ | refine WLA.x rfl rfl ?_ (fun x => ?_) | refine WLA.x0 rfl ?_ (fun x => ?_)); first | exact sdT | skip) | (refine Stp.go ?_) | (guard_target =~ WLA _ _ _ _ _ (⟨_, .call ⟨.value (.func 107), _, _⟩, _, _, _, _⟩ :: _) _ _; refine WLA.cq rfl rfl (hp) ?_) | (refine WPA.ifT ?_) | (refine WPA.ifF ?_) | ((first | refine WPA.dec ?_); first | refine orL ?_ | refine orR ?_) | ((first | refine WPA.ifBt ?_ ?_ | refine WPA.ifBnf ?_ ?_); assumption) | ((first | refine WPA.ifBnt ?_ ?_ | refine WPA.ifBf ?_ ?_); assumption) | ((first | refine WPA.ifs ?_ ?_ | refine WPA.ifB ?_ ?_) <;> intro hc))
    exact QQ.end_ rfl () rfl fun w h => h
theorem CutP_tr : TrP Tryz.prog 74 #[.string s, .string p] (SL w0 I L) (.tuple #[.string (cutP s p), .bool (decide (hasP s p))]) := by
  refine TrP.ofD fun u => Tr.intro Tryz.func74 rfl Tryz.ntmps74 rfl ?_
  repeat' (first | ((first | refine WLA.m rfl rfl ?_ ?_ | refine WLA.st rfl ?_ ?_ | refine WLA.x rfl rfl ?_ (fun x => ?_) | refine WLA.x0 rfl ?_ (fun x => ?_)); first | exact sdT | skip) | (refine Stp.go ?_) | (guard_target =~ WLA _ _ _ _ _ (⟨_, .call ⟨.value (.func 93), _, _⟩, _, _, _, _⟩ :: _) _ _; refine WLA.cq rfl rfl (lCutP_tr) ?_) | (refine WPA.ifT ?_) | (refine WPA.ifF ?_) | ((first | refine WPA.dec ?_); first | refine orL ?_ | refine orR ?_) | ((first | refine WPA.ifBt ?_ ?_ | refine WPA.ifBnf ?_ ?_); assumption) | ((first | refine WPA.ifBnt ?_ ?_ | refine WPA.ifBf ?_ ?_); assumption) | ((first | refine WPA.ifs ?_ ?_ | refine WPA.ifB ?_ ?_) <;> intro hc))
  exact QQ.end_ rfl () rfl fun w h => h
theorem Number_tr : TrP Tryz.prog 75 #[.string s] (SL w0 I L) (.tuple #[.int .i64 (numV s), .bool (numB s)]) := by
  refine TrP.ofD fun u => Tr.intro Tryz.func75 rfl Tryz.ntmps75 rfl ?_
  have ht := fun {L : List HP} => Trim_tr (w0 := w0) (I := I) (L := L) (s := s) (p := mnB)
  obtain ⟨d, hd⟩ : ∃ d, cutP s mnB = d := ⟨_, rfl⟩
  have hd2 : digS s = d := hd
  rw [hd] at ht
  by_cases h0 : d = ⟨#[]⟩
  · have hno := num_no (s := s) fun h => h.1.1 (by rw [hd2]; exact h0)
    rw [hno.1, hno.2]
    repeat' (first | ((first | refine WLA.m rfl rfl ?_ ?_ | refine WLA.st rfl ?_ ?_ | refine WLA.x rfl rfl ?_ (fun x => ?_) | refine WLA.x0 rfl ?_ (fun x => ?_)); first | exact sdT | skip) | (refine Stp.go ?_) | (guard_target =~ WLA _ _ _ _ _ (⟨_, .call ⟨.value (.func 94), _, _⟩, _, _, _, _⟩ :: _) _ _; refine WLA.cq rfl rfl (ht) ?_) | (refine WPA.ifT ?_) | (refine WPA.ifF ?_) | (refine WLA.no rfl rfl ?_) | ((first | refine WPA.dec ?_ | ((fail_if_success (guard_target =~ WLA _ _ _ _ _ _ (put1 _ _ (.bool true)) _)); (fail_if_success (guard_target =~ WLA _ _ _ _ _ _ (put1 _ _ (.bool false)) _)); refine WLA.dec rfl rfl ?_) | refine WLA.pk ?_); first | refine orL ?_ | refine orR ?_) | ((first | refine WPA.ifBt ?_ ?_ | refine WPA.ifBnf ?_ ?_); assumption) | ((first | refine WPA.ifBnt ?_ ?_ | refine WPA.ifBf ?_ ?_); assumption) | ((first | refine WPA.ifs ?_ ?_ | refine WPA.ifB ?_ ?_) <;> intro hc) | ((fail_if_success (guard_target =~ WLA _ _ _ _ _ _ (put1 _ _ (.bool true)) _)); (fail_if_success (guard_target =~ WLA _ _ _ _ _ _ (put1 _ _ (.bool false)) _)); (first | refine WLA.both rfl rfl ?_ ?_ | refine WLA.bothB rfl rfl ?_ ?_) <;> intro hg))
    exact QQ.end_ rfl () rfl fun w h => h
  by_cases h18 : (18 : Int) < d.size
  · have hno := num_no (s := s) fun h => by have := h.1.2; rw [hd2] at this; omega
    rw [hno.1, hno.2]
    repeat' (first | ((first | refine WLA.m rfl rfl ?_ ?_ | refine WLA.st rfl ?_ ?_ | refine WLA.x rfl rfl ?_ (fun x => ?_) | refine WLA.x0 rfl ?_ (fun x => ?_)); first | exact sdT | skip) | (refine Stp.go ?_) | (guard_target =~ WLA _ _ _ _ _ (⟨_, .call ⟨.value (.func 94), _, _⟩, _, _, _, _⟩ :: _) _ _; refine WLA.cq rfl rfl (ht) ?_) | (refine WPA.ifT ?_) | (refine WPA.ifF ?_) | (refine WLA.no rfl rfl ?_) | ((first | refine WPA.dec ?_ | ((fail_if_success (guard_target =~ WLA _ _ _ _ _ _ (put1 _ _ (.bool true)) _)); (fail_if_success (guard_target =~ WLA _ _ _ _ _ _ (put1 _ _ (.bool false)) _)); refine WLA.dec rfl rfl ?_) | refine WLA.pk ?_); first | refine orL ?_ | refine orR ?_) | ((first | refine WPA.ifBt ?_ ?_ | refine WPA.ifBnf ?_ ?_); assumption) | ((first | refine WPA.ifBnt ?_ ?_ | refine WPA.ifBf ?_ ?_); assumption) | ((first | refine WPA.ifs ?_ ?_ | refine WPA.ifB ?_ ?_) <;> intro hc) | ((fail_if_success (guard_target =~ WLA _ _ _ _ _ _ (put1 _ _ (.bool true)) _)); (fail_if_success (guard_target =~ WLA _ _ _ _ _ _ (put1 _ _ (.bool false)) _)); (first | refine WLA.both rfl rfl ?_ ?_ | refine WLA.bothB rfl rfl ?_ ?_) <;> intro hg))
    exact QQ.end_ rfl () rfl fun w h => h
  have hpos : 0 < d.size := by have := digS_pos (s := s) (by rw [hd2]; exact h0); rw [hd2] at this; exact this
  have hp0 : (0 : Int) ≤ 0 ∧ (0 : Int) < d.size := by omega
  by_cases hz : bt d 0 = 48 ∧ s ≠ zrB
  · obtain ⟨hz1, hz2⟩ := hz
    have hno := num_no (s := s) fun h => hz2 (h.2.1 (by rw [hd2]; exact hz1))
    rw [hno.1, hno.2]
    have hz3 : ¬ s = ⟨#[48]⟩ := hz2
    repeat' (first | ((first | refine WLA.m rfl rfl ?_ ?_ | refine WLA.st rfl ?_ ?_ | refine WLA.x rfl rfl ?_ (fun x => ?_) | refine WLA.x0 rfl ?_ (fun x => ?_)); first | exact sdT | skip) | (refine Stp.go ?_) | (guard_target =~ WLA _ _ _ _ _ (⟨_, .call ⟨.value (.func 94), _, _⟩, _, _, _, _⟩ :: _) _ _; refine WLA.cq rfl rfl (ht) ?_) | (refine WPA.ifT ?_) | (refine WPA.ifF ?_) | (refine WLA.no rfl rfl ?_) | ((first | refine WPA.dec ?_ | ((fail_if_success (guard_target =~ WLA _ _ _ _ _ _ (put1 _ _ (.bool true)) _)); (fail_if_success (guard_target =~ WLA _ _ _ _ _ _ (put1 _ _ (.bool false)) _)); refine WLA.dec rfl rfl ?_) | refine WLA.pk ?_); first | refine orL ?_ | refine orR ?_) | ((first | refine WPA.ifBt ?_ ?_ | refine WPA.ifBnf ?_ ?_); assumption) | ((first | refine WPA.ifBnt ?_ ?_ | refine WPA.ifBf ?_ ?_); assumption) | ((first | refine WPA.ifs ?_ ?_ | refine WPA.ifB ?_ ?_) <;> intro hc) | ((fail_if_success (guard_target =~ WLA _ _ _ _ _ _ (put1 _ _ (.bool true)) _)); (fail_if_success (guard_target =~ WLA _ _ _ _ _ _ (put1 _ _ (.bool false)) _)); (first | refine WLA.both rfl rfl ?_ ?_ | refine WLA.bothB rfl rfl ?_ ?_) <;> intro hg))
    exact QQ.end_ rfl () rfl fun w h => h
  have hz4 : (bt d 0 = 48 ∧ s = ⟨#[48]⟩) ∨ ¬ bt d 0 = 48 := by
    by_cases h1 : bt d 0 = 48
    · by_cases h2 : s = zrB
      · exact .inl ⟨h1, h2⟩
      · exact absurd ⟨h1, h2⟩ hz
    · exact .inr h1
  rcases hz4 with ⟨hz1, hz2⟩ | hz1
  all_goals
    repeat' (first | ((first | refine WLA.m rfl rfl ?_ ?_ | refine WLA.st rfl ?_ ?_ | refine WLA.x rfl rfl ?_ (fun x => ?_) | refine WLA.x0 rfl ?_ (fun x => ?_)); first | exact sdT | skip) | (refine Stp.go ?_) | (guard_target =~ WLA _ _ _ _ _ (⟨_, .call ⟨.value (.func 94), _, _⟩, _, _, _, _⟩ :: _) _ _; refine WLA.cq rfl rfl (ht) ?_) | (refine WPA.ifT ?_) | (refine WPA.ifF ?_) | (refine WLA.no rfl rfl ?_) | ((first | refine WPA.dec ?_ | ((fail_if_success (guard_target =~ WLA _ _ _ _ _ _ (put1 _ _ (.bool true)) _)); (fail_if_success (guard_target =~ WLA _ _ _ _ _ _ (put1 _ _ (.bool false)) _)); refine WLA.dec rfl rfl ?_) | refine WLA.pk ?_); first | refine orL ?_ | refine orR ?_) | ((first | refine WPA.ifBt ?_ ?_ | refine WPA.ifBnf ?_ ?_); assumption) | ((first | refine WPA.ifBnt ?_ ?_ | refine WPA.ifBf ?_ ?_); assumption) | ((first | refine WPA.ifs ?_ ?_ | refine WPA.ifB ?_ ?_) <;> intro hc) | ((fail_if_success (guard_target =~ WLA _ _ _ _ _ _ (put1 _ _ (.bool true)) _)); (fail_if_success (guard_target =~ WLA _ _ _ _ _ _ (put1 _ _ (.bool false)) _)); (first | refine WLA.both rfl rfl ?_ ?_ | refine WLA.bothB rfl rfl ?_ ?_) <;> intro hg))
  all_goals
    refine WPA.loopS (σ := Nat) (fun n => [(0, .string s), (4, .string d), (5, .int .i64 (valD d n)), (6, .int .i64 n)]) (fun n => n ≤ d.size ∧ DigP d n) (fun _ => SLd w0 I L u) (fun n => d.size - n) 0 ⟨rfl, rfl, rfl, rfl, trivial⟩ ⟨Nat.zero_le _, fun j hj => absurd hj (Nat.not_lt_zero j)⟩ (fun w h => h) ?_
    rintro n ρ ⟨hn, hD⟩
    by_cases hlt : n < d.size
    · have hlt' : (n : Int) < d.size := by omega
      have hir : (0 : Int) ≤ n ∧ (n : Int) < d.size := by omega
      by_cases b1 : bt d (n : Int) < 48
      · have hno := num_no (s := s) fun h => by have := h.2.2; rw [hd2] at this; have := this n hlt; omega
        rw [hno.1, hno.2]
        repeat' (first | ((first | refine WLA.m rfl rfl ?_ ?_ | refine WLA.st rfl ?_ ?_ | refine WLA.x rfl rfl ?_ (fun x => ?_) | refine WLA.x0 rfl ?_ (fun x => ?_)); first | exact sdT | skip) | (refine Stp.go ?_) | (refine WPA.ifT ?_) | (refine WPA.ifF ?_) | (refine WLA.no rfl rfl ?_) | ((first | refine WPA.dec ?_ | ((fail_if_success (guard_target =~ WLA _ _ _ _ _ _ (put1 _ _ (.bool true)) _)); (fail_if_success (guard_target =~ WLA _ _ _ _ _ _ (put1 _ _ (.bool false)) _)); refine WLA.dec rfl rfl ?_) | refine WLA.pk ?_); first | refine orL ?_ | refine orR ?_) | ((first | refine WPA.ifBt ?_ ?_ | refine WPA.ifBnf ?_ ?_); assumption) | ((first | refine WPA.ifBnt ?_ ?_ | refine WPA.ifBf ?_ ?_); assumption) | ((first | refine WPA.ifs ?_ ?_ | refine WPA.ifB ?_ ?_) <;> intro hc) | ((fail_if_success (guard_target =~ WLA _ _ _ _ _ _ (put1 _ _ (.bool true)) _)); (fail_if_success (guard_target =~ WLA _ _ _ _ _ _ (put1 _ _ (.bool false)) _)); (first | refine WLA.both rfl rfl ?_ ?_ | refine WLA.bothB rfl rfl ?_ ?_) <;> intro hg))
        exact QQ.end_ rfl () rfl fun w h => h
      by_cases b2 : 57 < bt d (n : Int)
      · have hno := num_no (s := s) fun h => by have := h.2.2; rw [hd2] at this; have := this n hlt; omega
        rw [hno.1, hno.2]
        repeat' (first | ((first | refine WLA.m rfl rfl ?_ ?_ | refine WLA.st rfl ?_ ?_ | refine WLA.x rfl rfl ?_ (fun x => ?_) | refine WLA.x0 rfl ?_ (fun x => ?_)); first | exact sdT | skip) | (refine Stp.go ?_) | (refine WPA.ifT ?_) | (refine WPA.ifF ?_) | (refine WLA.no rfl rfl ?_) | ((first | refine WPA.dec ?_ | ((fail_if_success (guard_target =~ WLA _ _ _ _ _ _ (put1 _ _ (.bool true)) _)); (fail_if_success (guard_target =~ WLA _ _ _ _ _ _ (put1 _ _ (.bool false)) _)); refine WLA.dec rfl rfl ?_) | refine WLA.pk ?_); first | refine orL ?_ | refine orR ?_) | ((first | refine WPA.ifBt ?_ ?_ | refine WPA.ifBnf ?_ ?_); assumption) | ((first | refine WPA.ifBnt ?_ ?_ | refine WPA.ifBf ?_ ?_); assumption) | ((first | refine WPA.ifs ?_ ?_ | refine WPA.ifB ?_ ?_) <;> intro hc) | ((fail_if_success (guard_target =~ WLA _ _ _ _ _ _ (put1 _ _ (.bool true)) _)); (fail_if_success (guard_target =~ WLA _ _ _ _ _ _ (put1 _ _ (.bool false)) _)); (first | refine WLA.both rfl rfl ?_ ?_ | refine WLA.bothB rfl rfl ?_ ?_) <;> intro hg))
        exact QQ.end_ rfl () rfl fun w h => h
      have hv := valD_lt hD
      have hp := p10 (n := n) (by omega)
      have hc1 : 0 ≤ bt d (n : Int) - 48 ∧ bt d (n : Int) - 48 ≤ 255 := by omega
      have hw8 := wrap_u8 (a := bt d (n : Int) - 48) hc1
      have hc2 : -9223372036854775808 ≤ 10 * valD d n ∧ 10 * valD d n ≤ 9223372036854775807 := by omega
      have hc3 : -9223372036854775808 ≤ 10 * valD d n + (bt d (n : Int) - 48) ∧ 10 * valD d n + (bt d (n : Int) - 48) ≤ 9223372036854775807 := by omega
      repeat' (first | ((rw [hw8])) | ((first | refine WLA.m rfl rfl ?_ ?_ | refine WLA.st rfl ?_ ?_ | refine WLA.x rfl rfl ?_ (fun x => ?_) | refine WLA.x0 rfl ?_ (fun x => ?_)); first | exact sdT | skip) | (refine Stp.go ?_) | (refine WPA.ifT ?_) | (refine WPA.ifF ?_) | (refine WLA.no rfl rfl ?_) | ((first | refine WPA.dec ?_ | ((fail_if_success (guard_target =~ WLA _ _ _ _ _ _ (put1 _ _ (.bool true)) _)); (fail_if_success (guard_target =~ WLA _ _ _ _ _ _ (put1 _ _ (.bool false)) _)); refine WLA.dec rfl rfl ?_) | refine WLA.pk ?_); first | refine orL ?_ | refine orR ?_) | ((first | refine WPA.ifBt ?_ ?_ | refine WPA.ifBnf ?_ ?_); assumption) | ((first | refine WPA.ifBnt ?_ ?_ | refine WPA.ifBf ?_ ?_); assumption) | ((first | refine WPA.ifs ?_ ?_ | refine WPA.ifB ?_ ?_) <;> intro hc) | ((fail_if_success (guard_target =~ WLA _ _ _ _ _ _ (put1 _ _ (.bool true)) _)); (fail_if_success (guard_target =~ WLA _ _ _ _ _ _ (put1 _ _ (.bool false)) _)); (first | refine WLA.both rfl rfl ?_ ?_ | refine WLA.bothB rfl rfl ?_ ?_) <;> intro hg))
      refine QQ.loopS (n + 1) ⟨rfl, rfl, rfl, rfl, trivial⟩ ⟨hlt, fun j hj => ?_⟩ (by omega) (fun w h => h)
      by_cases e : j = n
      · subst e; omega
      · exact hD j (by omega)
    · have hlt' : ¬ (n : Int) < d.size := by omega
      have hnd : n = d.size := by omega
      subst hnd
      have hok : NumOk s := by
        refine ⟨⟨by rw [hd2]; exact h0, by rw [hd2]; omega⟩, fun h => ?_, by rw [hd2]; exact hD⟩
        rw [hd2] at h
        first | exact hz2 | exact absurd h hz1
      have hy := num_yes hok
      have hl := digS_len (s := s)
      rw [hd2] at hl hy
      have hv := valD_lt hD
      have hp := p10 (n := d.size - 1) (by omega)
      have hpp : (10 : Int) ^ d.size = 10 * 10 ^ (d.size - 1) := by
        conv => lhs; rw [show d.size = (d.size - 1) + 1 by omega, Int.pow_succ]
        rw [Int.mul_comm]
      rw [hy.1, hy.2]
      by_cases hm : hasP s mnB
      · have hm' : (d.size : Int) < s.size := by have := hl.1 hm; omega
        rw [if_pos hm]
        have hc4 : -9223372036854775808 ≤ - valD d d.size ∧ - valD d d.size ≤ 9223372036854775807 := by omega
        repeat' (first | ((first | refine WLA.m rfl rfl ?_ ?_ | refine WLA.st rfl ?_ ?_ | refine WLA.x rfl rfl ?_ (fun x => ?_) | refine WLA.x0 rfl ?_ (fun x => ?_)); first | exact sdT | skip) | (refine Stp.go ?_) | (refine WPA.ifT ?_) | (refine WPA.ifF ?_) | ((first | refine WPA.dec ?_); first | refine orL ?_ | refine orR ?_) | ((first | refine WPA.ifBt ?_ ?_ | refine WPA.ifBnf ?_ ?_); assumption) | ((first | refine WPA.ifBnt ?_ ?_ | refine WPA.ifBf ?_ ?_); assumption) | ((first | refine WPA.ifs ?_ ?_ | refine WPA.ifB ?_ ?_) <;> intro hc))
        exact QQ.end_ rfl () rfl fun w h => h
      · have hm' : ¬ (d.size : Int) < s.size := fun k => hm (hl.2 (by omega))
        rw [if_neg hm]
        repeat' (first | ((first | refine WLA.m rfl rfl ?_ ?_ | refine WLA.st rfl ?_ ?_ | refine WLA.x rfl rfl ?_ (fun x => ?_) | refine WLA.x0 rfl ?_ (fun x => ?_)); first | exact sdT | skip) | (refine Stp.go ?_) | (refine WPA.ifT ?_) | (refine WPA.ifF ?_) | ((first | refine WPA.dec ?_); first | refine orL ?_ | refine orR ?_) | ((first | refine WPA.ifBt ?_ ?_ | refine WPA.ifBnf ?_ ?_); assumption) | ((first | refine WPA.ifBnt ?_ ?_ | refine WPA.ifBf ?_ ?_); assumption) | ((first | refine WPA.ifs ?_ ?_ | refine WPA.ifB ?_ ?_) <;> intro hc))
        exact QQ.end_ rfl () rfl fun w h => h
end
end Go.Proofs.YthkhneimfjaohaaGreatDoor
namespace Go.Fw
open Go Go.RowKit
section
variable {P : Program} {ρ : Env} {A : World → Prop} {ty : TypeId} {ro : Option Nat} {n : Nat} {Q : Hnd} {ops : Array Oper} {rest : List Oper} {pos : String} {af : Array Edge} {g : Option (Nat × Bool)} {d : Tmp}
theorem WLA.extA {f : FuncId} {fn : Func} {e : Array Value → Sem Value} {args : List Operand} {argTypes : Array TypeId} {vs : List Value} {v : Value} [hv : EvAll ρ args vs] (hf : P.funcs[f]? = some fn) (hname : (fn.name == "runtime.NumGoroutine") = false)
    (hb : fn.body.isNone = true) (hn : Extern.findNext fn = none) (he : Extern.find fn = some e) (hr : ∀ w, (e vs.toArray).run P w = .ok v w)
    (hw : Region.wanted ⟨some d, .call { callee := .value (.func f), args := args.toArray, argTypes := argTypes }, ty, pos, af, g⟩ (yieldedE n ops ρ) = true) (hd : Nat.blt d n = true) (k : WLA ro P n ops Q rest (put1 ρ d v) A) :
    WLA ro P n ops Q (⟨some d, .call { callee := .value (.func f), args := args.toArray, argTypes := argTypes }, ty, pos, af, g⟩ :: rest) ρ A :=
  WLA.q (v := v) hw (fun d pos af g w _ => by
    have e1 : args.toArray.map (evalE ρ) = vs.toArray := by simp [← hv.out]
    have e2 := run_callFunc_extern hf hname hb hn he vs.toArray w
    rw [hr] at e2
    simp [execOp, resolve, evalE, Deferred.ofValue, invoke, e1, e2, go_sem]) (by rw [upd_put1 hd]; exact k)
end
end Go.Fw
namespace Go.Proofs.YthkhneimfjaohaaGreatDoor
open Go Go.Fw Go.RowKit
set_option linter.unusedVariables false
set_option linter.unusedSimpArgs false
set_option maxRecDepth 100000
set_option maxHeartbeats 16000000
set_option synthInstance.maxHeartbeats 200000
set_option synthInstance.maxSize 100000
attribute [local irreducible] WPA WLA WDA WDQ WDE QQ seqQ blockQ loopQ fnQ OpP OpT Tr TrP SL SLd OwnS LitS Bk BkE Ob
def oneB (c : UInt8) : ByteArray := ⟨#[c]⟩
def atB (s : ByteArray) (c : UInt8) : Int := Lib.indexByte s.data.toList c
theorem oneB_sz (c : UInt8) : (oneB c).size = 1 := rfl
theorem oneB_bt (c : UInt8) : bt (oneB c) 0 = c.toNat := rfl
theorem toU8 (c : UInt8) : (((c.toNat : Nat) : Int)).toNat.toUInt8 = c := by rw [Int.toNat_natCast]; exact UInt8.ofNat_toNat
section
variable {s : ByteArray} {c : UInt8} {L : List HP} {w0 : World} {I : Foot}
theorem IndexByte_trA : TrP Tryz.prog 114 #[.string s, .int .u8 c.toNat] (SL w0 I L) (.int .i64 (atB s c)) := by
  refine TrP.ofD fun u => Tr.intro Tryz.func114 rfl Tryz.ntmps114 rfl ?_
  have hr := fun w : World => Lib.run_indexByteString (P := Tryz.prog) s (c.toNat : Int) w
  rw [toU8] at hr
  repeat' (first | (guard_target =~ WLA _ _ _ _ _ (⟨_, .call ⟨.value (.func 121), _, _⟩, _, _, _, _⟩ :: _) _ _; refine WLA.extA (fn := Tryz.f121) (e := Extern.BytealgIndexByte.indexByte) rfl (by kernel_rfl) (by kernel_rfl) (by kernel_rfl) (by kernel_rfl) hr rfl rfl ?_) | ((first | refine WLA.m rfl rfl ?_ ?_ | refine WLA.st rfl ?_ ?_ | refine WLA.x rfl rfl ?_ (fun x => ?_) | refine WLA.x0 rfl ?_ (fun x => ?_)); first | exact sdT | skip) | (refine Stp.go ?_) | (refine WPA.ifT ?_) | (refine WPA.ifF ?_) | ((first | refine WPA.dec ?_); first | refine orL ?_ | refine orR ?_) | ((first | refine WPA.ifBt ?_ ?_ | refine WPA.ifBnf ?_ ?_); assumption) | ((first | refine WPA.ifBnt ?_ ?_ | refine WPA.ifBf ?_ ?_); assumption) | ((first | refine WPA.ifs ?_ ?_ | refine WPA.ifB ?_ ?_) <;> intro hc))
  exact QQ.end_ rfl () rfl fun w h => h
theorem lIndex_trA : TrP Tryz.prog 106 #[.string s, .string (oneB c)] (SL w0 I L) (.int .i64 (atB s c)) := by
  refine TrP.ofD fun u => Tr.intro Tryz.func106 rfl Tryz.ntmps106 rfl ?_
  have hs1 : ((oneB c).size : Int) = 1 := rfl
  have hs0 : ¬ ((oneB c).size : Int) = 0 := by rw [hs1]; decide
  have hb0 := oneB_bt c
  have h01 : (0 : Int) ≤ 0 ∧ (0 : Int) < (oneB c).size := by rw [hs1]; decide
  by_cases h10 : oneB c = s
  · have e : atB s c = 0 := by rw [← h10]; show Lib.indexByte [c] c = 0; simp [Lib.indexByte]
    repeat' (first | ((rw [hb0])) | (guard_target =~ WLA _ _ _ _ _ (⟨_, .pick _ _ _, _, _, _, _⟩ :: _) _ _; first | refine WLA.pickT (by decide) ?_ | refine WLA.pickF (by decide) ?_) | ((first | refine WLA.m rfl rfl ?_ ?_ | refine WLA.st rfl ?_ ?_ | refine WLA.x rfl rfl ?_ (fun x => ?_) | refine WLA.x0 rfl ?_ (fun x => ?_)); first | exact sdT | skip) | (refine Stp.go ?_) | (guard_target =~ WLA _ _ _ _ _ (⟨_, .call ⟨.value (.func 114), _, _⟩, _, _, _, _⟩ :: _) _ _; refine WLA.cq rfl rfl (IndexByte_trA) ?_) | (refine WPA.ifT ?_) | (refine WPA.ifF ?_) | (refine WLA.no rfl rfl ?_) | ((first | refine WPA.dec ?_ | ((fail_if_success (guard_target =~ WLA _ _ _ _ _ _ (put1 _ _ (.bool true)) _)); (fail_if_success (guard_target =~ WLA _ _ _ _ _ _ (put1 _ _ (.bool false)) _)); refine WLA.dec rfl rfl ?_) | refine WLA.pk ?_); first | refine orL ?_ | refine orR ?_) | ((first | refine WPA.ifBt ?_ ?_ | refine WPA.ifBnf ?_ ?_); assumption) | ((first | refine WPA.ifBnt ?_ ?_ | refine WPA.ifBf ?_ ?_); assumption) | ((first | refine WPA.ifs ?_ ?_ | refine WPA.ifB ?_ ?_) <;> intro hc) | ((fail_if_success (guard_target =~ WLA _ _ _ _ _ _ (put1 _ _ (.bool true)) _)); (fail_if_success (guard_target =~ WLA _ _ _ _ _ _ (put1 _ _ (.bool false)) _)); (first | refine WLA.both rfl rfl ?_ ?_ | refine WLA.bothB rfl rfl ?_ ?_) <;> intro hg))
    all_goals (try rw [e])
    all_goals exact QQ.end_ rfl () rfl fun w h => h
  · skip
    repeat' (first | ((rw [hb0])) | (guard_target =~ WLA _ _ _ _ _ (⟨_, .pick _ _ _, _, _, _, _⟩ :: _) _ _; first | refine WLA.pickT (by decide) ?_ | refine WLA.pickF (by decide) ?_) | ((first | refine WLA.m rfl rfl ?_ ?_ | refine WLA.st rfl ?_ ?_ | refine WLA.x rfl rfl ?_ (fun x => ?_) | refine WLA.x0 rfl ?_ (fun x => ?_)); first | exact sdT | skip) | (refine Stp.go ?_) | (guard_target =~ WLA _ _ _ _ _ (⟨_, .call ⟨.value (.func 114), _, _⟩, _, _, _, _⟩ :: _) _ _; refine WLA.cq rfl rfl (IndexByte_trA) ?_) | (refine WPA.ifT ?_) | (refine WPA.ifF ?_) | (refine WLA.no rfl rfl ?_) | ((first | refine WPA.dec ?_ | ((fail_if_success (guard_target =~ WLA _ _ _ _ _ _ (put1 _ _ (.bool true)) _)); (fail_if_success (guard_target =~ WLA _ _ _ _ _ _ (put1 _ _ (.bool false)) _)); refine WLA.dec rfl rfl ?_) | refine WLA.pk ?_); first | refine orL ?_ | refine orR ?_) | ((first | refine WPA.ifBt ?_ ?_ | refine WPA.ifBnf ?_ ?_); assumption) | ((first | refine WPA.ifBnt ?_ ?_ | refine WPA.ifBf ?_ ?_); assumption) | ((first | refine WPA.ifs ?_ ?_ | refine WPA.ifB ?_ ?_) <;> intro hc) | ((fail_if_success (guard_target =~ WLA _ _ _ _ _ _ (put1 _ _ (.bool true)) _)); (fail_if_success (guard_target =~ WLA _ _ _ _ _ _ (put1 _ _ (.bool false)) _)); (first | refine WLA.both rfl rfl ?_ ?_ | refine WLA.bothB rfl rfl ?_ ?_) <;> intro hg))
    all_goals exact QQ.end_ rfl () rfl fun w h => h
theorem Index_trA : TrP Tryz.prog 111 #[.string s, .string (oneB c)] (SL w0 I L) (.int .i64 (atB s c)) := by
  refine TrP.ofD fun u => Tr.intro Tryz.func111 rfl Tryz.ntmps111 rfl ?_
  repeat' (first | ((first | refine WLA.m rfl rfl ?_ ?_ | refine WLA.st rfl ?_ ?_ | refine WLA.x rfl rfl ?_ (fun x => ?_) | refine WLA.x0 rfl ?_ (fun x => ?_)); first | exact sdT | skip) | (refine Stp.go ?_) | (guard_target =~ WLA _ _ _ _ _ (⟨_, .call ⟨.value (.func 106), _, _⟩, _, _, _, _⟩ :: _) _ _; refine WLA.cq rfl rfl (lIndex_trA) ?_) | (refine WPA.ifT ?_) | (refine WPA.ifF ?_) | ((first | refine WPA.dec ?_); first | refine orL ?_ | refine orR ?_) | ((first | refine WPA.ifBt ?_ ?_ | refine WPA.ifBnf ?_ ?_); assumption) | ((first | refine WPA.ifBnt ?_ ?_ | refine WPA.ifBf ?_ ?_); assumption) | ((first | refine WPA.ifs ?_ ?_ | refine WPA.ifB ?_ ?_) <;> intro hc))
  exact QQ.end_ rfl () rfl fun w h => h
def cntB (s : ByteArray) (c : UInt8) : Nat := Lib.countByte s.data.toList c
theorem Count_trA : TrP Tryz.prog 110 #[.string s, .string (oneB c)] (SL w0 I L) (.int .i64 (cntB s c)) := by
  refine TrP.ofD fun u => Tr.intro Tryz.func110 rfl Tryz.ntmps110 rfl ?_
  have hs1 : ((oneB c).size : Int) = 1 := rfl
  have hs0 : ¬ ((oneB c).size : Int) = 0 := by rw [hs1]; decide
  have hb0 := oneB_bt c
  have h01 : (0 : Int) ≤ 0 ∧ (0 : Int) < (oneB c).size := by rw [hs1]; decide
  have hr := fun w : World => Lib.run_countString (P := Tryz.prog) s (c.toNat : Int) w
  rw [toU8] at hr
  repeat' (first | ((rw [hb0])) | (guard_target =~ WLA _ _ _ _ _ (⟨_, .call ⟨.value (.func 120), _, _⟩, _, _, _, _⟩ :: _) _ _; refine WLA.extA (fn := Tryz.f120) (e := Extern.BytealgCount.count) rfl (by kernel_rfl) (by kernel_rfl) (by kernel_rfl) (by kernel_rfl) hr rfl rfl ?_) | ((first | refine WLA.m rfl rfl ?_ ?_ | refine WLA.st rfl ?_ ?_ | refine WLA.x rfl rfl ?_ (fun x => ?_) | refine WLA.x0 rfl ?_ (fun x => ?_)); first | exact sdT | skip) | (refine Stp.go ?_) | (refine WPA.ifT ?_) | (refine WPA.ifF ?_) | ((first | refine WPA.dec ?_); first | refine orL ?_ | refine orR ?_) | ((first | refine WPA.ifBt ?_ ?_ | refine WPA.ifBnf ?_ ?_); assumption) | ((first | refine WPA.ifBnt ?_ ?_ | refine WPA.ifBf ?_ ?_); assumption) | ((first | refine WPA.ifs ?_ ?_ | refine WPA.ifB ?_ ?_) <;> intro hc))
  exact QQ.end_ rfl () rfl fun w h => h
end
end Go.Proofs.YthkhneimfjaohaaGreatDoor
namespace Go.Proofs.YthkhneimfjaohaaGreatDoor
open Go Go.Fw Go.RowKit
set_option linter.unusedVariables false
set_option linter.unusedSimpArgs false
set_option maxRecDepth 100000
set_option maxHeartbeats 16000000
set_option synthInstance.maxHeartbeats 200000
set_option synthInstance.maxSize 100000
attribute [local irreducible] WPA WLA WDA WDQ WDE QQ seqQ blockQ loopQ fnQ OpP OpT Tr TrP SL SLd OwnS LitS Bk BkE Ob
theorem ib_specA : ∀ (l : List UInt8) (c : UInt8), (Lib.indexByte l c = -1 ∧ ∀ j : Nat, l[j]? ≠ some c) ∨ ∃ i : Nat, Lib.indexByte l c = i ∧ l[i]? = some c ∧ ∀ j : Nat, j < i → l[j]? ≠ some c
  | [], c => .inl ⟨rfl, by simp⟩
  | b :: l, c => by
    unfold Lib.indexByte
    by_cases hb : b = c
    · subst hb
      exact .inr ⟨0, by simp, by simp, fun j hj => by omega⟩
    · rw [if_neg (by simpa using hb)]
      rcases ib_specA l c with ⟨h1, h2⟩ | ⟨i, h1, h2, h3⟩
      · left
        refine ⟨by rw [h1]; rfl, fun j => ?_⟩
        cases j with
        | zero => simpa using hb
        | succ j => simpa using h2 j
      · right
        refine ⟨i + 1, by rw [h1, if_neg (by simp)]; rfl, by simpa using h2, fun j hj => ?_⟩
        cases j with
        | zero => simpa using hb
        | succ j => simpa using h3 j (by omega)
theorem at_range (s : ByteArray) (c : UInt8) : -1 ≤ atB s c ∧ atB s c < s.size := by
  unfold atB
  rcases ib_specA s.data.toList c with ⟨h1, h2⟩ | ⟨i, h1, h2, h3⟩
  · rw [h1]; exact ⟨by omega, by omega⟩
  · rw [h1]
    have := (List.getElem?_eq_some_iff.1 h2).1
    rw [Array.length_toList] at this
    have e : s.data.size = s.size := rfl
    omega
def aftB (s : ByteArray) (c : UInt8) : ByteArray := s.extract (atB s c + 1).toNat s.size
def befB (s : ByteArray) (c : UInt8) : ByteArray := s.extract 0 (atB s c).toNat
theorem aft_size {s : ByteArray} {c : UInt8} (h : 0 ≤ atB s c) : (aftB s c).size < s.size := by
  have := at_range s c
  unfold aftB; rw [ByteArray.size_extract]; omega
theorem cnt_none {s : ByteArray} {c : UInt8} (h : ¬ 0 ≤ atB s c) : cntB s c = 0 := by
  unfold cntB Lib.countByte
  rcases ib_specA s.data.toList c with ⟨h1, h2⟩ | ⟨i, h1, h2, h3⟩
  · refine List.count_eq_zero.2 fun hm => ?_
    obtain ⟨j, hj, e⟩ := List.getElem_of_mem hm
    exact h2 j (by rw [List.getElem?_eq_getElem hj, e])
  · exact absurd (show 0 ≤ atB s c by unfold atB; rw [h1]; omega) h
theorem cnt_some {s : ByteArray} {c : UInt8} (h : 0 ≤ atB s c) : cntB s c = cntB (aftB s c) c + 1 := by
  unfold cntB Lib.countByte
  rcases ib_specA s.data.toList c with ⟨h1, h2⟩ | ⟨i, h1, h2, h3⟩
  · exact absurd h (by unfold atB; rw [h1]; omega)
  · have hi : atB s c = i := h1
    obtain ⟨hl, hc⟩ := List.getElem?_eq_some_iff.1 h2
    have e : (aftB s c).data.toList = s.data.toList.drop (i + 1) := by
      unfold aftB
      rw [hi]
      have e1 : ((i : Int) + 1).toNat = i + 1 := by omega
      have e2 : s.data.toList.length = s.size := by rw [Array.length_toList]; rfl
      rw [e1]
      simp only [ByteArray.data_extract, Array.toList_extract, List.extract_eq_take_drop]
      rw [List.take_of_length_le (by rw [List.length_drop, e2]; exact Nat.le_refl _)]
    rw [e]
    have ht : (s.data.toList.take i).count c = 0 := List.count_eq_zero.2 fun hm => by
      obtain ⟨j, hj, e⟩ := List.getElem_of_mem hm
      rw [List.length_take] at hj
      rw [List.getElem_take] at e
      exact h3 j (by omega) (by rw [List.getElem?_eq_getElem (by omega), e])
    conv => lhs; rw [← List.take_append_drop i s.data.toList, List.count_append, ht, List.drop_eq_getElem_cons hl, hc, List.count_cons_self]
    omega
def splF (c : UInt8) : Nat → ByteArray → List ByteArray
  | 0, s => [s]
  | n + 1, s => befB s c :: splF c n (aftB s c)
def splB (s : ByteArray) (c : UInt8) : List ByteArray := splF c (cntB s c) s
theorem splF_len (c : UInt8) : ∀ (n : Nat) (s : ByteArray), (splF c n s).length = n + 1
  | 0, s => rfl
  | n + 1, s => by rw [splF, List.length_cons, splF_len c n]
theorem cnt_le (s : ByteArray) (c : UInt8) : cntB s c ≤ s.size := by
  unfold cntB Lib.countByte
  have := List.count_le_length (a := c) (l := s.data.toList)
  rw [Array.length_toList] at this; exact this
section
variable {s : ByteArray} {c : UInt8} {L : List HP} {w0 : World} {I : Foot}
theorem sCut_trA (hsz : s.size ≤ 1000000) : TrP Tryz.prog 92 #[.string s, .string (oneB c)] (SL w0 I L) (.tuple #[.string (if 0 ≤ atB s c then befB s c else s), .string (if 0 ≤ atB s c then aftB s c else ⟨#[]⟩), .bool (decide (0 ≤ atB s c))]) := by
  refine TrP.ofD fun u => Tr.intro Tryz.func92 rfl Tryz.ntmps92 rfl ?_
  have hr := at_range s c
  have hs1 : ((oneB c).size : Int) = 1 := rfl
  by_cases h0 : 0 ≤ atB s c
  · have hb : atB s c + ((oneB c).size : Int) ≤ s.size := by omega
    repeat' (first | ((first | refine WLA.m rfl rfl ?_ ?_ | refine WDQ.m rfl rfl ?_ ?_ | refine WLA.st rfl ?_ ?_ | refine WLA.x rfl rfl ?_ (fun x => ?_) | refine WLA.x0 rfl ?_ (fun x => ?_)); first | exact sdT | skip) | (refine Stp.go ?_) | (guard_target =~ WLA _ _ _ _ _ (⟨_, .call ⟨.value (.func 106), _, _⟩, _, _, _, _⟩ :: _) _ _; refine WLA.cq rfl rfl (lIndex_trA) ?_) | (refine WPA.ifT ?_) | (refine WPA.ifF ?_) | ((first | refine WPA.dec ?_); first | refine orL ?_ | refine orR ?_) | ((first | refine WPA.ifBt ?_ ?_ | refine WPA.ifBnf ?_ ?_); assumption) | ((first | refine WPA.ifBnt ?_ ?_ | refine WPA.ifBf ?_ ?_); assumption) | ((first | refine WPA.ifs ?_ ?_ | refine WPA.ifB ?_ ?_) <;> intro hc) | (guard_target =~ WPA _ _ _ (.region 3 _ true) _ _ _; refine WPA.drawT 10 (.q 0 (.q 1 (.q 2 (.q 3 (.q 4 (.q 5 (.q 6 (.q 7 (.q 8 (.q 9 .fin)))))))))) mixed ?_ ?_; kernel_rfl) | (refine WDA.finish (tl := [⟨_, _, _, _, _, _⟩, ⟨_, _, _, _, _, _⟩]) rfl ?_) | (refine WDQ.see rfl ?_) | (guard_target =~ WDQ _ _ _ _ _ _ _ ⟨_, .call ⟨.value (.func 106), _, _⟩, _, _, _, _⟩ _ _ _; refine WDQ.cq rfl rfl (lIndex_trA) ?_))
    refine QQ.end_ rfl () ?_ fun w h => h
    rw [if_pos h0, if_pos h0, decide_eq_true h0]; rfl
  · skip
    repeat' (first | ((first | refine WLA.m rfl rfl ?_ ?_ | refine WDQ.m rfl rfl ?_ ?_ | refine WLA.st rfl ?_ ?_ | refine WLA.x rfl rfl ?_ (fun x => ?_) | refine WLA.x0 rfl ?_ (fun x => ?_)); first | exact sdT | skip) | (refine Stp.go ?_) | (guard_target =~ WLA _ _ _ _ _ (⟨_, .call ⟨.value (.func 106), _, _⟩, _, _, _, _⟩ :: _) _ _; refine WLA.cq rfl rfl (lIndex_trA) ?_) | (refine WPA.ifT ?_) | (refine WPA.ifF ?_) | ((first | refine WPA.dec ?_); first | refine orL ?_ | refine orR ?_) | ((first | refine WPA.ifBt ?_ ?_ | refine WPA.ifBnf ?_ ?_); assumption) | ((first | refine WPA.ifBnt ?_ ?_ | refine WPA.ifBf ?_ ?_); assumption) | ((first | refine WPA.ifs ?_ ?_ | refine WPA.ifB ?_ ?_) <;> intro hc) | (guard_target =~ WPA _ _ _ (.region 3 _ true) _ _ _; refine WPA.drawT 10 (.q 0 (.q 1 (.q 2 (.q 3 (.q 4 (.q 5 (.q 6 (.q 7 (.q 8 (.q 9 .fin)))))))))) mixed ?_ ?_; kernel_rfl) | (refine WDA.finish (tl := [⟨_, _, _, _, _, _⟩, ⟨_, _, _, _, _, _⟩]) rfl ?_) | (refine WDQ.see rfl ?_) | (guard_target =~ WDQ _ _ _ _ _ _ _ ⟨_, .call ⟨.value (.func 106), _, _⟩, _, _, _, _⟩ _ _ _; refine WDQ.cq rfl rfl (lIndex_trA) ?_))
    refine QQ.end_ rfl () ?_ fun w h => h
    rw [if_neg h0, if_neg h0, decide_eq_false h0]
theorem Cut_trA (hsz : s.size ≤ 1000000) : TrP Tryz.prog 73 #[.string s, .string (oneB c)] (SL w0 I L) (.tuple #[.string (if 0 ≤ atB s c then befB s c else s), .string (if 0 ≤ atB s c then aftB s c else ⟨#[]⟩), .bool (decide (0 ≤ atB s c))]) := by
  refine TrP.ofD fun u => Tr.intro Tryz.func73 rfl Tryz.ntmps73 rfl ?_
  repeat' (first | ((first | refine WLA.m rfl rfl ?_ ?_ | refine WLA.st rfl ?_ ?_ | refine WLA.x rfl rfl ?_ (fun x => ?_) | refine WLA.x0 rfl ?_ (fun x => ?_)); first | exact sdT | skip) | (refine Stp.go ?_) | (guard_target =~ WLA _ _ _ _ _ (⟨_, .call ⟨.value (.func 92), _, _⟩, _, _, _, _⟩ :: _) _ _; refine WLA.cq rfl rfl (sCut_trA hsz) ?_) | (refine WPA.ifT ?_) | (refine WPA.ifF ?_) | ((first | refine WPA.dec ?_); first | refine orL ?_ | refine orR ?_) | ((first | refine WPA.ifBt ?_ ?_ | refine WPA.ifBnf ?_ ?_); assumption) | ((first | refine WPA.ifBnt ?_ ?_ | refine WPA.ifBf ?_ ?_); assumption) | ((first | refine WPA.ifs ?_ ?_ | refine WPA.ifB ?_ ?_) <;> intro hc))
  exact QQ.end_ rfl () rfl fun w h => h
theorem gen_tr (hsz : s.size ≤ 1000000) : Tr Tryz.prog 95 #[.string s, .string (oneB c), .int .i64 0, .int .i64 (-1)] (SL w0 I L) (fun x : SV × Foot => .slice x.1.a x.1.n x.1.cap) (fun x w => (SubI x.2 I ∧ SlI x.2 x.1 ByteArray inferInstance (splB s c)) ∧ SL w0 x.2 L w) := by
  refine Tr.intro Tryz.func95 rfl Tryz.ntmps95 rfl ?_
  have hne : ¬ oneB c = ⟨#[]⟩ := fun e => by have := congrArg ByteArray.size e; rw [oneB_sz] at this; exact absurd this (by decide)
  have hcl := cnt_le s c
  obtain ⟨N, hN⟩ : ∃ N, cntB s c = N := ⟨_, rfl⟩
  have hct := fun {L : List HP} => Count_trA (s := s) (c := c) (w0 := w0) (I := I) (L := L)
  rw [hN] at hct hcl
  have hmin : min ((N : Int) + 1) ((s.size : Int) + 1) = (N : Int) + 1 := Int.min_eq_left (by omega)
  have hb1 : (0 ≤ (N : Int) + 1 ∧ (N : Int) + 1 ≤ (N : Int) + 1) := by omega
  have e1 : (N : Int) + 1 - 1 = N := by omega
  have hmk : ((0 : Int) ≤ (N : Int) + 1 ∧ (N : Int) + 1 ≤ (N : Int) + 1) ∧ (((16 : Nat) : Int) * ((N : Int) + 1) ≤ 281474976710656 ∧ (N : Int) + 1 ≤ 9223372036854775807) := by omega
  repeat' (first | ((rw [hmin])) | ((rw [e1])) | ((first | refine WLA.m rfl rfl ?_ ?_ | refine WLA.st rfl ?_ ?_ | refine WLA.x rfl rfl ?_ (fun x => ?_) | refine WLA.x0 rfl ?_ (fun x => ?_)); first | exact sdT | skip) | (refine Stp.go ?_) | (guard_target =~ WLA _ _ _ _ _ (⟨_, .call ⟨.value (.func 110), _, _⟩, _, _, _, _⟩ :: _) _ _; refine WLA.cq rfl rfl (hct) ?_) | (refine WPA.ifT ?_) | (refine WPA.ifF ?_) | ((first | refine WPA.dec ?_); first | refine orL ?_ | refine orR ?_) | ((first | refine WPA.ifBt ?_ ?_ | refine WPA.ifBnf ?_ ?_); assumption) | ((first | refine WPA.ifBnt ?_ ?_ | refine WPA.ifBf ?_ ?_); assumption) | ((first | refine WPA.ifs ?_ ?_ | refine WPA.ifB ?_ ?_) <;> intro hc))
  revert x; intro v
  have ern : ((N : Int) + 1).toNat = N + 1 := by omega
  refine WPA.loopS (σ := Nat × ByteArray × List ByteArray) (fun y => [(0, .string y.2.1), (1, .string (oneB c)), (2, .int .i64 0), (3, .int .i64 N), (9, .slice v.a v.n v.cap), (10, .int .i64 y.1)])
    (fun y => (y.1 + cntB y.2.1 c = N ∧ y.2.1.size ≤ s.size) ∧ y.2.2.length = N + 1 ∧ y.2.2.take y.1 ++ splF c (cntB y.2.1 c) y.2.1 = splB s c)
    (fun y => SL w0 I (OwnS 9 v y.2.2 :: L)) (fun y => N - y.1) (0, s, List.replicate ((N : Int) + 1).toNat ⟨#[]⟩) ⟨rfl, rfl, rfl, rfl, rfl, rfl, trivial⟩ ⟨⟨by dsimp only; omega, Nat.le_refl _⟩, by dsimp only; rw [List.length_replicate, ern], rfl⟩ (fun w h => by dsimp only; exact h) ?_
  rintro ⟨i, t, xs⟩ ρ ⟨⟨hi, hts⟩, hxl, hsp⟩
  dsimp only at hi hts hxl hsp ⊢
  by_cases hlt : i < N
  · have hlt' : (i : Int) < N := by omega
    have h0 : 0 ≤ atB t c := by
      by_cases h : 0 ≤ atB t c
      · exact h
      · have := cnt_none h; omega
    have hcs := cnt_some h0
    have hr := at_range t c
    have haf := aft_size h0
    have h0' : ¬ atB t c < 0 := by omega
    have he0 : atB t c + 0 = atB t c := by omega
    have he1 : atB t c + ((oneB c).size : Int) = atB t c + 1 := rfl
    have hir : (0 : Int) ≤ i ∧ (i : Int) < xs.length := by omega
    have hb0 : ((0 : Int) ≤ 0 ∧ (0 : Int) ≤ atB t c) ∧ atB t c ≤ t.size := by omega
    have hb2 : ((0 : Int) ≤ atB t c + 1 ∧ atB t c + 1 ≤ t.size) ∧ (t.size : Int) ≤ t.size := by omega
    have hix := fun {L : List HP} => Index_trA (s := t) (c := c) (w0 := w0) (I := I) (L := L)
    repeat' (first | ((rw [he0])) | ((rw [he1])) | ((first | refine WLA.m rfl rfl ?_ ?_ | refine WLA.st rfl ?_ ?_ | refine WLA.x rfl rfl ?_ (fun x => ?_) | refine WLA.x0 rfl ?_ (fun x => ?_)); first | exact sdT | skip) | (refine Stp.go ?_) | (guard_target =~ WLA _ _ _ _ _ (⟨_, .call ⟨.value (.func 111), _, _⟩, _, _, _, _⟩ :: _) _ _; refine WLA.cq rfl rfl (hix) ?_) | (refine WPA.ifT ?_) | (refine WPA.ifF ?_) | ((first | refine WPA.dec ?_); first | refine orL ?_ | refine orR ?_) | ((first | refine WPA.ifBt ?_ ?_ | refine WPA.ifBnf ?_ ?_); assumption) | ((first | refine WPA.ifBnt ?_ ?_ | refine WPA.ifBf ?_ ?_); assumption) | ((first | refine WPA.ifs ?_ ?_ | refine WPA.ifB ?_ ?_) <;> intro hc))
    refine QQ.loopS (i + 1, aftB t c, xs.set i (befB t c)) ⟨rfl, rfl, rfl, rfl, rfl, rfl, trivial⟩ ⟨⟨by dsimp only; omega, by dsimp only; omega⟩, by dsimp only; rw [List.length_set]; exact hxl, ?_⟩ (by dsimp only; omega) (fun w h => h)
    dsimp only
    rw [← hsp, hcs, splF, List.take_add_one, List.getElem?_eq_getElem (by rw [List.length_set]; omega), List.getElem_set_self, List.take_set_of_le (Nat.le_refl i), List.append_assoc]
    rfl
  · have hlt' : ¬ (i : Int) < N := by omega
    have hiN : i = N := by omega
    subst hiN
    have hc0 : cntB t c = 0 := by omega
    rw [hc0] at hsp
    have hir : (0 : Int) ≤ i ∧ (i : Int) < xs.length := by omega
    repeat' ((fail_if_success (guard_target =~ WPA _ _ _ (.region 18 _ _) _ _ _)); first | ((first | refine WLA.m rfl rfl ?_ ?_ | refine WLA.st rfl ?_ ?_ | refine WLA.x rfl rfl ?_ (fun x => ?_) | refine WLA.x0 rfl ?_ (fun x => ?_)); first | exact sdT | skip) | (refine Stp.go ?_) | (refine WPA.ifT ?_) | (refine WPA.ifF ?_) | ((first | refine WPA.dec ?_); first | refine orL ?_ | refine orR ?_) | ((first | refine WPA.ifBt ?_ ?_ | refine WPA.ifBnf ?_ ?_); assumption) | ((first | refine WPA.ifBnt ?_ ?_ | refine WPA.ifBf ?_ ?_); assumption) | ((first | refine WPA.ifs ?_ ?_ | refine WPA.ifB ?_ ?_) <;> intro hc))
    have hxs : xs.set i t = splB s c := by
      rw [← hsp]
      refine List.ext_getElem (by rw [List.length_set, List.length_append, List.length_take, splF_len]; omega) fun j j1 j2 => ?_
      rw [List.length_set] at j1
      by_cases hj : j = i
      · subst hj
        rw [List.getElem_set_self, List.getElem_append_right (by rw [List.length_take]; omega)]
        simp [splF]
      · rw [List.getElem_set_ne (by omega), List.getElem_append_left (by rw [List.length_take]; omega), List.getElem_take]
    have hil : ((i : Int)).toNat = i := by omega
    rw [hil, hxs]
    have hsl : (splB s c).length = i + 1 := by rw [← hxs, List.length_set]; omega
    refine WPA.freeze fun R hR => ?_
    have sv : SlI (R ++ I) v ByteArray inferInstance (splB s c) := by have := SlI.ofOwn hR; infer_instance
    have hb3 : ((0 : Int) ≤ 0 ∧ (0 : Int) ≤ (i : Int) + 1) ∧ (i : Int) + 1 ≤ (splB s c).length := by omega
    have hb4 : (0 : Int) ≤ 0 ∧ (0 : Int) ≤ (i : Int) + 1 := by omega
    have hb5 : (i : Int) + 1 ≤ (splB s c).length := by omega
    have hsx : SlI (R ++ I) (v.cut 1 0 ((i : Int) + 1)) ByteArray inferInstance (splB s c) := by
      have e : splB s c = cutL (splB s c) 0 ((i : Int) + 1) := by
        unfold cutL; rw [if_pos (by omega), show Int.toNat 0 = 0 from rfl, List.drop_zero, List.take_of_length_le (by omega)]
      conv => rhs; rw [e]
      infer_instance
    repeat' (first | ((first | refine WLA.m rfl rfl ?_ ?_ | refine WLA.st rfl ?_ ?_ | refine WLA.x rfl rfl ?_ (fun x => ?_) | refine WLA.x0 rfl ?_ (fun x => ?_)); first | exact sdT | skip) | (refine Stp.go ?_) | (refine WPA.ifT ?_) | (refine WPA.ifF ?_) | ((first | refine WPA.dec ?_); first | refine orL ?_ | refine orR ?_) | ((first | refine WPA.ifBt ?_ ?_ | refine WPA.ifBnf ?_ ?_); assumption) | ((first | refine WPA.ifBnt ?_ ?_ | refine WPA.ifBf ?_ ?_); assumption) | ((first | refine WPA.ifs ?_ ?_ | refine WPA.ifB ?_ ?_) <;> intro hc))
    exact QQ.end_ rfl (v.cut 1 0 ((i : Int) + 1), R ++ I) rfl fun w h => ⟨⟨inferInstance, hsx⟩, h.to⟩
theorem Split_tr (hsz : s.size ≤ 1000000) : Tr Tryz.prog 76 #[.string s, .string (oneB c)] (SL w0 I L) (fun x : SV × Foot => .slice x.1.a x.1.n x.1.cap) (fun x w => (SubI x.2 I ∧ SlI x.2 x.1 ByteArray inferInstance (splB s c)) ∧ SL w0 x.2 L w) := by
  refine Tr.intro Tryz.func76 rfl Tryz.ntmps76 rfl ?_
  repeat' (first | ((first | refine WLA.m rfl rfl ?_ ?_ | refine WLA.st rfl ?_ ?_ | refine WLA.x rfl rfl ?_ (fun x => ?_) | refine WLA.x0 rfl ?_ (fun x => ?_)); first | exact sdT | skip) | (refine Stp.go ?_) | (guard_target =~ WLA _ _ _ _ _ (⟨_, .call ⟨.value (.func 95), _, _⟩, _, _, _, _⟩ :: _) _ _; refine WLA.call rfl rfl (gen_tr hsz) ?_; rintro ⟨v, J⟩; dsimp only; refine WLA.pure fun hv => ?_) | (refine WPA.ifT ?_) | (refine WPA.ifF ?_) | ((first | refine WPA.dec ?_); first | refine orL ?_ | refine orR ?_) | ((first | refine WPA.ifBt ?_ ?_ | refine WPA.ifBnf ?_ ?_); assumption) | ((first | refine WPA.ifBnt ?_ ?_ | refine WPA.ifBf ?_ ?_); assumption) | ((first | refine WPA.ifs ?_ ?_ | refine WPA.ifB ?_ ?_) <;> intro hc))
  exact QQ.end_ rfl (v, J) rfl fun w h => ⟨hv, h.to⟩
end
end Go.Proofs.YthkhneimfjaohaaGreatDoor
namespace Go.Fw
open Go Go.RowKit
set_option linter.unusedVariables false
set_option linter.unusedSimpArgs false
def pan1 (v : Value) : List PanicEntry := [{ v := v, recovered := false }]
def TrX (P : Program) (f : FuncId) (args : Array Value) (A : World → Prop) {τ ε : Type} (val : τ → Value) (B : τ → World → Prop) (pv : ε → Value) (E : ε → World → Prop) : Prop :=
  ∀ w, A w → Calls P f args w fun e w' => (∃ x, e = .returned (val x) ∧ B x w') ∨ ∃ y, e = .panicked (pan1 (pv y)) ∧ E y w'
theorem TrX.conv {P : Program} {f : FuncId} {args : Array Value} {A A' : World → Prop} {τ τ' ε ε' : Type} {val : τ → Value} {val' : τ' → Value} {B : τ → World → Prop} {B' : τ' → World → Prop} {pv : ε → Value} {pv' : ε' → Value} {E : ε → World → Prop} {E' : ε' → World → Prop} (h : TrX P f args A val B pv E)
    (hA : ∀ w, A' w → A w) (hB : ∀ x w, B x w → ∃ x', val x = val' x' ∧ B' x' w) (hE : ∀ x w, E x w → ∃ x', pv x = pv' x' ∧ E' x' w) : TrX P f args A' val' B' pv' E' := fun w hw => (h w (hA w hw)).mono fun e w' he => by
  rcases he with ⟨x, rfl, hb⟩ | ⟨y, rfl, hb⟩
  · obtain ⟨x', h1, h2⟩ := hB x w' hb; exact .inl ⟨x', by rw [h1], h2⟩
  · obtain ⟨x', h1, h2⟩ := hE y w' hb; exact .inr ⟨x', by rw [h1], h2⟩
def fnX (P : Program) (fn : Func) (R : Value → World → Prop) (E : List PanicEntry → World → Prop) : Hnd
  | .panic c, ρ, w => ρ.ms = [] ∧ E c w
  | e, ρ, w => fnQ P fn R e ρ w
theorem TrX.intro {P : Program} {A : World → Prop} {f : FuncId} {fn : Func} {c : Code} {args : List Value} {τ ε : Type} {val : τ → Value} {B : τ → World → Prop} {pv : ε → Value} {E : ε → World → Prop} {N : Nat}
    (hf : P.funcs[f]? = some fn) (hb : fn.body = some c) (hn : fn.ntmps = N) (hle : Nat.ble args.length N = true)
    (h : WPA none P N c (fnX P fn (fun v w => ∃ x, v = val x ∧ B x w) fun c w => ∃ y, c = pan1 (pv y) ∧ E y w) (envOf args) A) : TrX P f args.toArray A val B pv E := by
  intro w hA
  subst hn
  refine callsIn_wide.1 (callsIn_of_wp_marks (n := 0) hf hb trivial (wpIn_mono (h (0, []) _ w ⟨?_, ?_, rfl⟩ hA) ?_))
  · have : args.length ≤ fn.ntmps := Nat.le_of_ble_eq_true hle
    simp; omega
  · intro i
    simp only [envOf, Array.getD_eq_getD_getElem?, List.getD_eq_getElem?_getD]
    rw [Array.getElem?_append]
    split
    · rename_i hi; simp
    · rename_i hi
      have : args[i]? = none := by simp at hi; simp [hi]
      rw [this]
      rw [Array.getElem?_replicate]
      split <;> rfl
  · have leave : ∀ (l : List Nat) (w' : World) (tmps : Array Value), closes l w' (fun w => ∃ v, (results fn tmps).run P w = .ok v w ∧ ∃ x, v = val x ∧ B x w) →
        LeavesInM Fence.wide 0 P fn tmps (fun e w' => (∃ x, e = Ending.returned (val x) ∧ B x w') ∨ ∃ y, e = .panicked (pan1 (pv y)) ∧ E y w') (marks l) .returning w' := by
      intro l
      induction l with
      | nil =>
        rintro w' tmps ⟨v, hr, x, rfl, hB⟩
        exact ⟨_, hr, .inl ⟨x, rfl, hB⟩⟩
      | cons D l ih =>
        rintro w' tmps ⟨hD, hk⟩
        exact ⟨(fun h => by cases h), .inl ⟨D, _, rfl, run_takeDeferred hD, ih _ _ hk⟩⟩
    have mono : ∀ (l : List Nat) (w' : World) (K K' : World → Prop), (∀ u, K u → K' u) → closes l w' K → closes l w' K' := by
      intro l
      induction l with
      | nil => intro w' K K' h hk; exact h _ hk
      | cons D l ih => intro w' K K' h hk; exact ⟨hk.1, ih _ _ _ h hk.2⟩
    intro e a w' hq
    cases e with
    | normal => obtain ⟨ρ', ha, hq⟩ := hq; show LeavesInM _ _ _ _ _ _ a.defers _ _; rw [ha.df, List.append_nil]; exact leave _ _ _ (mono _ _ _ _ (fun u ⟨v, hr, hx⟩ => ⟨v, hr _ ha.get, hx⟩) hq)
    | ret => obtain ⟨ρ', ha, hq⟩ := hq; show LeavesInM _ _ _ _ _ _ a.defers _ _; rw [ha.df, List.append_nil]; exact leave _ _ _ (mono _ _ _ _ (fun u ⟨v, hr, hx⟩ => ⟨v, hr _ ha.get, hx⟩) hq)
    | panic c =>
      obtain ⟨ρ', ha, hm, y, rfl, hE⟩ := hq
      show LeavesInM _ _ _ _ _ _ a.defers _ _
      rw [ha, hm]
      exact .inr ⟨y, rfl, hE⟩
    | outgrown => exact hq.elim
    | exit id => obtain ⟨ρ', ha, hq⟩ := hq; exact hq.elim
    | goto l => obtain ⟨ρ', ha, hq⟩ := hq; exact hq.elim
section
variable {ro : Option Nat} {P : Program} {n : Nat} {Q : Hnd} {ρ : Env} {A : World → Prop} {ops : Array Oper} {rest : List Oper} {op : Op} {ty : TypeId} {pos : String} {af : Array Edge} {g : Option (Nat × Bool)} {d : Tmp}
theorem semAt_of_OpX {o : Oper} {ev : Operand → Value} {w : World} {R : Value → World → Prop} {E : List PanicEntry → World → Prop} (hc : ∀ c, o.op ≠ .defer c) : o.semAt ro ev = execOp ev o :=
  Oper.semAt_eq ro ev o fun c h => absurd h (hc c)
theorem WLA.genX {dst : Option Tmp} {R : Value → World → Prop} {E : List PanicEntry → World → Prop} (hw : Region.wanted ⟨dst, op, ty, pos, af, g⟩ (yieldedE n ops ρ) = true) (hd : ∀ c, op ≠ .defer c)
    (h : ∀ w, A w → OpX P R E ((execOp (evalE ρ) ⟨dst, op, ty, pos, af, g⟩).run P w))
    (k : ∀ v, WLA ro P n ops Q rest (updO n ρ dst v) (R v)) (hp : ∀ c w, E c w → Q (.panic c) ρ w) : WLA ro P n ops Q (⟨dst, op, ty, pos, af, g⟩ :: rest) ρ A := by
  intro m a w ha hA
  refine wpListIn_step fun K hK => ?_
  rw [ha.yielded, if_pos hw]
  unfold Oper.wpIn
  rw [ha.eval]
  have hU := h w hA
  refine ⟨fun _ _ => trivial, ?_⟩
  show Oper.uponIn (FR ro) m.1 P _ a K _ (Sem.run P (Oper.semAt ro (evalE ρ) _) w)
  rw [semAt_of_OpX (R := R) (E := E) (w := w) (o := ⟨dst, op, ty, pos, af, g⟩) hd]
  exact upon_of_OpX hU (fun v w' hR => hK _ _ (k v _ _ _ (ha.put _ _) hR)) fun c w' hE => ⟨ρ, ha.df, hp c w' hE⟩
variable {w0 : World} {I : Foot} {L : List HP} {τ ε : Type} {val : τ → Value} {B : τ → World → Prop} {pv : ε → Value} {E : ε → World → Prop} {f : FuncId} {args : List Operand} {vs : List Value} {argTypes : Array TypeId}
theorem opx_call [hv : EvAll ρ args vs] [hf : Callb P f] [hA : InSL A w0 I L] {dst : Option Tmp} (hc : TrX P f vs.toArray (SL w0 I L) val B pv E) : ∀ w, A w → OpX P (fun v w => ∃ x, v = val x ∧ B x w) (fun c w => ∃ y, c = pan1 (pv y) ∧ E y w) ((execOp (evalE ρ) ⟨dst, .call { callee := .value (.func f), args := args.toArray, argTypes := argTypes }, ty, pos, af, g⟩).run P w) := by
  intro w hw
  have e : args.toArray.map (evalE ρ) = vs.toArray := by simp [← hv.out]
  have e1 : (execOp (evalE ρ) ⟨dst, .call { callee := .value (.func f), args := args.toArray, argTypes := argTypes }, ty, pos, af, g⟩).run P w = .ok (.enter f vs.toArray) w := by
    rw [← e]
    simp [execOp, resolve, evalE, Deferred.ofValue, invoke, run_callFunc hf.out, go_sem]
  rw [e1]
  refine (hc w (hA.out w hw)).mono fun e w' he => ?_
  rcases he with ⟨x, rfl, hb⟩ | ⟨y, rfl, hb⟩
  · exact .inl ⟨_, rfl, x, rfl, hb⟩
  · exact .inr ⟨_, rfl, y, rfl, hb⟩
theorem WLA.callX [hv : EvAll ρ args vs] [hf : Callb P f] [hA : InSL A w0 I L] (hw : Region.wanted ⟨some d, .call { callee := .value (.func f), args := args.toArray, argTypes := argTypes }, ty, pos, af, g⟩ (yieldedE n ops ρ) = true) (hd : Nat.blt d n = true)
    (hc : TrX P f vs.toArray (SL w0 I L) val B pv E) (hp : ∀ y, QQ Q (.panic (pan1 (pv y))) ρ (E y)) (k : ∀ x, WLA ro P n ops Q rest (put1 ρ d (val x)) (B x)) : WLA ro P n ops Q (⟨some d, .call { callee := .value (.func f), args := args.toArray, argTypes := argTypes }, ty, pos, af, g⟩ :: rest) ρ A :=
  WLA.genX hw (fun c h => by cases h) (opx_call hc) (fun v => by
    intro m a w ha ⟨x, e, hB⟩; subst e
    have := k x m a w
    rw [← upd_put1 hd] at this
    exact this ha hB) fun c w ⟨y, e, hE⟩ => e ▸ hp y w hE
theorem WLA.callX0 [hv : EvAll ρ args vs] [hf : Callb P f] [hA : InSL A w0 I L] (hw : Region.wanted ⟨none, .call { callee := .value (.func f), args := args.toArray, argTypes := argTypes }, ty, pos, af, g⟩ (yieldedE n ops ρ) = true)
    (hc : TrX P f vs.toArray (SL w0 I L) val B pv E) (hp : ∀ y, QQ Q (.panic (pan1 (pv y))) ρ (E y)) (k : ∀ x, WLA ro P n ops Q rest ρ (B x)) : WLA ro P n ops Q (⟨none, .call { callee := .value (.func f), args := args.toArray, argTypes := argTypes }, ty, pos, af, g⟩ :: rest) ρ A :=
  WLA.genX hw (fun c h => by cases h) (opx_call hc) (fun v => by intro m a w ha ⟨x, e, hB⟩; exact k x m a w ha hB) fun c w ⟨y, e, hE⟩ => e ▸ hp y w hE
theorem WLA.throw {x : Operand} {t : TypeId} {v : Value} {dst : Option Tmp} [hx : Ev ρ x (.iface t v)] (hw : Region.wanted ⟨dst, .panic x, ty, pos, af, g⟩ (yieldedE n ops ρ) = true) (hp : QQ Q (.panic (pan1 (.iface t v))) ρ A) : WLA ro P n ops Q (⟨dst, .panic x, ty, pos, af, g⟩ :: rest) ρ A :=
  WLA.genX (R := fun _ _ => False) (E := fun c w => c = pan1 (.iface t v) ∧ A w) hw (fun c h => by cases h) (fun w hA => by
    have e1 : (execOp (evalE ρ) ⟨dst, .panic x, ty, pos, af, g⟩).run P w = .halt (.panic (.iface t v)) w := by
      simp [execOp, hx.out, Instr.panic, go_sem, Result.andThen]
    rw [e1]; exact ⟨rfl, hA⟩) (fun v m a w ha h => h.elim) fun c w ⟨e, hA⟩ => e ▸ hp w hA
end
theorem QQ.thrown {P : Program} {fn : Func} {ρ : Env} {A : World → Prop} {R : Value → World → Prop} {ε : Type} {pv : ε → Value} {E : ε → World → Prop} {c : List PanicEntry} (y : ε) (hc : c = pan1 (pv y)) (hB : ∀ w, A w → E y w) (hmk : ρ.ms = [] := by rfl) :
    QQ (fnX P fn R fun c w => ∃ y, c = pan1 (pv y) ∧ E y w) (.panic c) ρ A := fun w hA => ⟨hmk, y, hc, hB w hA⟩
theorem QQ.fnX_ret {P : Program} {fn : Func} {ρ : Env} {A : World → Prop} {R : Value → World → Prop} {E : List PanicEntry → World → Prop} (h : QQ (fnQ P fn R) .ret ρ A) : QQ (fnX P fn R E) .ret ρ A := h
theorem QQ.seq_panic {ro : Option Nat} {P : Program} {n : Nat} {y : Code} {Q : Hnd} {c : List PanicEntry} {ρ : Env} {A : World → Prop} (h : QQ Q (.panic c) ρ A) : QQ (seqQ ro P n y Q) (.panic c) ρ A := h
class Pas (Q : Hnd) (Q' : outParam Hnd) : Prop where
  out : ∀ c ρ w, Q' (.panic c) ρ w → Q (.panic c) ρ w
instance {P : Program} {fn : Func} {R : Value → World → Prop} {E : List PanicEntry → World → Prop} : Pas (fnX P fn R E) (fnX P fn R E) := ⟨fun _ _ _ h => h⟩
instance {ro : Option Nat} {P : Program} {n : Nat} {y : Code} {Q Q' : Hnd} [h : Pas Q Q'] : Pas (seqQ ro P n y Q) Q' := ⟨fun c ρ w k => h.out c ρ w k⟩
instance {id : Nat} {Q Q' : Hnd} [h : Pas Q Q'] : Pas (blockQ id Q) Q' := ⟨fun c ρ w k => h.out c ρ w k⟩
instance {σ : Type} {C : σ → Env → Prop} {B : σ → World → Prop} {m : σ → Nat} {x : σ} {Q Q' : Hnd} [h : Pas Q Q'] : Pas (loopQ C B m x Q) Q' := ⟨fun c ρ w k => h.out c ρ w k⟩
theorem QQ.thrw {ρ : Env} {A : World → Prop} {c : List PanicEntry} {Q Q' : Hnd} [h : Pas Q Q'] (k : QQ Q' (.panic c) ρ A) : QQ Q (.panic c) ρ A := fun w hA => h.out _ _ _ (k w hA)
section
variable {ro : Option Nat} {P : Program} {N n : Nat} {ops : Array Oper} {Q : Hnd} {T : World → Prop} {ρ : Env} {A : World → Prop} {r : Plan} {d : Tmp} {ty : TypeId} {pos : String} {af : Array Edge} {g : Option (Nat × Bool)} {w0 : World} {I : Foot} {L : List HP} {τ ε : Type} {val : τ → Value} {B : τ → World → Prop} {pv : ε → Value} {E : ε → World → Prop} {f : FuncId} {args : List Operand} {vs : List Value} {argTypes : Array TypeId}
theorem WDW.callX [hv : EvAll ρ args vs] [hf : Callb P f] [hA : InSL A w0 I L] [hdr : ∀ x, DrC (B x)] (hw : Region.wanted ⟨some d, .call { callee := .value (.func f), args := args.toArray, argTypes := argTypes }, ty, pos, af, g⟩ (yieldedE N ops ρ) = true) (hd : Nat.blt d N = true)
    (hc : TrX P f vs.toArray (SL w0 I L) val B pv E) (hp : ∀ y, QQ Q (.panic (pan1 (pv y))) ρ (E y)) [hT : ∀ x, SubT (B x) T] (k : ∀ x, WDA ro P N ops Q T n r (put1 ρ d (val x)) (B x)) :
    WDW ro P N ops Q T n ⟨some d, .call { callee := .value (.func f), args := args.toArray, argTypes := argTypes }, ty, pos, af, g⟩ r ρ A :=
  fun i hi => ⟨_, τ, val, B, hi, hw, fun w hA => by
    have := opx_call (ρ := ρ) (args := args) (ty := ty) (pos := pos) (af := af) (g := g) (dst := some d) (argTypes := argTypes) hc w hA
    revert this
    generalize (execOp (evalE ρ) _).run P w = rr
    intro this
    cases rr with
    | ok x w => cases x <;> simp only [OpX] at this ⊢ <;> first | exact this | exact Calls.mono this (fun e w' he => he.imp id fun ⟨c, h1, y, h2, h3⟩ => ⟨c, h1, h2 ▸ hp y _ h3⟩)
    | halt x w => cases x <;> simp only [OpX] at this ⊢ <;> first | exact this.elim | (obtain ⟨y, h2, h3⟩ := this; have h2' : pan1 _ = pan1 (pv y) := h2; exact h2 ▸ hp y _ h3),
    fun x => (hdr x).out, fun x => (hT x).out, fun x => by show WDA ro P N ops Q T n r (upd N ρ d (val x)) (B x); rw [upd_put1 hd]; exact k x⟩
end
end Go.Fw
namespace Go.Proofs.YthkhneimfjaohaaGreatDoor
open Go Go.Fw Go.RowKit
set_option linter.unusedVariables false
set_option linter.unusedSimpArgs false
set_option maxRecDepth 100000
set_option maxHeartbeats 16000000
set_option synthInstance.maxHeartbeats 200000
set_option synthInstance.maxSize 100000
attribute [local irreducible] WPA WLA WDA WDQ WDE QQ seqQ blockQ loopQ fnQ OpP OpT Tr TrP SL SLd OwnS LitS Bk BkE Ob
def wrV (y : Int × Int) : Value := .iface 60 (.agg #[.int .i64 y.1, .int .i64 y.2])
def PsH (P : Nat) (y : ByteArray × Int) : HP := Bk P 64 [.string y.1, .int .i64 y.2]
attribute [local irreducible] fnX TrX
theorem TrX.at {P : Program} {f : FuncId} {args : Array Value} {w0 : World} {I : Foot} {L L1 : List HP} {τ ε : Type} {val : τ → Value} {B : τ → World → Prop} {pv : ε → Value} {E : ε → World → Prop} (h : Ent L L1) (k : TrX P f args (SL w0 I L1) val B pv E) : TrX P f args (SL w0 I L) val B pv E := by
  unfold TrX at k ⊢
  exact fun w hw => k w (h.sl hw)
section
variable {L L' : List HP} {w0 : World} {I : Foot} {s : ByteArray} {P : Nat} {n : Int}
theorem must_ok {x : Option Addr} : Tr Tryz.prog 50 #[.pointer x, .bool true] (SL w0 I L) (fun _ : Unit => .tuple #[]) (fun _ => SL w0 I L) := by
  refine Tr.intro Tryz.func50 rfl Tryz.ntmps50 rfl ?_
  have hbt : (!true) = false := rfl
  repeat' (first | ((rw [hbt])) | ((first | refine WLA.m rfl rfl ?_ ?_ | refine WLA.st rfl ?_ ?_ | refine WLA.x rfl rfl ?_ (fun x => ?_) | refine WLA.x0 rfl ?_ (fun x => ?_)); first | exact sdT | skip) | (refine Stp.go ?_) | (refine WPA.ifT ?_) | (refine WPA.ifF ?_) | ((first | refine WPA.dec ?_); first | refine orL ?_ | refine orR ?_) | ((first | refine WPA.ifBt ?_ ?_ | refine WPA.ifBnf ?_ ?_); assumption) | ((first | refine WPA.ifBnt ?_ ?_ | refine WPA.ifBf ?_ ?_); assumption) | ((first | refine WPA.ifs ?_ ?_ | refine WPA.ifB ?_ ?_) <;> intro hc))
  exact QQ.endn rfl () rfl fun w h => h
theorem must_no [h : FindK L PsH P (s, n) L'] : TrX Tryz.prog 50 #[.pointer (some ⟨P, 0, none⟩), .bool false] (SL w0 I L) (fun _ : Empty => .tuple #[]) (fun _ _ => False) (fun y : { y : Int × Int // y = (n, 3) } => wrV y.1) (fun _ => SL w0 I (PsH P (s, n) :: L')) := by
  refine TrX.at h.out ?_
  unfold PsH
  refine TrX.intro Tryz.func50 rfl Tryz.ntmps50 rfl ?_
  have hbf : (!false) = true := rfl
  repeat' (first | ((rw [hbf])) | ((refine WLA.throw rfl ?_)) | ((first | refine WLA.m rfl rfl ?_ ?_ | refine WLA.st rfl ?_ ?_ | refine WLA.x rfl rfl ?_ (fun x => ?_) | refine WLA.x0 rfl ?_ (fun x => ?_)); first | exact sdT | skip) | (refine Stp.go ?_) | (refine WPA.ifT ?_) | (refine WPA.ifF ?_) | ((first | refine WPA.dec ?_); first | refine orL ?_ | refine orR ?_) | ((first | refine WPA.ifBt ?_ ?_ | refine WPA.ifBnf ?_ ?_); assumption) | ((first | refine WPA.ifBnt ?_ ?_ | refine WPA.ifBf ?_ ?_); assumption) | ((first | refine WPA.ifs ?_ ?_ | refine WPA.ifB ?_ ?_) <;> intro hc))
  exact QQ.thrown ⟨(n, 3), rfl⟩ rfl fun w h => h.to
theorem next_ok [h : FindK L PsH P (s, n) L'] (h0 : 0 ≤ atB s 10) (hsz : s.size ≤ 1000000) (hn : 0 ≤ n ∧ n ≤ 1000000) : Tr Tryz.prog 51 #[.pointer (some ⟨P, 0, none⟩)] (SL w0 I L) (fun _ : Unit => .string (befB s 10)) (fun _ => SL w0 I (PsH P (aftB s 10, n + 1) :: L')) := by
  refine Tr.at h.out ?_
  unfold PsH
  refine Tr.intro Tryz.func51 rfl Tryz.ntmps51 rfl ?_
  have hbt : (!true) = false := rfl
  have hc := fun {L : List HP} => Cut_trA (s := s) (c := 10) (w0 := w0) (I := I) (L := L) hsz
  rw [if_pos h0, if_pos h0, decide_eq_true h0] at hc
  repeat' (first | ((rw [hbt])) | ((first | refine WLA.m rfl rfl ?_ ?_ | refine WLA.st rfl ?_ ?_ | refine WLA.x rfl rfl ?_ (fun x => ?_) | refine WLA.x0 rfl ?_ (fun x => ?_)); first | exact sdT | skip) | (refine Stp.go ?_) | (guard_target =~ WLA _ _ _ _ _ (⟨_, .call ⟨.value (.func 73), _, _⟩, _, _, _, _⟩ :: _) _ _; refine WLA.cq rfl rfl (hc) ?_) | (refine WPA.ifT ?_) | (refine WPA.ifF ?_) | ((first | refine WPA.dec ?_); first | refine orL ?_ | refine orR ?_) | ((first | refine WPA.ifBt ?_ ?_ | refine WPA.ifBnf ?_ ?_); assumption) | ((first | refine WPA.ifBnt ?_ ?_ | refine WPA.ifBf ?_ ?_); assumption) | ((first | refine WPA.ifs ?_ ?_ | refine WPA.ifB ?_ ?_) <;> intro hc))
  exact QQ.end_ rfl () rfl fun w h => h.to
theorem next_no [h : FindK L PsH P (s, n) L'] (h0 : ¬ 0 ≤ atB s 10) (hsz : s.size ≤ 1000000) (hn : 0 ≤ n ∧ n ≤ 1000000) : TrX Tryz.prog 51 #[.pointer (some ⟨P, 0, none⟩)] (SL w0 I L) (fun _ : Empty => .tuple #[]) (fun _ _ => False) (fun y : { y : Int × Int // y = (n + 1, 2) } => wrV y.1) (fun _ => SL w0 I (PsH P (s, n + 1) :: L')) := by
  refine TrX.at h.out ?_
  unfold PsH
  refine TrX.intro Tryz.func51 rfl Tryz.ntmps51 rfl ?_
  have hbf : (!false) = true := rfl
  have hc := fun {L : List HP} => Cut_trA (s := s) (c := 10) (w0 := w0) (I := I) (L := L) hsz
  rw [if_neg h0, if_neg h0, decide_eq_false h0] at hc
  repeat' (first | ((rw [hbf])) | ((refine WLA.throw rfl ?_)) | ((first | refine WLA.m rfl rfl ?_ ?_ | refine WLA.st rfl ?_ ?_ | refine WLA.x rfl rfl ?_ (fun x => ?_) | refine WLA.x0 rfl ?_ (fun x => ?_)); first | exact sdT | skip) | (refine Stp.go ?_) | (guard_target =~ WLA _ _ _ _ _ (⟨_, .call ⟨.value (.func 73), _, _⟩, _, _, _, _⟩ :: _) _ _; refine WLA.cq rfl rfl (hc) ?_) | (refine WPA.ifT ?_) | (refine WPA.ifF ?_) | ((first | refine WPA.dec ?_); first | refine orL ?_ | refine orR ?_) | ((first | refine WPA.ifBt ?_ ?_ | refine WPA.ifBnf ?_ ?_); assumption) | ((first | refine WPA.ifBnt ?_ ?_ | refine WPA.ifBf ?_ ?_); assumption) | ((first | refine WPA.ifs ?_ ?_ | refine WPA.ifB ?_ ?_) <;> intro hc))
  refine QQ.seq_panic ?_
  exact QQ.thrown ⟨(n + 1, 2), rfl⟩ rfl fun w h => h.to
theorem after_ok {l b : ByteArray} {x : Option Addr} (h1 : hasP l b) (h2 : NumOk (cutP l b)) : Tr Tryz.prog 52 #[.pointer x, .string l, .string b] (SL w0 I L) (fun _ : Unit => .int .i64 (numV (cutP l b))) (fun _ => SL w0 I L) := by
  refine Tr.intro Tryz.func52 rfl Tryz.ntmps52 rfl ?_
  have hc := fun {L : List HP} => CutP_tr (s := l) (p := b) (w0 := w0) (I := I) (L := L)
  have hN := fun {L : List HP} => Number_tr (s := cutP l b) (w0 := w0) (I := I) (L := L)
  rw [decide_eq_true h1] at hc
  rw [(num_yes h2).2] at hN
  repeat' (first | ((first | refine WLA.m rfl rfl ?_ ?_ | refine WLA.st rfl ?_ ?_ | refine WLA.x rfl rfl ?_ (fun x => ?_) | refine WLA.x0 rfl ?_ (fun x => ?_)); first | exact sdT | skip) | (refine Stp.go ?_) | (guard_target =~ WLA _ _ _ _ _ (⟨_, .call ⟨.value (.func 74), _, _⟩, _, _, _, _⟩ :: _) _ _; refine WLA.cq rfl rfl (hc) ?_) | (guard_target =~ WLA _ _ _ _ _ (⟨_, .call ⟨.value (.func 75), _, _⟩, _, _, _, _⟩ :: _) _ _; refine WLA.cq rfl rfl (hN) ?_) | (guard_target =~ WLA _ _ _ _ _ (⟨_, .call ⟨.value (.func 50), _, _⟩, _, _, _, _⟩ :: _) _ _; refine WLA.call rfl rfl (must_ok) ?_; rintro ⟨⟩) | (refine WPA.ifT ?_) | (refine WPA.ifF ?_) | ((first | refine WPA.dec ?_); first | refine orL ?_ | refine orR ?_) | ((first | refine WPA.ifBt ?_ ?_ | refine WPA.ifBnf ?_ ?_); assumption) | ((first | refine WPA.ifBnt ?_ ?_ | refine WPA.ifBf ?_ ?_); assumption) | ((first | refine WPA.ifs ?_ ?_ | refine WPA.ifB ?_ ?_) <;> intro hc))
  exact QQ.end_ rfl () rfl fun w h => h
theorem after_no {l b : ByteArray} [h : FindK L PsH P (s, n) L'] (h1 : ¬ (hasP l b ∧ NumOk (cutP l b))) : TrX Tryz.prog 52 #[.pointer (some ⟨P, 0, none⟩), .string l, .string b] (SL w0 I L) (fun _ : Empty => .tuple #[]) (fun _ _ => False) (fun y : { y : Int × Int // y = (n, 3) } => wrV y.1) (fun _ => SL w0 I (PsH P (s, n) :: L')) := by
  refine TrX.at h.out ?_
  refine TrX.intro Tryz.func52 rfl Tryz.ntmps52 rfl ?_
  have hc := fun {L : List HP} => CutP_tr (s := l) (p := b) (w0 := w0) (I := I) (L := L)
  have hN := fun {L : List HP} => Number_tr (s := cutP l b) (w0 := w0) (I := I) (L := L)
  by_cases h2 : hasP l b
  · have h3 : ¬ NumOk (cutP l b) := fun k => h1 ⟨h2, k⟩
    rw [decide_eq_true h2] at hc
    rw [(num_no h3).2] at hN
    repeat' (first | ((first | refine WLA.m rfl rfl ?_ ?_ | refine WLA.st rfl ?_ ?_ | refine WLA.x rfl rfl ?_ (fun x => ?_) | refine WLA.x0 rfl ?_ (fun x => ?_)); first | exact sdT | skip) | (refine Stp.go ?_) | (guard_target =~ WLA _ _ _ _ _ (⟨_, .call ⟨.value (.func 74), _, _⟩, _, _, _, _⟩ :: _) _ _; refine WLA.cq rfl rfl (hc) ?_) | (guard_target =~ WLA _ _ _ _ _ (⟨_, .call ⟨.value (.func 75), _, _⟩, _, _, _, _⟩ :: _) _ _; refine WLA.cq rfl rfl (hN) ?_) | (guard_target =~ WLA _ _ _ _ _ (⟨_, .call ⟨.value (.func 50), _, _⟩, _, _, _, _⟩ :: _) _ _; refine WLA.call rfl rfl (must_ok) ?_; rintro ⟨⟩) | (guard_target =~ WLA _ _ _ _ _ (⟨_, .call ⟨.value (.func 50), _, _⟩, _, _, _, _⟩ :: _) _ _; first | (refine WLA.callX rfl rfl (must_no) (by intro y; refine QQ.thrw ?_; exact QQ.thrown y rfl fun w h => h.to) ?_; rintro ⟨⟩) | (refine WLA.callX0 rfl (must_no) (by intro y; refine QQ.thrw ?_; exact QQ.thrown y rfl fun w h => h.to) ?_; rintro ⟨⟩)) | (refine WPA.ifT ?_) | (refine WPA.ifF ?_) | ((first | refine WPA.dec ?_); first | refine orL ?_ | refine orR ?_) | ((first | refine WPA.ifBt ?_ ?_ | refine WPA.ifBnf ?_ ?_); assumption) | ((first | refine WPA.ifBnt ?_ ?_ | refine WPA.ifBf ?_ ?_); assumption) | ((first | refine WPA.ifs ?_ ?_ | refine WPA.ifB ?_ ?_) <;> intro hc))
  · rw [decide_eq_false h2] at hc
    repeat' (first | ((first | refine WLA.m rfl rfl ?_ ?_ | refine WLA.st rfl ?_ ?_ | refine WLA.x rfl rfl ?_ (fun x => ?_) | refine WLA.x0 rfl ?_ (fun x => ?_)); first | exact sdT | skip) | (refine Stp.go ?_) | (guard_target =~ WLA _ _ _ _ _ (⟨_, .call ⟨.value (.func 74), _, _⟩, _, _, _, _⟩ :: _) _ _; refine WLA.cq rfl rfl (hc) ?_) | (guard_target =~ WLA _ _ _ _ _ (⟨_, .call ⟨.value (.func 50), _, _⟩, _, _, _, _⟩ :: _) _ _; first | (refine WLA.callX rfl rfl (must_no) (by intro y; refine QQ.thrw ?_; exact QQ.thrown y rfl fun w h => h.to) ?_; rintro ⟨⟩) | (refine WLA.callX0 rfl (must_no) (by intro y; refine QQ.thrw ?_; exact QQ.thrown y rfl fun w h => h.to) ?_; rintro ⟨⟩)) | (refine WPA.ifT ?_) | (refine WPA.ifF ?_) | ((first | refine WPA.dec ?_); first | refine orL ?_ | refine orR ?_) | ((first | refine WPA.ifBt ?_ ?_ | refine WPA.ifBnf ?_ ?_); assumption) | ((first | refine WPA.ifBnt ?_ ?_ | refine WPA.ifBf ?_ ?_); assumption) | ((first | refine WPA.ifs ?_ ?_ | refine WPA.ifB ?_ ?_) <;> intro hc))
theorem piece_tr (hsz : s.size ≤ 1000000) : TrP Tryz.prog 77 #[.string s] (SL w0 I L) (.bool (decide (s ≠ ⟨#[]⟩ ∧ ∀ j : Nat, j < s.size → ¬ BlankP (bt s (j : Int))))) := by
  refine TrP.ofD fun u => Tr.intro Tryz.func77 rfl Tryz.ntmps77 rfl ?_
  repeat' (first | ((first | refine WLA.m rfl rfl ?_ ?_ | refine WLA.st rfl ?_ ?_ | refine WLA.x rfl rfl ?_ (fun x => ?_) | refine WLA.x0 rfl ?_ (fun x => ?_)); first | exact sdT | skip) | (refine Stp.go ?_) | (refine WPA.ifT ?_) | (refine WPA.ifF ?_) | ((first | refine WPA.dec ?_); first | refine orL ?_ | refine orR ?_) | ((first | refine WPA.ifBt ?_ ?_ | refine WPA.ifBnf ?_ ?_); assumption) | ((first | refine WPA.ifBnt ?_ ?_ | refine WPA.ifBf ?_ ?_); assumption) | ((first | refine WPA.ifs ?_ ?_ | refine WPA.ifB ?_ ?_) <;> intro hc))
  refine WPA.loopS (σ := Nat) (fun j => [(0, .string s), (3, .int .i64 j)]) (fun j => j ≤ s.size ∧ ∀ i : Nat, i < j → ¬ BlankP (bt s (i : Int))) (fun _ => SLd w0 I L u) (fun j => s.size - j) 0 ⟨rfl, rfl, trivial⟩ ⟨Nat.zero_le _, fun i hi => absurd hi (Nat.not_lt_zero i)⟩ (fun w h => h) ?_
  rintro j ρ ⟨hj, hD⟩
  have hB := fun {L : List HP} => Blank_tr (c := bt s (j : Int)) (w0 := w0) (I := I) (L := L)
  by_cases hlt : j < s.size
  · have hlt' : (j : Int) < s.size := by omega
    have hir : (0 : Int) ≤ j ∧ (j : Int) < s.size := by omega
    by_cases hb : BlankP (bt s (j : Int))
    · rw [decide_eq_true hb] at hB
      rw [decide_eq_false fun k => k.2 j hlt hb]
      repeat' (first | ((first | refine WLA.m rfl rfl ?_ ?_ | refine WLA.st rfl ?_ ?_ | refine WLA.x rfl rfl ?_ (fun x => ?_) | refine WLA.x0 rfl ?_ (fun x => ?_)); first | exact sdT | skip) | (refine Stp.go ?_) | (guard_target =~ WLA _ _ _ _ _ (⟨_, .call ⟨.value (.func 80), _, _⟩, _, _, _, _⟩ :: _) _ _; refine WLA.cq rfl rfl (hB) ?_) | (refine WPA.ifT ?_) | (refine WPA.ifF ?_) | ((first | refine WPA.dec ?_); first | refine orL ?_ | refine orR ?_) | ((first | refine WPA.ifBt ?_ ?_ | refine WPA.ifBnf ?_ ?_); assumption) | ((first | refine WPA.ifBnt ?_ ?_ | refine WPA.ifBf ?_ ?_); assumption) | ((first | refine WPA.ifs ?_ ?_ | refine WPA.ifB ?_ ?_) <;> intro hc))
      exact QQ.end_ rfl () rfl fun w h => h
    · rw [decide_eq_false hb] at hB
      repeat' (first | ((first | refine WLA.m rfl rfl ?_ ?_ | refine WLA.st rfl ?_ ?_ | refine WLA.x rfl rfl ?_ (fun x => ?_) | refine WLA.x0 rfl ?_ (fun x => ?_)); first | exact sdT | skip) | (refine Stp.go ?_) | (guard_target =~ WLA _ _ _ _ _ (⟨_, .call ⟨.value (.func 80), _, _⟩, _, _, _, _⟩ :: _) _ _; refine WLA.cq rfl rfl (hB) ?_) | (refine WPA.ifT ?_) | (refine WPA.ifF ?_) | ((first | refine WPA.dec ?_); first | refine orL ?_ | refine orR ?_) | ((first | refine WPA.ifBt ?_ ?_ | refine WPA.ifBnf ?_ ?_); assumption) | ((first | refine WPA.ifBnt ?_ ?_ | refine WPA.ifBf ?_ ?_); assumption) | ((first | refine WPA.ifs ?_ ?_ | refine WPA.ifB ?_ ?_) <;> intro hc))
      refine QQ.loopS (j + 1) ⟨rfl, rfl, trivial⟩ ⟨hlt, fun i hi => ?_⟩ (by omega) (fun w h => h)
      by_cases e : i = j
      · subst e; exact hb
      · exact hD i (by omega)
  · have hlt' : ¬ (j : Int) < s.size := by omega
    repeat' (first | ((first | refine WLA.m rfl rfl ?_ ?_ | refine WLA.st rfl ?_ ?_ | refine WLA.x rfl rfl ?_ (fun x => ?_) | refine WLA.x0 rfl ?_ (fun x => ?_)); first | exact sdT | skip) | (refine Stp.go ?_) | (refine WPA.ifT ?_) | (refine WPA.ifF ?_) | ((first | refine WPA.dec ?_); first | refine orL ?_ | refine orR ?_) | ((first | refine WPA.ifBt ?_ ?_ | refine WPA.ifBnf ?_ ?_); assumption) | ((first | refine WPA.ifBnt ?_ ?_ | refine WPA.ifBf ?_ ?_); assumption) | ((first | refine WPA.ifs ?_ ?_ | refine WPA.ifB ?_ ?_) <;> intro hc))
    exact QQ.end_ rfl () (congrArg Value.bool (by rw [decide_eq_decide]; exact ⟨fun h => ⟨h, fun i hi => hD i (by omega)⟩, fun h => h.1⟩)) fun w h => h
end
end Go.Proofs.YthkhneimfjaohaaGreatDoor
