/- Texts, words and their numbers: the references. Conditions: none. -/
import Derived.Test.YtlodbajaoadhdaaAd9
namespace Go.Proofs.Ytlodbajaoadhdaa
open Go Go.Fw Go.RowKit
set_option linter.unusedVariables false
set_option linter.unusedSimpArgs false
set_option maxRecDepth 100000
set_option maxHeartbeats 16000000
set_option synthInstance.maxHeartbeats 200000
set_option synthInstance.maxSize 100000
attribute [local irreducible] WPA WLA WDA WDQ WDE QQ seqQ blockQ loopQ fnQ OpP OpT Tr TrP SL SLd OwnS LitS Bk BkE Ob
section
def pos (m i d : Nat) : Nat := (i + d) % m
end
section
/-- Which number a text has: -1: none. -/
def findT : List ByteArray → ByteArray → Int
  | [], _ => -1
  | a :: l, s => if a = s then 0 else if findT l s < 0 then -1 else findT l s + 1
end
section
def putT (l : List ByteArray) (s : ByteArray) : List ByteArray := if findT l s < 0 then l ++ [s] else l
end
section
theorem findT_range : ∀ (l : List ByteArray) (s : ByteArray), -1 ≤ findT l s ∧ findT l s < l.length
  | [], s => by simp [findT]
  | a :: l, s => by
    have := findT_range l s
    simp only [findT, List.length_cons]
    split
    · omega
    · split <;> omega
end
section
theorem putT_len (l : List ByteArray) (s : ByteArray) : l.length ≤ (putT l s).length ∧ (putT l s).length ≤ l.length + 1 := by
  unfold putT; split <;> simp
end
section
theorem findT_split (l : List ByteArray) (s : ByteArray) (i : Nat) (hi : i < l.length) (h0 : findT (l.take i) s < 0) : if l[i] = s then findT l s = i else findT (l.take (i + 1)) s < 0 := by
  induction l generalizing i with
  | nil => simp at hi
  | cons a l ih =>
    cases i with
    | zero => 
      simp only [List.getElem_cons_zero, List.take_succ_cons, List.take_zero, findT]
      by_cases h : a = s <;> simp [h]
    | succ i =>
      simp only [List.take_succ_cons, findT] at h0
      by_cases h : a = s
      · rw [if_pos h] at h0; omega
      · rw [if_neg h] at h0
        have h1 : findT (l.take i) s < 0 := by
          split at h0
          · assumption
          · have := findT_range (l.take i) s; omega
        have hil : i < l.length := by simpa using hi
        have := ih i hil h1
        simp only [List.getElem_cons_succ, List.take_succ_cons, findT, if_neg h]
        by_cases h2 : l[i] = s
        · rw [if_pos h2] at this ⊢
          rw [this, if_neg (by omega)]; push_cast; rfl
        · rw [if_neg h2] at this ⊢
          rw [if_pos this]; omega
end
section
variable {L L' : List HP} {w0 : World} {I : Foot} {T : Nat} {texts : List ByteArray}
theorem rFindS_tr {v : SV} {s : ByteArray} [hr : RdS I L v ByteArray inferInstance texts] (hn : texts.length ≤ 1000000000) : TrP Try.prog 74 #[.slice v.a v.n v.cap, .string s] (SL w0 I L) (.int .i64 (findT texts s)) := by
  refine TrP.ofD fun u => Tr.intro Try.func74 rfl Try.ntmps74 rfl ?_
  repeat' (first | ((first | refine WLA.m rfl rfl ?_ ?_ | refine WLA.st rfl ?_ ?_ | refine WLA.x rfl rfl ?_ (fun x => ?_) | refine WLA.x0 rfl ?_ (fun x => ?_)); first | exact trivial | exact rfl | assumption | omega | (refine ⟨?_, ?_⟩ <;> omega) | (simp only [Room, List.length_set, List.length_append, List.length_cons, List.length_nil, List.length_replicate]; omega) | decide | skip) | (refine Stp.go ?_) | (refine WPA.ifT ?_) | (refine WPA.ifF ?_) | ((first | refine WPA.dec ?_); first | refine .inl ⟨by first | assumption | omega | with_reducible rfl | (refine fun h => h ?_; first | assumption | with_reducible rfl) | (simp only [List.length_append, List.length_cons, List.length_nil, List.length_set] <;> omega) | decide, ?_⟩ | refine .inr ⟨by first | assumption | omega | with_reducible rfl | (refine fun h => h ?_; first | assumption | with_reducible rfl) | (simp only [List.length_append, List.length_cons, List.length_nil, List.length_set] <;> omega) | decide, ?_⟩) | ((first | refine WPA.ifBt ?_ ?_ | refine WPA.ifBnf ?_ ?_); assumption) | ((first | refine WPA.ifBnt ?_ ?_ | refine WPA.ifBf ?_ ?_); assumption) | ((first | refine WPA.ifs ?_ ?_ | refine WPA.ifB ?_ ?_) <;> intro hc))
  refine WPA.loopS (σ := Nat) (fun i => [(0, .slice v.a v.n v.cap), (1, .string s), (5, .int .i64 i)]) (fun i => i ≤ texts.length ∧ findT (texts.take i) s < 0)
    (fun _ => SLd w0 I L u) (fun i => texts.length - i) 0 ⟨rfl, rfl, rfl, trivial⟩ ⟨by omega, by simp [findT]⟩ (fun _ h => h) ?_
  rintro i ρ ⟨hi, hf⟩
  by_cases hlt : i < texts.length
  · have hlt' : (i : Int) < texts.length := by omega
    have hsp := findT_split texts s i hlt hf
    rw [← at_nat texts i hlt] at hsp
    by_cases hc : at_ texts (i : Int) = s
    · rw [if_pos hc] at hsp
      repeat' (first | ((first | refine WLA.m rfl rfl ?_ ?_ | refine WLA.st rfl ?_ ?_ | refine WLA.x rfl rfl ?_ (fun x => ?_) | refine WLA.x0 rfl ?_ (fun x => ?_)); first | exact trivial | exact rfl | assumption | omega | (refine ⟨?_, ?_⟩ <;> omega) | (simp only [Room, List.length_set, List.length_append, List.length_cons, List.length_nil, List.length_replicate]; omega) | decide | skip) | (refine Stp.go ?_) | (refine WPA.ifT ?_) | (refine WPA.ifF ?_) | ((first | refine WPA.dec ?_); first | refine .inl ⟨by first | assumption | omega | with_reducible rfl | (refine fun h => h ?_; first | assumption | with_reducible rfl) | (simp only [List.length_append, List.length_cons, List.length_nil, List.length_set] <;> omega) | decide, ?_⟩ | refine .inr ⟨by first | assumption | omega | with_reducible rfl | (refine fun h => h ?_; first | assumption | with_reducible rfl) | (simp only [List.length_append, List.length_cons, List.length_nil, List.length_set] <;> omega) | decide, ?_⟩) | ((first | refine WPA.ifBt ?_ ?_ | refine WPA.ifBnf ?_ ?_); assumption) | ((first | refine WPA.ifBnt ?_ ?_ | refine WPA.ifBf ?_ ?_); assumption) | ((first | refine WPA.ifs ?_ ?_ | refine WPA.ifB ?_ ?_) <;> intro hc))
      exact QQ.end_ rfl () (by rw [hsp]) (fun _ h => h)
    · rw [if_neg hc] at hsp
      repeat' (first | ((first | refine WLA.m rfl rfl ?_ ?_ | refine WLA.st rfl ?_ ?_ | refine WLA.x rfl rfl ?_ (fun x => ?_) | refine WLA.x0 rfl ?_ (fun x => ?_)); first | exact trivial | exact rfl | assumption | omega | (refine ⟨?_, ?_⟩ <;> omega) | (simp only [Room, List.length_set, List.length_append, List.length_cons, List.length_nil, List.length_replicate]; omega) | decide | skip) | (refine Stp.go ?_) | (refine WPA.ifT ?_) | (refine WPA.ifF ?_) | ((first | refine WPA.dec ?_); first | refine .inl ⟨by first | assumption | omega | with_reducible rfl | (refine fun h => h ?_; first | assumption | with_reducible rfl) | (simp only [List.length_append, List.length_cons, List.length_nil, List.length_set] <;> omega) | decide, ?_⟩ | refine .inr ⟨by first | assumption | omega | with_reducible rfl | (refine fun h => h ?_; first | assumption | with_reducible rfl) | (simp only [List.length_append, List.length_cons, List.length_nil, List.length_set] <;> omega) | decide, ?_⟩) | ((first | refine WPA.ifBt ?_ ?_ | refine WPA.ifBnf ?_ ?_); assumption) | ((first | refine WPA.ifBnt ?_ ?_ | refine WPA.ifBf ?_ ?_); assumption) | ((first | refine WPA.ifs ?_ ?_ | refine WPA.ifB ?_ ?_) <;> intro hc))
      exact QQ.loopS (i + 1) ⟨rfl, rfl, rfl, trivial⟩ ⟨hlt, hsp⟩ (by omega) (fun _ h => h)
  · have hi1 : ¬ (i : Int) < texts.length := by omega
    have e : i = texts.length := by omega
    subst e
    rw [List.take_length] at hf
    have := findT_range texts s
    have e : findT texts s = -1 := by omega
    repeat' (first | ((first | refine WLA.m rfl rfl ?_ ?_ | refine WLA.st rfl ?_ ?_ | refine WLA.x rfl rfl ?_ (fun x => ?_) | refine WLA.x0 rfl ?_ (fun x => ?_)); first | exact trivial | exact rfl | assumption | omega | (refine ⟨?_, ?_⟩ <;> omega) | (simp only [Room, List.length_set, List.length_append, List.length_cons, List.length_nil, List.length_replicate]; omega) | decide | skip) | (refine Stp.go ?_) | (refine WPA.ifT ?_) | (refine WPA.ifF ?_) | ((first | refine WPA.dec ?_); first | refine .inl ⟨by first | assumption | omega | with_reducible rfl | (refine fun h => h ?_; first | assumption | with_reducible rfl) | (simp only [List.length_append, List.length_cons, List.length_nil, List.length_set] <;> omega) | decide, ?_⟩ | refine .inr ⟨by first | assumption | omega | with_reducible rfl | (refine fun h => h ?_; first | assumption | with_reducible rfl) | (simp only [List.length_append, List.length_cons, List.length_nil, List.length_set] <;> omega) | decide, ?_⟩) | ((first | refine WPA.ifBt ?_ ?_ | refine WPA.ifBnf ?_ ?_); assumption) | ((first | refine WPA.ifBnt ?_ ?_ | refine WPA.ifBf ?_ ?_); assumption) | ((first | refine WPA.ifs ?_ ?_ | refine WPA.ifB ?_ ?_) <;> intro hc))
    exact QQ.end_ rfl () (by rw [e]) (fun _ h => h)
end
section
variable {L L' : List HP} {w0 : World} {I : Foot} {T : Nat} {texts : List ByteArray}
/-- The reference's list behind it: the same slice, or a new one. -/
theorem rPutS_tr {v : SV} {s : ByteArray} [hr : FindOwn L v 9 ByteArray inferInstance texts L'] (hn : texts.length ≤ 100000000) : Tr Try.prog 110 #[.slice v.a v.n v.cap, .string s] (SL w0 I L) (fun r : SV => .slice r.a r.n r.cap) (fun r => SL w0 I (OwnS 9 r (putT texts s) :: L')) := by
  refine Tr.at hr.out ?_
  refine Tr.intro Try.func110 rfl Try.ntmps110 rfl ?_
  have hn' : texts.length ≤ 1000000000 := by omega
  by_cases hf : findT texts s < 0
  · have hf' : ¬ 0 ≤ findT texts s := by omega
    have e : putT texts s = texts ++ [s] := by unfold putT; rw [if_pos hf]
    repeat' (first | ((first | refine WLA.m rfl rfl ?_ ?_ | refine WLA.st rfl ?_ ?_ | refine WLA.x rfl rfl ?_ (fun x => ?_) | refine WLA.x0 rfl ?_ (fun x => ?_)); first | exact trivial | exact rfl | assumption | omega | (refine ⟨?_, ?_⟩ <;> omega) | (simp only [Room, List.length_set, List.length_append, List.length_cons, List.length_nil, List.length_replicate]; omega) | decide | skip) | (refine Stp.go ?_) | (guard_target =~ WLA _ _ _ _ _ (⟨_, .call ⟨.value (.func 74), _, _⟩, _, _, _, _⟩ :: _) _ _; refine WLA.cq rfl rfl (rFindS_tr hn') ?_) | (refine WPA.ifT ?_) | (refine WPA.ifF ?_) | ((first | refine WPA.dec ?_); first | refine .inl ⟨by first | assumption | omega | with_reducible rfl | (refine fun h => h ?_; first | assumption | with_reducible rfl) | (simp only [List.length_append, List.length_cons, List.length_nil, List.length_set] <;> omega) | decide, ?_⟩ | refine .inr ⟨by first | assumption | omega | with_reducible rfl | (refine fun h => h ?_; first | assumption | with_reducible rfl) | (simp only [List.length_append, List.length_cons, List.length_nil, List.length_set] <;> omega) | decide, ?_⟩) | ((first | refine WPA.ifBt ?_ ?_ | refine WPA.ifBnf ?_ ?_); assumption) | ((first | refine WPA.ifBnt ?_ ?_ | refine WPA.ifBf ?_ ?_); assumption) | ((first | refine WPA.ifs ?_ ?_ | refine WPA.ifB ?_ ?_) <;> intro hc))
    rw [e]
    exact QQ.end_ rfl _ rfl fun w h => h.to
  · have hf' : 0 ≤ findT texts s := by omega
    have e : putT texts s = texts := by unfold putT; rw [if_neg hf]
    repeat' (first | ((first | refine WLA.m rfl rfl ?_ ?_ | refine WLA.st rfl ?_ ?_ | refine WLA.x rfl rfl ?_ (fun x => ?_) | refine WLA.x0 rfl ?_ (fun x => ?_)); first | exact trivial | exact rfl | assumption | omega | (refine ⟨?_, ?_⟩ <;> omega) | (simp only [Room, List.length_set, List.length_append, List.length_cons, List.length_nil, List.length_replicate]; omega) | decide | skip) | (refine Stp.go ?_) | (guard_target =~ WLA _ _ _ _ _ (⟨_, .call ⟨.value (.func 74), _, _⟩, _, _, _, _⟩ :: _) _ _; refine WLA.cq rfl rfl (rFindS_tr hn') ?_) | (refine WPA.ifT ?_) | (refine WPA.ifF ?_) | ((first | refine WPA.dec ?_); first | refine .inl ⟨by first | assumption | omega | with_reducible rfl | (refine fun h => h ?_; first | assumption | with_reducible rfl) | (simp only [List.length_append, List.length_cons, List.length_nil, List.length_set] <;> omega) | decide, ?_⟩ | refine .inr ⟨by first | assumption | omega | with_reducible rfl | (refine fun h => h ?_; first | assumption | with_reducible rfl) | (simp only [List.length_append, List.length_cons, List.length_nil, List.length_set] <;> omega) | decide, ?_⟩) | ((first | refine WPA.ifBt ?_ ?_ | refine WPA.ifBnf ?_ ?_); assumption) | ((first | refine WPA.ifBnt ?_ ?_ | refine WPA.ifBf ?_ ?_); assumption) | ((first | refine WPA.ifs ?_ ?_ | refine WPA.ifB ?_ ?_) <;> intro hc))
    rw [e]
    exact QQ.end_ rfl v rfl fun w h => h.to
end
section
def BlankP (c : Int) : Prop := c = 9 ∨ c = 11 ∨ c = 12 ∨ c = 13 ∨ c = 32
end
section
instance (c : Int) : Decidable (BlankP c) := inferInstanceAs (Decidable (_ ∨ _))
end
section
def MarkP (s : ByteArray) : Prop := s = ⟨#[60, 115, 62]⟩ ∨ s = ⟨#[60, 47, 115, 62]⟩
end
section
instance (s : ByteArray) : Decidable (MarkP s) := inferInstanceAs (Decidable (_ ∨ _))
end
section
variable {c : Int} {s : ByteArray} {L : List HP} {w0 : World} {I : Foot}
theorem rBlank_tr : TrP Try.prog 112 #[.int .u8 c] (SL w0 I L) (.bool (decide (BlankP c))) := by
  refine TrP.ofD fun u => Tr.intro Try.func112 rfl Try.ntmps112 rfl ?_
  repeat' (first | ((first | refine WLA.m rfl rfl ?_ ?_ | refine WLA.st rfl ?_ ?_ | refine WLA.x rfl rfl ?_ (fun x => ?_) | refine WLA.x0 rfl ?_ (fun x => ?_)); first | exact trivial | exact rfl | assumption | omega | (refine ⟨?_, ?_⟩ <;> omega) | (simp only [Room, List.length_set, List.length_append, List.length_cons, List.length_nil, List.length_replicate]; omega) | decide | skip) | (refine Stp.go ?_) | (refine WPA.ifT ?_) | (refine WPA.ifF ?_) | (refine WLA.no rfl rfl ?_) | ((first | refine WPA.dec ?_ | ((fail_if_success (guard_target =~ WLA _ _ _ _ _ _ (put1 _ _ (.bool true)) _)); (fail_if_success (guard_target =~ WLA _ _ _ _ _ _ (put1 _ _ (.bool false)) _)); refine WLA.dec rfl rfl ?_) | refine WLA.pk ?_); first | refine .inl ⟨by first | assumption | omega | with_reducible rfl | (refine fun h => h ?_; first | assumption | with_reducible rfl) | (simp only [List.length_append, List.length_cons, List.length_nil, List.length_set] <;> omega) | decide, ?_⟩ | refine .inr ⟨by first | assumption | omega | with_reducible rfl | (refine fun h => h ?_; first | assumption | with_reducible rfl) | (simp only [List.length_append, List.length_cons, List.length_nil, List.length_set] <;> omega) | decide, ?_⟩) | ((first | refine WPA.ifBt ?_ ?_ | refine WPA.ifBnf ?_ ?_); assumption) | ((first | refine WPA.ifBnt ?_ ?_ | refine WPA.ifBf ?_ ?_); assumption) | ((first | refine WPA.ifs ?_ ?_ | refine WPA.ifB ?_ ?_) <;> intro hc) | ((fail_if_success (guard_target =~ WLA _ _ _ _ _ _ (put1 _ _ (.bool true)) _)); (fail_if_success (guard_target =~ WLA _ _ _ _ _ _ (put1 _ _ (.bool false)) _)); (first | refine WLA.both rfl rfl ?_ ?_ | refine WLA.bothB rfl rfl ?_ ?_) <;> intro hg))
  all_goals refine QQ.end_ rfl () (congrArg Value.bool ?_) fun w h => h
  all_goals simp [BlankP, *]
end
section
variable {c : Int} {s : ByteArray} {L : List HP} {w0 : World} {I : Foot}
theorem rMark_tr : TrP Try.prog 113 #[.string s] (SL w0 I L) (.bool (decide (MarkP s))) := by
  refine TrP.ofD fun u => Tr.intro Try.func113 rfl Try.ntmps113 rfl ?_
  repeat' (first | ((first | refine WLA.m rfl rfl ?_ ?_ | refine WLA.st rfl ?_ ?_ | refine WLA.x rfl rfl ?_ (fun x => ?_) | refine WLA.x0 rfl ?_ (fun x => ?_)); first | exact trivial | exact rfl | assumption | omega | (refine ⟨?_, ?_⟩ <;> omega) | (simp only [Room, List.length_set, List.length_append, List.length_cons, List.length_nil, List.length_replicate]; omega) | decide | skip) | (refine Stp.go ?_) | (refine WPA.ifT ?_) | (refine WPA.ifF ?_) | (refine WLA.no rfl rfl ?_) | ((first | refine WPA.dec ?_ | ((fail_if_success (guard_target =~ WLA _ _ _ _ _ _ (put1 _ _ (.bool true)) _)); (fail_if_success (guard_target =~ WLA _ _ _ _ _ _ (put1 _ _ (.bool false)) _)); refine WLA.dec rfl rfl ?_) | refine WLA.pk ?_); first | refine .inl ⟨by first | assumption | omega | with_reducible rfl | (refine fun h => h ?_; first | assumption | with_reducible rfl) | (simp only [List.length_append, List.length_cons, List.length_nil, List.length_set] <;> omega) | decide, ?_⟩ | refine .inr ⟨by first | assumption | omega | with_reducible rfl | (refine fun h => h ?_; first | assumption | with_reducible rfl) | (simp only [List.length_append, List.length_cons, List.length_nil, List.length_set] <;> omega) | decide, ?_⟩) | ((first | refine WPA.ifBt ?_ ?_ | refine WPA.ifBnf ?_ ?_); assumption) | ((first | refine WPA.ifBnt ?_ ?_ | refine WPA.ifBf ?_ ?_); assumption) | ((first | refine WPA.ifs ?_ ?_ | refine WPA.ifB ?_ ?_) <;> intro hc) | ((fail_if_success (guard_target =~ WLA _ _ _ _ _ _ (put1 _ _ (.bool true)) _)); (fail_if_success (guard_target =~ WLA _ _ _ _ _ _ (put1 _ _ (.bool false)) _)); (first | refine WLA.both rfl rfl ?_ ?_ | refine WLA.bothB rfl rfl ?_ ?_) <;> intro hg))
  all_goals refine QQ.end_ rfl () (congrArg Value.bool ?_) fun w h => h
  all_goals simp [MarkP, *]
end
section
/-- The pieces of s from i = s.size + 1 - k on, the present one having begun at f. -/
def pcs (s : ByteArray) (f : Nat) : Nat → List ByteArray
  | 0 => []
  | k + 1 => if s.size - k < s.size ∧ ¬ BlankP (bt s (s.size - k : Nat)) then pcs s f k else if f < s.size - k then s.extract f (s.size - k) :: pcs s (s.size - k + 1) k else pcs s (s.size - k + 1) k
end
section
/-- A valid word. -/
def RightP (s : ByteArray) : Prop := (∀ i : Nat, i < s.size → ¬ BlankP (bt s i) ∧ bt s i ≠ 10) ∧ (s ≠ ⟨#[]⟩ ∧ s.size ≤ 255) ∧ ¬ MarkP s
end
section
def wd (p : ByteArray) : List ByteArray := if MarkP p then [] else if 255 < p.size then [⟨#[60, 117, 110, 107, 62]⟩] else [p]
end
section
def wordsL (s : ByteArray) : List ByteArray := (pcs s 0 (s.size + 1)).flatMap wd
end
section
theorem pcs_len (s : ByteArray) : ∀ (k f : Nat), (pcs s f k).length ≤ k
  | 0, f => Nat.le_refl _
  | k + 1, f => by
    unfold pcs
    have h1 := pcs_len s k f
    have h2 := pcs_len s k (s.size - k + 1)
    split
    · omega
    · split
      · rw [List.length_cons]; omega
      · omega
end
section
theorem wd_len (p : ByteArray) : (wd p).length ≤ 1 := by
  unfold wd; split
  · simp
  · split <;> simp
end
section
theorem pcs_skip {s : ByteArray} {f i : Nat} (h : i < s.size) (hb : ¬ BlankP (bt s (i : Nat))) : pcs s f (s.size + 1 - i) = pcs s f (s.size + 1 - (i + 1)) := by
  have ek : s.size + 1 - i = (s.size - i) + 1 := by omega
  have ei : s.size - (s.size - i) = i := by omega
  rw [ek, pcs, ei, if_pos ⟨h, hb⟩]
  congr 1; omega
end
section
theorem pcs_end {s : ByteArray} {f i : Nat} (h : i ≤ s.size) (hb : i < s.size → BlankP (bt s (i : Nat))) (hf : f ≤ i) : pcs s f (s.size + 1 - i) = if f < i then s.extract f i :: pcs s (i + 1) (s.size + 1 - (i + 1)) else pcs s (i + 1) (s.size + 1 - (i + 1)) := by
  have ek : s.size + 1 - i = (s.size - i) + 1 := by omega
  have ei : s.size - (s.size - i) = i := by omega
  have e3 : s.size + 1 - (i + 1) = s.size - i := by omega
  rw [ek, pcs, ei, if_neg (fun h => h.2 (hb h.1)), e3]
end
section
theorem mark_small {p : ByteArray} (h : MarkP p) : p.size ≤ 255 := by
  rcases h with rfl | rfl <;> decide
end
section
/-- Where, the words so far, their slice. -/
structure RW where
  i : Nat
  out : List ByteArray
  r : SV
end
section
theorem rWords_tr {s : ByteArray} {L : List HP} (w0 : World) (I : Foot) (hs : s.size ≤ 1000000) : Tr Try.prog 124 #[.string s] (SL w0 I L) (fun r : SV => .slice r.a r.n r.cap) (fun r => SL w0 I (OwnS 9 r (wordsL s) :: L)) := by
  refine Tr.intro Try.func124 rfl Try.ntmps124 rfl ?_
  repeat' (first | ((first | refine WLA.m rfl rfl ?_ ?_ | refine WLA.st rfl ?_ ?_ | refine WLA.x rfl rfl ?_ (fun x => ?_) | refine WLA.x0 rfl ?_ (fun x => ?_)); first | exact trivial | exact rfl | assumption | omega | (refine ⟨?_, ?_⟩ <;> omega) | (simp only [Room, List.length_set, List.length_append, List.length_cons, List.length_nil, List.length_replicate]; omega) | decide | skip) | (refine Stp.go ?_) | (refine WPA.ifT ?_) | (refine WPA.ifF ?_) | ((first | refine WPA.dec ?_); first | refine .inl ⟨by first | assumption | omega | with_reducible rfl | (refine fun h => h ?_; first | assumption | with_reducible rfl) | (simp only [List.length_append, List.length_cons, List.length_nil, List.length_set] <;> omega) | decide, ?_⟩ | refine .inr ⟨by first | assumption | omega | with_reducible rfl | (refine fun h => h ?_; first | assumption | with_reducible rfl) | (simp only [List.length_append, List.length_cons, List.length_nil, List.length_set] <;> omega) | decide, ?_⟩) | ((first | refine WPA.ifBt ?_ ?_ | refine WPA.ifBnf ?_ ?_); assumption) | ((first | refine WPA.ifBnt ?_ ?_ | refine WPA.ifBf ?_ ?_); assumption) | ((first | refine WPA.ifs ?_ ?_ | refine WPA.ifB ?_ ?_) <;> intro hc))
  refine WPA.loopS (σ := RW) (fun x => [(0, .string s), (3, .slice x.r.a x.r.n x.r.cap), (4, .int .i64 x.i)]) (fun x => x.i ≤ s.size ∧ x.out ++ (pcs s x.i (s.size + 1 - x.i)).flatMap wd = wordsL s ∧ x.out.length ≤ x.i)
    (fun x => SL w0 I (OwnS 9 x.r x.out :: L)) (fun x => s.size - x.i) ⟨0, [], SV.nil⟩ ⟨rfl, rfl, rfl, trivial⟩ ⟨Nat.zero_le _, rfl, Nat.le_refl _⟩ (fun w h => h.to) ?_
  rintro ⟨i, out, r⟩ ρ ⟨hi, hC, ho⟩
  dsimp only at hi hC ho ⊢
  by_cases hlt : i < s.size
  · have hlt' : (i : Int) < s.size := by omega
    by_cases hb : BlankP (bt s (i : Nat))
    · have hd : decide (BlankP (bt s (i : Nat))) = true := decide_eq_true hb
      repeat' (first | ((first | refine WLA.m rfl rfl ?_ ?_ | refine WLA.st rfl ?_ ?_ | refine WLA.x rfl rfl ?_ (fun x => ?_) | refine WLA.x0 rfl ?_ (fun x => ?_)); first | exact trivial | exact rfl | assumption | omega | (refine ⟨?_, ?_⟩ <;> omega) | (simp only [Room, List.length_set, List.length_append, List.length_cons, List.length_nil, List.length_replicate]; omega) | decide | skip) | (refine Stp.go ?_) | (guard_target =~ WLA _ _ _ _ _ (⟨_, .call ⟨.value (.func 112), _, _⟩, _, _, _, _⟩ :: _) _ _; refine WLA.cq rfl rfl (rBlank_tr) ?_) | (refine WPA.ifT ?_) | (refine WPA.ifF ?_) | ((first | refine WPA.dec ?_); first | refine .inl ⟨by first | assumption | omega | with_reducible rfl | (refine fun h => h ?_; first | assumption | with_reducible rfl) | (simp only [List.length_append, List.length_cons, List.length_nil, List.length_set] <;> omega) | decide, ?_⟩ | refine .inr ⟨by first | assumption | omega | with_reducible rfl | (refine fun h => h ?_; first | assumption | with_reducible rfl) | (simp only [List.length_append, List.length_cons, List.length_nil, List.length_set] <;> omega) | decide, ?_⟩) | ((first | refine WPA.ifBt ?_ ?_ | refine WPA.ifBnf ?_ ?_); assumption) | ((first | refine WPA.ifBnt ?_ ?_ | refine WPA.ifBf ?_ ?_); assumption) | ((first | refine WPA.ifs ?_ ?_ | refine WPA.ifB ?_ ?_) <;> intro hc))
      rw [pcs_end hi (fun _ => hb) (Nat.le_refl _), if_neg (by omega)] at hC
      exact QQ.loopS ⟨i + 1, out, r⟩ ⟨rfl, rfl, rfl, trivial⟩ ⟨hlt, hC, by dsimp only; omega⟩ (by dsimp only; omega) (fun w h => h.to)
    · have hd : decide (BlankP (bt s (i : Nat))) = false := decide_eq_false hb
      repeat' (first | ((first | refine WLA.m rfl rfl ?_ ?_ | refine WLA.st rfl ?_ ?_ | refine WLA.x rfl rfl ?_ (fun x => ?_) | refine WLA.x0 rfl ?_ (fun x => ?_)); first | exact trivial | exact rfl | assumption | omega | (refine ⟨?_, ?_⟩ <;> omega) | (simp only [Room, List.length_set, List.length_append, List.length_cons, List.length_nil, List.length_replicate]; omega) | decide | skip) | (refine Stp.go ?_) | (guard_target =~ WLA _ _ _ _ _ (⟨_, .call ⟨.value (.func 112), _, _⟩, _, _, _, _⟩ :: _) _ _; refine WLA.cq rfl rfl (rBlank_tr) ?_) | (refine WPA.ifT ?_) | (refine WPA.ifF ?_) | ((first | refine WPA.dec ?_); first | refine .inl ⟨by first | assumption | omega | with_reducible rfl | (refine fun h => h ?_; first | assumption | with_reducible rfl) | (simp only [List.length_append, List.length_cons, List.length_nil, List.length_set] <;> omega) | decide, ?_⟩ | refine .inr ⟨by first | assumption | omega | with_reducible rfl | (refine fun h => h ?_; first | assumption | with_reducible rfl) | (simp only [List.length_append, List.length_cons, List.length_nil, List.length_set] <;> omega) | decide, ?_⟩) | ((first | refine WPA.ifBt ?_ ?_ | refine WPA.ifBnf ?_ ?_); assumption) | ((first | refine WPA.ifBnt ?_ ?_ | refine WPA.ifBf ?_ ?_); assumption) | ((first | refine WPA.ifs ?_ ?_ | refine WPA.ifB ?_ ?_) <;> intro hc))
      refine WPA.loopS (σ := Nat) (fun n => [(0, .string s), (3, .slice r.a r.n r.cap), (4, .int .i64 i), (5, .int .i64 n)]) (fun n => i + n ≤ s.size ∧ pcs s i (s.size + 1 - i) = pcs s i (s.size + 1 - (i + n)))
        (fun n => SL w0 I (OwnS 9 r out :: L)) (fun n => s.size - (i + n)) 0 ⟨rfl, rfl, rfl, rfl, trivial⟩ ⟨by omega, rfl⟩ (fun w h => h.to) ?_
      rintro n ρ2 ⟨hn, hp⟩
      have hcast : ((i + n : Nat) : Int) = (i : Int) + n := by omega
      by_cases hw : i + n < s.size ∧ ¬ BlankP (bt s ((i + n : Nat) : Int))
      · have h1 : (n : Int) < s.size - i := by omega
        have h2 := hw.2
        rw [hcast] at h2
        repeat' (first | ((first | refine WLA.m rfl rfl ?_ ?_ | refine WLA.st rfl ?_ ?_ | refine WLA.x rfl rfl ?_ (fun x => ?_) | refine WLA.x0 rfl ?_ (fun x => ?_)); first | exact trivial | exact rfl | assumption | omega | (refine ⟨?_, ?_⟩ <;> omega) | (simp only [Room, List.length_set, List.length_append, List.length_cons, List.length_nil, List.length_replicate]; omega) | decide | skip) | (refine Stp.go ?_) | (guard_target =~ WLA _ _ _ _ _ (⟨_, .call ⟨.value (.func 112), _, _⟩, _, _, _, _⟩ :: _) _ _; refine WLA.cq rfl rfl (rBlank_tr) ?_) | (refine WPA.ifT ?_) | (refine WPA.ifF ?_) | (refine WLA.no rfl rfl ?_) | ((first | refine WPA.dec ?_ | ((fail_if_success (guard_target =~ WLA _ _ _ _ _ _ (put1 _ _ (.bool true)) _)); (fail_if_success (guard_target =~ WLA _ _ _ _ _ _ (put1 _ _ (.bool false)) _)); refine WLA.dec rfl rfl ?_) | refine WLA.pk ?_); first | refine .inl ⟨by first | assumption | omega | with_reducible rfl | (refine fun h => h ?_; first | assumption | with_reducible rfl) | (simp only [List.length_append, List.length_cons, List.length_nil, List.length_set] <;> omega) | decide, ?_⟩ | refine .inr ⟨by first | assumption | omega | with_reducible rfl | (refine fun h => h ?_; first | assumption | with_reducible rfl) | (simp only [List.length_append, List.length_cons, List.length_nil, List.length_set] <;> omega) | decide, ?_⟩) | ((first | refine WPA.ifBt ?_ ?_ | refine WPA.ifBnf ?_ ?_); assumption) | ((first | refine WPA.ifBnt ?_ ?_ | refine WPA.ifBf ?_ ?_); assumption) | ((first | refine WPA.ifs ?_ ?_ | refine WPA.ifB ?_ ?_) <;> intro hc) | ((fail_if_success (guard_target =~ WLA _ _ _ _ _ _ (put1 _ _ (.bool true)) _)); (fail_if_success (guard_target =~ WLA _ _ _ _ _ _ (put1 _ _ (.bool false)) _)); (first | refine WLA.both rfl rfl ?_ ?_ | refine WLA.bothB rfl rfl ?_ ?_) <;> intro hg))
        exact QQ.loopS (n + 1) ⟨rfl, rfl, rfl, rfl, trivial⟩ ⟨by omega, by rw [hp, pcs_skip hw.1 hw.2]; rfl⟩ (by omega) (fun w h => h)
      · have hbl : i + n < s.size → BlankP (bt s ((i + n : Nat) : Int)) := fun h => Classical.byContradiction fun h2 => hw ⟨h, h2⟩
        have hn1 : 1 ≤ n := by
          rcases Nat.eq_zero_or_pos n with h0 | h0
          · subst h0; exact absurd ⟨hlt, hb⟩ hw
          · exact h0
        have hr : pcs s (i + n) (s.size + 1 - (i + n)) = pcs s (i + n + 1) (s.size + 1 - (i + n + 1)) := by rw [pcs_end hn hbl (Nat.le_refl _), if_neg (by omega)]
        rw [hp, pcs_end hn hbl (by omega), if_pos (by omega), ← hr, List.flatMap_cons] at hC
        have hsz : (s.extract i (i + n)).size = n := by simp; omega
        have hwl := wd_len (s.extract i (i + n))
        have done : ∀ (r' : SV) (ρ' : Env) (os : List ByteArray), os = out ++ wd (s.extract i (i + n)) → (⟨i + n, os, r'⟩ : RW).i ≤ s.size ∧ (⟨i + n, os, r'⟩ : RW).out ++ (pcs s (⟨i + n, os, r'⟩ : RW).i (s.size + 1 - (⟨i + n, os, r'⟩ : RW).i)).flatMap wd = wordsL s ∧ (⟨i + n, os, r'⟩ : RW).out.length ≤ (⟨i + n, os, r'⟩ : RW).i := by
          intro r' ρ' os e
          subst e
          exact ⟨hn, by dsimp only; rw [List.append_assoc]; exact hC, by dsimp only; rw [List.length_append]; omega⟩
        by_cases hA : i + n < s.size
        case' pos =>
          have h1 : (n : Int) < s.size - i := by omega
          have h2 := hbl hA
          rw [hcast] at h2
          have h3 : ¬ ¬ BlankP (bt s ((i : Int) + n)) := fun h => h h2
        case' neg =>
          have h1 : ¬ (n : Int) < s.size - i := by omega
        all_goals
          repeat' ((fail_if_success (guard_target =~ WPA _ _ _ (.region 10 _ _) _ _ _)); first | ((first | refine WLA.m rfl rfl ?_ ?_ | refine WLA.st rfl ?_ ?_ | refine WLA.x rfl rfl ?_ (fun x => ?_) | refine WLA.x0 rfl ?_ (fun x => ?_)); first | exact trivial | exact rfl | assumption | omega | (refine ⟨?_, ?_⟩ <;> omega) | (simp only [Room, List.length_set, List.length_append, List.length_cons, List.length_nil, List.length_replicate]; omega) | decide | skip) | (refine Stp.go ?_) | (guard_target =~ WLA _ _ _ _ _ (⟨_, .call ⟨.value (.func 112), _, _⟩, _, _, _, _⟩ :: _) _ _; refine WLA.cq rfl rfl (rBlank_tr) ?_) | (refine WPA.ifT ?_) | (refine WPA.ifF ?_) | (refine WLA.no rfl rfl ?_) | ((first | refine WPA.dec ?_ | ((fail_if_success (guard_target =~ WLA _ _ _ _ _ _ (put1 _ _ (.bool true)) _)); (fail_if_success (guard_target =~ WLA _ _ _ _ _ _ (put1 _ _ (.bool false)) _)); refine WLA.dec rfl rfl ?_) | refine WLA.pk ?_); first | refine .inl ⟨by first | assumption | omega | with_reducible rfl | (refine fun h => h ?_; first | assumption | with_reducible rfl) | (simp only [List.length_append, List.length_cons, List.length_nil, List.length_set] <;> omega) | decide, ?_⟩ | refine .inr ⟨by first | assumption | omega | with_reducible rfl | (refine fun h => h ?_; first | assumption | with_reducible rfl) | (simp only [List.length_append, List.length_cons, List.length_nil, List.length_set] <;> omega) | decide, ?_⟩) | ((first | refine WPA.ifBt ?_ ?_ | refine WPA.ifBnf ?_ ?_); assumption) | ((first | refine WPA.ifBnt ?_ ?_ | refine WPA.ifBf ?_ ?_); assumption) | ((first | refine WPA.ifs ?_ ?_ | refine WPA.ifB ?_ ?_) <;> intro hc) | ((fail_if_success (guard_target =~ WLA _ _ _ _ _ _ (put1 _ _ (.bool true)) _)); (fail_if_success (guard_target =~ WLA _ _ _ _ _ _ (put1 _ _ (.bool false)) _)); (first | refine WLA.both rfl rfl ?_ ?_ | refine WLA.bothB rfl rfl ?_ ?_) <;> intro hg))
        all_goals
          generalize hpp : s.extract (i : Int).toNat ((i : Int) + n).toNat = p
          have hpe : s.extract i (i + n) = p := hpp
          rw [hpe] at hsz done
          by_cases hbig : (255 : Int) < n
          case' pos =>
            have hwd : wd p = [⟨#[60, 117, 110, 107, 62]⟩] := by unfold wd; rw [if_neg (fun h => by have := mark_small h; omega), if_pos (by omega)]
            have hd2 : decide (MarkP ⟨#[60, 117, 110, 107, 62]⟩) = false := by decide
          case' neg =>
            by_cases hm : MarkP p
            case' pos =>
              have hwd : wd p = [] := if_pos hm
              have hd2 : decide (MarkP p) = true := decide_eq_true hm
            case' neg =>
              have hwd : wd p = [p] := by unfold wd; rw [if_neg hm, if_neg (by omega)]
              have hd2 : decide (MarkP p) = false := decide_eq_false hm
          all_goals
            rw [hwd] at done
            repeat' (first | ((first | refine WLA.m rfl rfl ?_ ?_ | refine WLA.st rfl ?_ ?_ | refine WLA.x rfl rfl ?_ (fun x => ?_) | refine WLA.x0 rfl ?_ (fun x => ?_)); first | exact trivial | exact rfl | assumption | omega | (refine ⟨?_, ?_⟩ <;> omega) | (simp only [Room, List.length_set, List.length_append, List.length_cons, List.length_nil, List.length_replicate]; omega) | decide | skip) | (refine Stp.go ?_) | (guard_target =~ WLA _ _ _ _ _ (⟨_, .call ⟨.value (.func 113), _, _⟩, _, _, _, _⟩ :: _) _ _; refine WLA.cq rfl rfl (rMark_tr) ?_) | (refine WPA.ifT ?_) | (refine WPA.ifF ?_) | (refine WLA.no rfl rfl ?_) | ((first | refine WPA.dec ?_ | ((fail_if_success (guard_target =~ WLA _ _ _ _ _ _ (put1 _ _ (.bool true)) _)); (fail_if_success (guard_target =~ WLA _ _ _ _ _ _ (put1 _ _ (.bool false)) _)); refine WLA.dec rfl rfl ?_) | refine WLA.pk ?_); first | refine .inl ⟨by first | assumption | omega | with_reducible rfl | (refine fun h => h ?_; first | assumption | with_reducible rfl) | (simp only [List.length_append, List.length_cons, List.length_nil, List.length_set] <;> omega) | decide, ?_⟩ | refine .inr ⟨by first | assumption | omega | with_reducible rfl | (refine fun h => h ?_; first | assumption | with_reducible rfl) | (simp only [List.length_append, List.length_cons, List.length_nil, List.length_set] <;> omega) | decide, ?_⟩) | ((first | refine WPA.ifBt ?_ ?_ | refine WPA.ifBnf ?_ ?_); assumption) | ((first | refine WPA.ifBnt ?_ ?_ | refine WPA.ifBf ?_ ?_); assumption) | ((first | refine WPA.ifs ?_ ?_ | refine WPA.ifB ?_ ?_) <;> intro hc) | ((fail_if_success (guard_target =~ WLA _ _ _ _ _ _ (put1 _ _ (.bool true)) _)); (fail_if_success (guard_target =~ WLA _ _ _ _ _ _ (put1 _ _ (.bool false)) _)); (first | refine WLA.both rfl rfl ?_ ?_ | refine WLA.bothB rfl rfl ?_ ?_) <;> intro hg))
        all_goals first
          | exact QQ.loopS ⟨i + n, out ++ [p], x⟩ ⟨rfl, rfl, rfl, trivial⟩ (done x ρ _ rfl) (by dsimp only; omega) (fun w h => h.to)
          | exact QQ.loopS ⟨i + n, out ++ [⟨#[60, 117, 110, 107, 62]⟩], x⟩ ⟨rfl, rfl, rfl, trivial⟩ (done x ρ _ rfl) (by dsimp only; omega) (fun w h => h.to)
          | exact QQ.loopS ⟨i + n, out, r⟩ ⟨rfl, rfl, rfl, trivial⟩ (done r ρ _ (by simp)) (by dsimp only; omega) (fun w h => h.to)
  · have hlt' : ¬ (i : Int) < s.size := by omega
    have e : i = s.size := by omega
    subst e
    rw [pcs_end hi (fun h => absurd h (by omega)) (Nat.le_refl _), if_neg (by omega), Nat.sub_self, pcs, List.flatMap_nil, List.append_nil] at hC
    subst hC
    repeat' (first | ((first | refine WLA.m rfl rfl ?_ ?_ | refine WLA.st rfl ?_ ?_ | refine WLA.x rfl rfl ?_ (fun x => ?_) | refine WLA.x0 rfl ?_ (fun x => ?_)); first | exact trivial | exact rfl | assumption | omega | (refine ⟨?_, ?_⟩ <;> omega) | (simp only [Room, List.length_set, List.length_append, List.length_cons, List.length_nil, List.length_replicate]; omega) | decide | skip) | (refine Stp.go ?_) | (refine WPA.ifT ?_) | (refine WPA.ifF ?_) | (refine WLA.no rfl rfl ?_) | ((first | refine WPA.dec ?_ | ((fail_if_success (guard_target =~ WLA _ _ _ _ _ _ (put1 _ _ (.bool true)) _)); (fail_if_success (guard_target =~ WLA _ _ _ _ _ _ (put1 _ _ (.bool false)) _)); refine WLA.dec rfl rfl ?_) | refine WLA.pk ?_); first | refine .inl ⟨by first | assumption | omega | with_reducible rfl | (refine fun h => h ?_; first | assumption | with_reducible rfl) | (simp only [List.length_append, List.length_cons, List.length_nil, List.length_set] <;> omega) | decide, ?_⟩ | refine .inr ⟨by first | assumption | omega | with_reducible rfl | (refine fun h => h ?_; first | assumption | with_reducible rfl) | (simp only [List.length_append, List.length_cons, List.length_nil, List.length_set] <;> omega) | decide, ?_⟩) | ((first | refine WPA.ifBt ?_ ?_ | refine WPA.ifBnf ?_ ?_); assumption) | ((first | refine WPA.ifBnt ?_ ?_ | refine WPA.ifBf ?_ ?_); assumption) | ((first | refine WPA.ifs ?_ ?_ | refine WPA.ifB ?_ ?_) <;> intro hc) | ((fail_if_success (guard_target =~ WLA _ _ _ _ _ _ (put1 _ _ (.bool true)) _)); (fail_if_success (guard_target =~ WLA _ _ _ _ _ _ (put1 _ _ (.bool false)) _)); (first | refine WLA.both rfl rfl ?_ ?_ | refine WLA.bothB rfl rfl ?_ ?_) <;> intro hg))
    exact QQ.end_ rfl r rfl fun w h => h
end
section
/-- The lines of s from i = s.size - k on, the present one having begun at f. -/
def lns (s : ByteArray) (f : Nat) : Nat → List ByteArray
  | 0 => [s.extract f s.size]
  | k + 1 => if bt s (s.size - (k + 1) : Nat) = 10 then s.extract f (s.size - (k + 1)) :: lns s (s.size - (k + 1) + 1) k else lns s f k
end
section
def linesL (s : ByteArray) : List ByteArray := lns s 0 s.size
end
section
theorem lns_at {s : ByteArray} {f i : Nat} (h : i < s.size) : lns s f (s.size - i) = if bt s (i : Nat) = 10 then s.extract f i :: lns s (i + 1) (s.size - (i + 1)) else lns s f (s.size - (i + 1)) := by
  have ek : s.size - i = (s.size - (i + 1)) + 1 := by omega
  have ei : s.size - (s.size - (i + 1) + 1) = i := by omega
  rw [ek, lns, ei]
end
section
/-- Where, where the line began, the lines so far, their slice. -/
structure RL where
  i : Nat
  f : Nat
  out : List ByteArray
  r : SV
end
section
theorem rLines_tr {s : ByteArray} {L : List HP} (w0 : World) (I : Foot) (hs : s.size ≤ 1000000) : Tr Try.prog 123 #[.string s] (SL w0 I L) (fun r : SV => .slice r.a r.n r.cap) (fun r => SL w0 I (OwnS 9 r (linesL s) :: L)) := by
  refine Tr.intro Try.func123 rfl Try.ntmps123 rfl ?_
  repeat' (first | ((first | refine WLA.m rfl rfl ?_ ?_ | refine WLA.st rfl ?_ ?_ | refine WLA.x rfl rfl ?_ (fun x => ?_) | refine WLA.x0 rfl ?_ (fun x => ?_)); first | exact trivial | exact rfl | assumption | omega | (refine ⟨?_, ?_⟩ <;> omega) | (simp only [Room, List.length_set, List.length_append, List.length_cons, List.length_nil, List.length_replicate]; omega) | decide | skip) | (refine Stp.go ?_) | (refine WPA.ifT ?_) | (refine WPA.ifF ?_) | ((first | refine WPA.dec ?_); first | refine .inl ⟨by first | assumption | omega | with_reducible rfl | (refine fun h => h ?_; first | assumption | with_reducible rfl) | (simp only [List.length_append, List.length_cons, List.length_nil, List.length_set] <;> omega) | decide, ?_⟩ | refine .inr ⟨by first | assumption | omega | with_reducible rfl | (refine fun h => h ?_; first | assumption | with_reducible rfl) | (simp only [List.length_append, List.length_cons, List.length_nil, List.length_set] <;> omega) | decide, ?_⟩) | ((first | refine WPA.ifBt ?_ ?_ | refine WPA.ifBnf ?_ ?_); assumption) | ((first | refine WPA.ifBnt ?_ ?_ | refine WPA.ifBf ?_ ?_); assumption) | ((first | refine WPA.ifs ?_ ?_ | refine WPA.ifB ?_ ?_) <;> intro hc))
  refine WPA.loopS (σ := RL) (fun x => [(0, .string s), (3, .slice x.r.a x.r.n x.r.cap), (4, .int .i64 x.f), (5, .int .i64 x.i)]) (fun x => (x.i ≤ s.size ∧ x.f ≤ x.i) ∧ x.out ++ lns s x.f (s.size - x.i) = linesL s ∧ x.out.length ≤ x.i)
    (fun x => SL w0 I (OwnS 9 x.r x.out :: L)) (fun x => s.size - x.i) ⟨0, 0, [], SV.nil⟩ ⟨rfl, rfl, rfl, rfl, trivial⟩ ⟨⟨Nat.zero_le _, Nat.le_refl _⟩, rfl, Nat.le_refl _⟩ (fun w h => h.to) ?_
  rintro ⟨i, f, out, r⟩ ρ ⟨⟨hi, hf⟩, hC, ho⟩
  dsimp only at hi hf hC ho ⊢
  by_cases hlt : i < s.size
  · have hlt' : (i : Int) < s.size := by omega
    rw [lns_at hlt] at hC
    by_cases hb : bt s (i : Nat) = 10
    · rw [if_pos hb] at hC
      repeat' (first | ((first | refine WLA.m rfl rfl ?_ ?_ | refine WLA.st rfl ?_ ?_ | refine WLA.x rfl rfl ?_ (fun x => ?_) | refine WLA.x0 rfl ?_ (fun x => ?_)); first | exact trivial | exact rfl | assumption | omega | (refine ⟨?_, ?_⟩ <;> omega) | (simp only [Room, List.length_set, List.length_append, List.length_cons, List.length_nil, List.length_replicate]; omega) | decide | skip) | (refine Stp.go ?_) | (refine WPA.ifT ?_) | (refine WPA.ifF ?_) | ((first | refine WPA.dec ?_); first | refine .inl ⟨by first | assumption | omega | with_reducible rfl | (refine fun h => h ?_; first | assumption | with_reducible rfl) | (simp only [List.length_append, List.length_cons, List.length_nil, List.length_set] <;> omega) | decide, ?_⟩ | refine .inr ⟨by first | assumption | omega | with_reducible rfl | (refine fun h => h ?_; first | assumption | with_reducible rfl) | (simp only [List.length_append, List.length_cons, List.length_nil, List.length_set] <;> omega) | decide, ?_⟩) | ((first | refine WPA.ifBt ?_ ?_ | refine WPA.ifBnf ?_ ?_); assumption) | ((first | refine WPA.ifBnt ?_ ?_ | refine WPA.ifBf ?_ ?_); assumption) | ((first | refine WPA.ifs ?_ ?_ | refine WPA.ifB ?_ ?_) <;> intro hc))
      exact QQ.loopS ⟨i + 1, i + 1, out ++ [s.extract (f : Int).toNat (i : Int).toNat], x⟩ ⟨rfl, rfl, rfl, rfl, trivial⟩ ⟨⟨hlt, Nat.le_refl _⟩, by dsimp only; rw [List.append_assoc]; exact hC, by dsimp only; rw [List.length_append, List.length_singleton]; omega⟩ (by dsimp only; omega) (fun w h => h.to)
    · rw [if_neg hb] at hC
      repeat' (first | ((first | refine WLA.m rfl rfl ?_ ?_ | refine WLA.st rfl ?_ ?_ | refine WLA.x rfl rfl ?_ (fun x => ?_) | refine WLA.x0 rfl ?_ (fun x => ?_)); first | exact trivial | exact rfl | assumption | omega | (refine ⟨?_, ?_⟩ <;> omega) | (simp only [Room, List.length_set, List.length_append, List.length_cons, List.length_nil, List.length_replicate]; omega) | decide | skip) | (refine Stp.go ?_) | (refine WPA.ifT ?_) | (refine WPA.ifF ?_) | ((first | refine WPA.dec ?_); first | refine .inl ⟨by first | assumption | omega | with_reducible rfl | (refine fun h => h ?_; first | assumption | with_reducible rfl) | (simp only [List.length_append, List.length_cons, List.length_nil, List.length_set] <;> omega) | decide, ?_⟩ | refine .inr ⟨by first | assumption | omega | with_reducible rfl | (refine fun h => h ?_; first | assumption | with_reducible rfl) | (simp only [List.length_append, List.length_cons, List.length_nil, List.length_set] <;> omega) | decide, ?_⟩) | ((first | refine WPA.ifBt ?_ ?_ | refine WPA.ifBnf ?_ ?_); assumption) | ((first | refine WPA.ifBnt ?_ ?_ | refine WPA.ifBf ?_ ?_); assumption) | ((first | refine WPA.ifs ?_ ?_ | refine WPA.ifB ?_ ?_) <;> intro hc))
      exact QQ.loopS ⟨i + 1, f, out, r⟩ ⟨rfl, rfl, rfl, rfl, trivial⟩ ⟨⟨hlt, by dsimp only; omega⟩, hC, by dsimp only; omega⟩ (by dsimp only; omega) (fun w h => h.to)
  · have hlt' : ¬ (i : Int) < s.size := by omega
    have e : i = s.size := by omega
    subst e
    rw [Nat.sub_self, lns] at hC
    repeat' (first | ((first | refine WLA.m rfl rfl ?_ ?_ | refine WDQ.m rfl rfl ?_ ?_ | refine WDP.m rfl rfl ?_ ?_ | refine WLA.st rfl ?_ ?_ | refine WLA.x rfl rfl ?_ (fun x => ?_) | refine WLA.x0 rfl ?_ (fun x => ?_) | refine WDW.x rfl rfl ?_ (fun x => ?_) | refine WDW.st rfl ?_ ?_); first | exact trivial | exact rfl | assumption | omega | (refine ⟨?_, ?_⟩ <;> omega) | (simp only [Room, List.length_set, List.length_append, List.length_cons, List.length_nil, List.length_replicate]; omega) | decide | skip) | (refine Stp.go ?_) | (refine WPA.ifT ?_) | (refine WPA.ifF ?_) | ((first | refine WPA.dec ?_); first | refine .inl ⟨by first | assumption | omega | with_reducible rfl | (refine fun h => h ?_; first | assumption | with_reducible rfl) | (simp only [List.length_append, List.length_cons, List.length_nil, List.length_set] <;> omega) | decide, ?_⟩ | refine .inr ⟨by first | assumption | omega | with_reducible rfl | (refine fun h => h ?_; first | assumption | with_reducible rfl) | (simp only [List.length_append, List.length_cons, List.length_nil, List.length_set] <;> omega) | decide, ?_⟩) | ((first | refine WPA.ifBt ?_ ?_ | refine WPA.ifBnf ?_ ?_); assumption) | ((first | refine WPA.ifBnt ?_ ?_ | refine WPA.ifBf ?_ ?_); assumption) | ((first | refine WPA.ifs ?_ ?_ | refine WPA.ifB ?_ ?_) <;> intro hc) | (guard_target =~ WPA _ _ _ (.region 9 _ true) _ _ _; refine WPA.drawT 7 (.p 1 (.p 3 (.p 4 (.p 5 (.b false 0 (.b true 2 (.e 6 .fin) false 6 (.w 2 .fin)) false 6 (.e 0 (.w 2 .fin))))))) mixed ?_ ?_; kernel_rfl) | (refine WDA.finish (tl := [⟨_, _, _, _, _, _⟩, ⟨_, _, _, _, _, _⟩]) rfl ?_) | (refine WDQ.see rfl ?_) | (refine WDP.see rfl ?_) | (refine WDW.see rfl ?_) | (first | (refine WDA.two rfl rfl ?_ ?_) | (refine WDA.twoL rfl rfl ?_ ?_) | (refine WDA.twoR rfl rfl ?_ ?_) | (refine WDA.twoW rfl rfl ?_ ?_)) | (refine WDE.see rfl ?_) | (refine WDE.alloc rfl rfl (fun w h => h) (fun x => ?_)) | (refine WDE.stE rfl ?_) | (refine WDE.x rfl rfl ?_ ?_ (fun x => ?_); rotate_left 1; (intro x w h; first | exact h | exact Ent.drop1.sl h | exact SL.unI h | exact SL.to h); rotate_left 1; first | exact trivial | exact rfl | assumption | omega | (refine ⟨?_, ?_⟩ <;> omega) | (simp only [Room, List.length_set, List.length_append, List.length_cons, List.length_nil, List.length_replicate]; omega) | decide | skip))
    all_goals
      rw [show s.extract (f : Int).toNat (s.size : Int).toNat = s.extract f s.size from rfl, hC]
      exact QQ.end_ rfl x rfl fun w h => h.to
end
section
/-- A row of slices of texts, each held alone. -/
def RowsH (e : TypeId) : List SV → List (List ByteArray) → HP
  | s :: ss, t :: ts => star (OwnS e s t) (RowsH e ss ts)
  | _, _ => fun R => R = []
end
section
theorem RowsH.snoc {e : TypeId} {s : SV} {t : List ByteArray} : ∀ {ss : List SV} {ts : List (List ByteArray)} {L : List HP}, ss.length = ts.length → Ent (OwnS e s t :: RowsH e ss ts :: L) (RowsH e (ss ++ [s]) (ts ++ [t]) :: L)
  | [], [], L, _ => Ent.star (Ent.cons Ent.drop1 |>.trans (Ent.cons (Ent.intro1 (p := RowsH e [] []) rfl)))
  | s1 :: ss, t1 :: ts, L, h => by
    simp only [List.cons_append, RowsH]
    refine (Ent.cons Ent.unstar).trans (Ent.swap.trans ?_)
    refine (Ent.cons (RowsH.snoc (by simpa using h))).trans ?_
    exact Ent.star Ent.refl
  | [], t1 :: ts, L, h => by simp at h
  | s1 :: ss, [], L, h => by simp at h
end
section
theorem RowsH.nil {e : TypeId} {L : List HP} : Ent L (RowsH e [] [] :: L) := Ent.intro1 rfl
end
section
theorem RowsH.frozen {e : TypeId} : ∀ {ss : List SV} {ts : List (List ByteArray)} {R : Foot}, RowsH e ss ts R → ∀ i, i < ss.length → i < ts.length → SlI R (ss.getD i SV.nil) ByteArray inferInstance (ts.getD i [])
  | s :: ss, t :: ts, R, h, 0, _, _ => by
    obtain ⟨R1, R2, h1, h2, rfl⟩ := h
    have := SlI.ofOwn h1
    simp only [List.getD_cons_zero]
    exact SlI.left
  | s :: ss, t :: ts, R, h, i + 1, hi, hj => by
    obtain ⟨R1, R2, h1, h2, rfl⟩ := h
    have := RowsH.frozen h2 i (by simpa using hi) (by simpa using hj)
    simp only [List.getD_cons_succ]
    exact SlI.right
end
section
def sent (p : ByteArray) : List (List ByteArray) := if wordsL p = [] then [] else [wordsL p]
end
section
def allL (s : ByteArray) : List (List ByteArray) := (linesL s).flatMap sent
end
section
theorem lns_size {s : ByteArray} : ∀ (k f : Nat), ∀ p ∈ lns s f k, p.size ≤ s.size
  | 0, f, p, h => by simp only [lns, List.mem_singleton] at h; subst h; simp
  | k + 1, f, p, h => by
    unfold lns at h
    split at h
    · rcases List.mem_cons.1 h with rfl | h
      · simp; omega
      · exact lns_size k _ p h
    · exact lns_size k _ p h
end
section
theorem lns_len {s : ByteArray} : ∀ (k f : Nat), (lns s f k).length ≤ k + 1
  | 0, f => by simp [lns]
  | k + 1, f => by
    unfold lns
    have h1 := lns_len (s := s) k f
    have h2 := lns_len (s := s) k (s.size - (k + 1) + 1)
    split
    · rw [List.length_cons]; omega
    · omega
end
section
theorem sent_len (p : ByteArray) : (sent p).length ≤ 1 := by unfold sent; split <;> simp
end
section
theorem linesL_size {s : ByteArray} {n : Nat} (h : s.size ≤ n) : ∀ p ∈ linesL s, p.size ≤ n := fun p hp => Nat.le_trans (lns_size s.size 0 p hp) h
end
section
theorem linesL_len (s : ByteArray) : (linesL s).length ≤ s.size + 1 := lns_len s.size 0
end
section
structure RA where
  i : Nat
  rows : List (List ByteArray)
  ss : List SV
  r : SV
end
section
theorem rAll_tr {s : ByteArray} {L : List HP} (w0 : World) (I : Foot) (hs : s.size ≤ 1000000) : Tr Try.prog 82 #[.string s] (SL w0 I L) (fun x : SV × List SV => .slice x.1.a x.1.n x.1.cap) (fun x w => x.2.length = (allL s).length ∧ SL w0 I (OwnS 22 x.1 x.2 :: RowsH 9 x.2 (allL s) :: L) w) := by
  refine Tr.intro Try.func82 rfl Try.ntmps82 rfl ?_
  have hll := linesL_len s
  have hlz := linesL_size hs
  have hal : allL s = (linesL s).flatMap sent := rfl
  have hlt : ∀ {L : List HP}, Tr Try.prog 123 #[.string s] (SL w0 I L) (fun r : SV => .slice r.a r.n r.cap) (fun r => SL w0 I (OwnS 9 r (linesL s) :: L)) := rLines_tr w0 I hs
  generalize linesL s = ls at hll hlz hal hlt
  repeat' (first | ((first | refine WLA.m rfl rfl ?_ ?_ | refine WLA.st rfl ?_ ?_ | refine WLA.x rfl rfl ?_ (fun x => ?_) | refine WLA.x0 rfl ?_ (fun x => ?_)); first | exact trivial | exact rfl | assumption | omega | (refine ⟨?_, ?_⟩ <;> omega) | (simp only [Room, List.length_set, List.length_append, List.length_cons, List.length_nil, List.length_replicate]; omega) | decide | skip) | (refine Stp.go ?_) | (guard_target =~ WLA _ _ _ _ _ (⟨_, .call ⟨.value (.func 123), _, _⟩, _, _, _, _⟩ :: _) _ _; first | (refine WLA.call rfl rfl (hlt) ?_; rintro lr) | (refine WLA.call0 rfl (hlt) ?_; rintro lr)) | (refine WPA.ifT ?_) | (refine WPA.ifF ?_) | ((first | refine WPA.dec ?_); first | refine .inl ⟨by first | assumption | omega | with_reducible rfl | (refine fun h => h ?_; first | assumption | with_reducible rfl) | (simp only [List.length_append, List.length_cons, List.length_nil, List.length_set] <;> omega) | decide, ?_⟩ | refine .inr ⟨by first | assumption | omega | with_reducible rfl | (refine fun h => h ?_; first | assumption | with_reducible rfl) | (simp only [List.length_append, List.length_cons, List.length_nil, List.length_set] <;> omega) | decide, ?_⟩) | ((first | refine WPA.ifBt ?_ ?_ | refine WPA.ifBnf ?_ ?_); assumption) | ((first | refine WPA.ifBnt ?_ ?_ | refine WPA.ifBf ?_ ?_); assumption) | ((first | refine WPA.ifs ?_ ?_ | refine WPA.ifB ?_ ?_) <;> intro hc))
  refine WPA.loopS (σ := RA) (fun x => [(3, .slice x.r.a x.r.n x.r.cap), (4, .slice lr.a lr.n lr.cap), (5, .int .i64 x.i)]) (fun x => x.i ≤ ls.length ∧ x.rows ++ (ls.drop x.i).flatMap sent = allL s ∧ x.ss.length = x.rows.length ∧ x.ss.length ≤ x.i)
    (fun x => SL w0 I (OwnS 9 lr ls :: OwnS 22 x.r x.ss :: RowsH 9 x.ss x.rows :: L)) (fun x => ls.length - x.i) ⟨0, [], [], SV.nil⟩ ⟨rfl, rfl, rfl, trivial⟩ ⟨Nat.zero_le _, hal.symm, rfl, Nat.le_refl _⟩ (fun w h => ((Ent.cons ((RowsH.nil (e := 9)).trans EntC.out)).sl h)) ?_
  rintro ⟨i, rows, ss, r⟩ ρ ⟨hi, hC, hC3, hC4⟩
  dsimp only at hi hC hC3 hC4 ⊢
  by_cases hlt2 : i < ls.length
  · have hlt' : (i : Int) < ls.length := by omega
    have hp : at_ ls (i : Int) = ls[i] := at_nat ls i hlt2
    have hps : (at_ ls (i : Int)).size ≤ 1000000 := by rw [hp]; exact hlz _ (List.getElem_mem hlt2)
    rw [List.drop_eq_getElem_cons hlt2, List.flatMap_cons, ← hp] at hC
    by_cases hw : wordsL (at_ ls (i : Int)) = []
    · have hsn : sent (at_ ls (i : Int)) = [] := if_pos hw
      have h0 : ¬ (0 : Int) < (wordsL (at_ ls (i : Int))).length := by rw [hw]; simp
      repeat' ((fail_if_success (guard_target =~ WPA _ _ _ (.region 6 _ _) _ _ _)); first | ((first | refine WLA.m rfl rfl ?_ ?_ | refine WLA.st rfl ?_ ?_ | refine WLA.x rfl rfl ?_ (fun x => ?_) | refine WLA.x0 rfl ?_ (fun x => ?_)); first | exact trivial | exact rfl | assumption | omega | (refine ⟨?_, ?_⟩ <;> omega) | (simp only [Room, List.length_set, List.length_append, List.length_cons, List.length_nil, List.length_replicate]; omega) | decide | skip) | (refine Stp.go ?_) | (refine WPA.ifT ?_) | (refine WPA.ifF ?_) | ((first | refine WPA.dec ?_); first | refine .inl ⟨by first | assumption | omega | with_reducible rfl | (refine fun h => h ?_; first | assumption | with_reducible rfl) | (simp only [List.length_append, List.length_cons, List.length_nil, List.length_set] <;> omega) | decide, ?_⟩ | refine .inr ⟨by first | assumption | omega | with_reducible rfl | (refine fun h => h ?_; first | assumption | with_reducible rfl) | (simp only [List.length_append, List.length_cons, List.length_nil, List.length_set] <;> omega) | decide, ?_⟩) | ((first | refine WPA.ifBt ?_ ?_ | refine WPA.ifBnf ?_ ?_); assumption) | ((first | refine WPA.ifBnt ?_ ?_ | refine WPA.ifBf ?_ ?_); assumption) | ((first | refine WPA.ifs ?_ ?_ | refine WPA.ifB ?_ ?_) <;> intro hc))
      repeat' (first | (guard_target =~ WPA _ _ _ (.cond _ _ _) _ _ _; refine WPA.ifNo h0 ?_) | ((first | refine WLA.m rfl rfl ?_ ?_ | refine WLA.st rfl ?_ ?_ | refine WLA.x rfl rfl ?_ (fun x => ?_) | refine WLA.x0 rfl ?_ (fun x => ?_)); first | exact trivial | exact rfl | assumption | omega | (refine ⟨?_, ?_⟩ <;> omega) | (simp only [Room, List.length_set, List.length_append, List.length_cons, List.length_nil, List.length_replicate]; omega) | decide | skip) | (refine Stp.go ?_) | (guard_target =~ WLA _ _ _ _ _ (⟨_, .call ⟨.value (.func 124), _, _⟩, _, _, _, _⟩ :: _) _ _; first | (refine WLA.call rfl rfl (rWords_tr _ _ hps) ?_; rintro w) | (refine WLA.call0 rfl (rWords_tr _ _ hps) ?_; rintro w)) | (refine WPA.ifT ?_) | (refine WPA.ifF ?_) | ((first | refine WPA.dec ?_); first | refine .inl ⟨by first | assumption | omega | with_reducible rfl | (refine fun h => h ?_; first | assumption | with_reducible rfl) | (simp only [List.length_append, List.length_cons, List.length_nil, List.length_set] <;> omega) | decide, ?_⟩ | refine .inr ⟨by first | assumption | omega | with_reducible rfl | (refine fun h => h ?_; first | assumption | with_reducible rfl) | (simp only [List.length_append, List.length_cons, List.length_nil, List.length_set] <;> omega) | decide, ?_⟩) | ((first | refine WPA.ifBt ?_ ?_ | refine WPA.ifBnf ?_ ?_); assumption) | ((first | refine WPA.ifBnt ?_ ?_ | refine WPA.ifBf ?_ ?_); assumption) | ((first | refine WPA.ifs ?_ ?_ | refine WPA.ifB ?_ ?_) <;> intro hc))
      rw [hsn, List.nil_append] at hC
      exact QQ.loopS ⟨i + 1, rows, ss, r⟩ ⟨rfl, rfl, rfl, trivial⟩ ⟨hlt2, hC, hC3, by dsimp only; omega⟩ (by dsimp only; omega) (fun w h => h.to)
    · have hsn : sent (at_ ls (i : Int)) = [wordsL (at_ ls (i : Int))] := if_neg hw
      have h0 : (0 : Int) < (wordsL (at_ ls (i : Int))).length := by have := List.length_pos_iff.2 hw; omega
      repeat' ((fail_if_success (guard_target =~ WPA _ _ _ (.region 6 _ _) _ _ _)); first | ((first | refine WLA.m rfl rfl ?_ ?_ | refine WLA.st rfl ?_ ?_ | refine WLA.x rfl rfl ?_ (fun x => ?_) | refine WLA.x0 rfl ?_ (fun x => ?_)); first | exact trivial | exact rfl | assumption | omega | (refine ⟨?_, ?_⟩ <;> omega) | (simp only [Room, List.length_set, List.length_append, List.length_cons, List.length_nil, List.length_replicate]; omega) | decide | skip) | (refine Stp.go ?_) | (refine WPA.ifT ?_) | (refine WPA.ifF ?_) | ((first | refine WPA.dec ?_); first | refine .inl ⟨by first | assumption | omega | with_reducible rfl | (refine fun h => h ?_; first | assumption | with_reducible rfl) | (simp only [List.length_append, List.length_cons, List.length_nil, List.length_set] <;> omega) | decide, ?_⟩ | refine .inr ⟨by first | assumption | omega | with_reducible rfl | (refine fun h => h ?_; first | assumption | with_reducible rfl) | (simp only [List.length_append, List.length_cons, List.length_nil, List.length_set] <;> omega) | decide, ?_⟩) | ((first | refine WPA.ifBt ?_ ?_ | refine WPA.ifBnf ?_ ?_); assumption) | ((first | refine WPA.ifBnt ?_ ?_ | refine WPA.ifBf ?_ ?_); assumption) | ((first | refine WPA.ifs ?_ ?_ | refine WPA.ifB ?_ ?_) <;> intro hc))
      repeat' (first | (guard_target =~ WPA _ _ _ (.cond _ _ _) _ _ _; refine WPA.ifYes h0 ?_) | ((first | refine WLA.m rfl rfl ?_ ?_ | refine WLA.st rfl ?_ ?_ | refine WLA.x rfl rfl ?_ (fun x => ?_) | refine WLA.x0 rfl ?_ (fun x => ?_)); first | exact trivial | exact rfl | assumption | omega | (refine ⟨?_, ?_⟩ <;> omega) | (simp only [Room, List.length_set, List.length_append, List.length_cons, List.length_nil, List.length_replicate]; omega) | decide | skip) | (refine Stp.go ?_) | (guard_target =~ WLA _ _ _ _ _ (⟨_, .call ⟨.value (.func 124), _, _⟩, _, _, _, _⟩ :: _) _ _; first | (refine WLA.call rfl rfl (rWords_tr _ _ hps) ?_; rintro w) | (refine WLA.call0 rfl (rWords_tr _ _ hps) ?_; rintro w)) | (refine WPA.ifT ?_) | (refine WPA.ifF ?_) | ((first | refine WPA.dec ?_); first | refine .inl ⟨by first | assumption | omega | with_reducible rfl | (refine fun h => h ?_; first | assumption | with_reducible rfl) | (simp only [List.length_append, List.length_cons, List.length_nil, List.length_set] <;> omega) | decide, ?_⟩ | refine .inr ⟨by first | assumption | omega | with_reducible rfl | (refine fun h => h ?_; first | assumption | with_reducible rfl) | (simp only [List.length_append, List.length_cons, List.length_nil, List.length_set] <;> omega) | decide, ?_⟩) | ((first | refine WPA.ifBt ?_ ?_ | refine WPA.ifBnf ?_ ?_); assumption) | ((first | refine WPA.ifBnt ?_ ?_ | refine WPA.ifBf ?_ ?_); assumption) | ((first | refine WPA.ifs ?_ ?_ | refine WPA.ifB ?_ ?_) <;> intro hc))
      rw [hsn, ← List.append_assoc] at hC
      refine QQ.loopS ⟨i + 1, rows ++ [wordsL (at_ ls (i : Int))], ss ++ [w], x⟩ ⟨rfl, rfl, rfl, trivial⟩ ⟨hlt2, hC, by dsimp only; rw [List.length_append, List.length_append, hC3]; rfl, by dsimp only; rw [List.length_append, List.length_singleton]; omega⟩ (by dsimp only; omega) (fun u h => ?_)
      have h2 := (RowsH.snoc hC3).sl ((EntC.out (L' := OwnS 9 w (wordsL (at_ ls (i : Int))) :: RowsH 9 ss rows :: OwnS 9 lr ls :: OwnS 22 x (ss ++ [w]) :: L)).sl h)
      exact h2.to
  · have hlt' : ¬ (i : Int) < ls.length := by omega
    rw [List.drop_of_length_le (by omega), List.flatMap_nil, List.append_nil] at hC
    subst hC
    repeat' (first | ((first | refine WLA.m rfl rfl ?_ ?_ | refine WLA.st rfl ?_ ?_ | refine WLA.x rfl rfl ?_ (fun x => ?_) | refine WLA.x0 rfl ?_ (fun x => ?_)); first | exact trivial | exact rfl | assumption | omega | (refine ⟨?_, ?_⟩ <;> omega) | (simp only [Room, List.length_set, List.length_append, List.length_cons, List.length_nil, List.length_replicate]; omega) | decide | skip) | (refine Stp.go ?_) | (refine WPA.ifT ?_) | (refine WPA.ifF ?_) | ((first | refine WPA.dec ?_); first | refine .inl ⟨by first | assumption | omega | with_reducible rfl | (refine fun h => h ?_; first | assumption | with_reducible rfl) | (simp only [List.length_append, List.length_cons, List.length_nil, List.length_set] <;> omega) | decide, ?_⟩ | refine .inr ⟨by first | assumption | omega | with_reducible rfl | (refine fun h => h ?_; first | assumption | with_reducible rfl) | (simp only [List.length_append, List.length_cons, List.length_nil, List.length_set] <;> omega) | decide, ?_⟩) | ((first | refine WPA.ifBt ?_ ?_ | refine WPA.ifBnf ?_ ?_); assumption) | ((first | refine WPA.ifBnt ?_ ?_ | refine WPA.ifBf ?_ ?_); assumption) | ((first | refine WPA.ifs ?_ ?_ | refine WPA.ifB ?_ ?_) <;> intro hc))
    repeat' (first | ((first | refine WLA.m rfl rfl ?_ ?_ | refine WLA.st rfl ?_ ?_ | refine WLA.x rfl rfl ?_ (fun x => ?_) | refine WLA.x0 rfl ?_ (fun x => ?_)); first | exact trivial | exact rfl | assumption | omega | (refine ⟨?_, ?_⟩ <;> omega) | (simp only [Room, List.length_set, List.length_append, List.length_cons, List.length_nil, List.length_replicate]; omega) | decide | skip) | (refine Stp.go ?_) | (refine WPA.ifT ?_) | (refine WPA.ifF ?_) | ((first | refine WPA.dec ?_); first | refine .inl ⟨by first | assumption | omega | with_reducible rfl | (refine fun h => h ?_; first | assumption | with_reducible rfl) | (simp only [List.length_append, List.length_cons, List.length_nil, List.length_set] <;> omega) | decide, ?_⟩ | refine .inr ⟨by first | assumption | omega | with_reducible rfl | (refine fun h => h ?_; first | assumption | with_reducible rfl) | (simp only [List.length_append, List.length_cons, List.length_nil, List.length_set] <;> omega) | decide, ?_⟩) | ((first | refine WPA.ifBt ?_ ?_ | refine WPA.ifBnf ?_ ?_); assumption) | ((first | refine WPA.ifBnt ?_ ?_ | refine WPA.ifBf ?_ ?_); assumption) | ((first | refine WPA.ifs ?_ ?_ | refine WPA.ifB ?_ ?_) <;> intro hc))
    exact QQ.end_ rfl (r, ss) rfl fun w h => ⟨hC3, h.to⟩
end
section
theorem wordsL_len (s : ByteArray) : (wordsL s).length ≤ s.size + 1 := by
  have h1 := pcs_len s (s.size + 1) 0
  have h2 : ∀ l : List ByteArray, (l.flatMap wd).length ≤ l.length := by
    intro l
    induction l with
    | nil => simp
    | cons a l ih => rw [List.flatMap_cons, List.length_append, List.length_cons]; have := wd_len a; omega
  exact Nat.le_trans (h2 _) h1
end
section
theorem bt_ext {s : ByteArray} {a b j : Nat} (hb : b ≤ s.size) (hj : a + j < b) : bt (s.extract a b) (j : Nat) = bt s ((a + j : Nat) : Int) := by
  have h1 : j < (s.extract a b).size := by simp; omega
  have h2 : a + j < s.size := by omega
  unfold bt
  rw [Int.toNat_natCast, Int.toNat_natCast, dif_pos h1, dif_pos h2]
  congr 2
  simp [ByteArray.getElem_extract]
end
section
theorem pcs_good {s : ByteArray} : ∀ (k f : Nat), k ≤ s.size + 1 → f ≤ s.size + 1 - k → (∀ j : Nat, f ≤ j → j < s.size + 1 - k → ¬ BlankP (bt s j)) → ∀ p ∈ pcs s f k, ∃ a b, a < b ∧ b ≤ s.size ∧ p = s.extract a b ∧ ∀ j : Nat, a ≤ j → j < b → ¬ BlankP (bt s j)
  | 0, f, _, _, _, p, hp => by simp [pcs] at hp
  | k + 1, f, hk, hf, h, p, hp => by
    have e1 : s.size + 1 - (k + 1) = s.size - k := by omega
    have e2 : s.size + 1 - k = s.size - k + 1 := by omega
    rw [e1] at hf h
    unfold pcs at hp
    split at hp
    · rename_i hc
      exact pcs_good k f (by omega) (by omega) (fun j h1 h2 => by
        by_cases e : j = s.size - k
        · rw [e]; exact hc.2
        · exact h j h1 (by omega)) p hp
    · split at hp
      · rename_i hlt
        rcases List.mem_cons.1 hp with rfl | hp
        · exact ⟨f, s.size - k, hlt, by omega, rfl, h⟩
        · exact pcs_good k _ (by omega) (by omega) (fun j h1 h2 => by omega) p hp
      · exact pcs_good k _ (by omega) (by omega) (fun j h1 h2 => by omega) p hp
end
section
theorem lns_good {s : ByteArray} : ∀ (k f : Nat), k ≤ s.size → f ≤ s.size - k → (∀ j : Nat, f ≤ j → j < s.size - k → bt s j ≠ 10) → ∀ p ∈ lns s f k, ∃ a b, a ≤ b ∧ b ≤ s.size ∧ p = s.extract a b ∧ ∀ j : Nat, a ≤ j → j < b → bt s j ≠ 10
  | 0, f, _, hf, h, p, hp => by
    simp only [lns, List.mem_singleton] at hp
    exact ⟨f, s.size, by omega, Nat.le_refl _, hp, fun j h1 h2 => h j h1 (by omega)⟩
  | k + 1, f, hk, hf, h, p, hp => by
    unfold lns at hp
    split at hp
    · rcases List.mem_cons.1 hp with rfl | hp
      · exact ⟨f, s.size - (k + 1), hf, by omega, rfl, h⟩
      · exact lns_good k _ (by omega) (by omega) (fun j h1 h2 => by omega) p hp
    · rename_i hc
      exact lns_good k f (by omega) (by omega) (fun j h1 h2 => by
        by_cases e : j = s.size - (k + 1)
        · rw [e]; exact hc
        · exact h j h1 (by omega)) p hp
end
section
theorem unk_right : RightP ⟨#[60, 117, 110, 107, 62]⟩ := by
  refine ⟨?_, ⟨by decide, by decide⟩, by decide⟩
  have : ∀ i, i < 5 → ¬ BlankP (bt ⟨#[60, 117, 110, 107, 62]⟩ (i : Nat)) ∧ bt ⟨#[60, 117, 110, 107, 62]⟩ (i : Nat) ≠ 10 := by decide
  exact this
end
section
theorem words_right {s : ByteArray} (h : ∀ i : Nat, i < s.size → bt s i ≠ 10) : ∀ q ∈ wordsL s, RightP q := by
  intro q hq
  obtain ⟨p, hp, hq⟩ := List.mem_flatMap.1 hq
  obtain ⟨a, b, hab, hb, rfl, hn⟩ := pcs_good (s.size + 1) 0 (Nat.le_refl _) (by omega) (fun j h1 h2 => by omega) p hp
  have hsz : (s.extract a b).size = b - a := by simp; omega
  unfold wd at hq
  split at hq
  · simp at hq
  · rename_i hm
    split at hq
    · simp only [List.mem_singleton] at hq
      subst hq; exact unk_right
    · rename_i hbig
      simp only [List.mem_singleton] at hq
      subst hq
      refine ⟨fun i hi => ?_, ⟨fun e => ?_, by omega⟩, hm⟩
      · rw [bt_ext hb (by omega)]
        exact ⟨hn _ (by omega) (by omega), h _ (by omega)⟩
      · rw [e] at hsz
        have : (⟨#[]⟩ : ByteArray).size = 0 := rfl
        omega
end
section
theorem all_right {s : ByteArray} : ∀ row ∈ allL s, row ≠ [] ∧ row.length ≤ s.size + 1 ∧ ∀ q ∈ row, RightP q := by
  intro row hrow
  obtain ⟨p, hp, hr⟩ := List.mem_flatMap.1 hrow
  obtain ⟨a, b, hab, hb, rfl, hn⟩ := lns_good s.size 0 (Nat.le_refl _) (by omega) (fun j h1 h2 => by omega) p hp
  have hsz : (s.extract a b).size = b - a := by simp; omega
  unfold sent at hr
  split at hr
  · simp at hr
  · rename_i hw
    simp only [List.mem_singleton] at hr
    subst hr
    refine ⟨hw, by have := wordsL_len (s.extract a b); omega, words_right fun i hi => ?_⟩
    rw [bt_ext hb (by omega)]
    exact hn _ (by omega) (by omega)
end
section
theorem allL_len (s : ByteArray) : (allL s).length ≤ s.size + 1 := by
  have h2 : ∀ l : List ByteArray, (l.flatMap sent).length ≤ l.length := by
    intro l
    induction l with
    | nil => simp
    | cons a l ih => rw [List.flatMap_cons, List.length_append, List.length_cons]; have := sent_len a; omega
  exact Nat.le_trans (h2 _) (linesL_len s)
end
section
/-- The first three words. -/
def mk3 : List ByteArray := [⟨#[60, 117, 110, 107, 62]⟩, ⟨#[60, 115, 62]⟩, ⟨#[60, 47, 115, 62]⟩]
end
section
variable {L L' : List HP} {w0 : World} {I : Foot} {V : Nat} {texts : List ByteArray}
theorem Marks_tr : Tr Try.prog 72 #[] (SL w0 I L) (fun r : SV => .slice r.a r.n r.cap) (fun r => SL w0 I (OwnS 9 r mk3 :: L)) := by
  refine Tr.intro Try.func72 rfl Try.ntmps72 rfl ?_
  repeat' (first | ((first | refine WLA.m rfl rfl ?_ ?_ | refine WLA.st rfl ?_ ?_ | refine WLA.x rfl rfl ?_ (fun x => ?_) | refine WLA.x0 rfl ?_ (fun x => ?_)); first | exact trivial | exact rfl | assumption | omega | (refine ⟨?_, ?_⟩ <;> omega) | (simp only [Room, List.length_set, List.length_append, List.length_cons, List.length_nil, List.length_replicate]; omega) | decide | skip) | (refine Stp.go ?_) | (refine WPA.ifT ?_) | (refine WPA.ifF ?_) | ((first | refine WPA.dec ?_); first | refine .inl ⟨by first | assumption | omega | with_reducible rfl | (refine fun h => h ?_; first | assumption | with_reducible rfl) | (simp only [List.length_append, List.length_cons, List.length_nil, List.length_set] <;> omega) | decide, ?_⟩ | refine .inr ⟨by first | assumption | omega | with_reducible rfl | (refine fun h => h ?_; first | assumption | with_reducible rfl) | (simp only [List.length_append, List.length_cons, List.length_nil, List.length_set] <;> omega) | decide, ?_⟩) | ((first | refine WPA.ifBt ?_ ?_ | refine WPA.ifBnf ?_ ?_); assumption) | ((first | refine WPA.ifBnt ?_ ?_ | refine WPA.ifBf ?_ ?_); assumption) | ((first | refine WPA.ifs ?_ ?_ | refine WPA.ifB ?_ ?_) <;> intro hc))
  exact QQ.end_ rfl x rfl fun w h => by
    have h2 : SL w0 I (LitS 9 x mk3 :: L) w := h
    exact h2.to
end
section
/-- The words of a line, learned. -/
def putWs (l ws : List ByteArray) : List ByteArray := ws.foldl putT l
end
section
def putLs (l : List ByteArray) (ps : List ByteArray) : List ByteArray := ps.foldl (fun l p => putWs l (wordsL p)) l
end
section
/-- What is learned of a text. -/
def learnL (s : ByteArray) : List ByteArray := putLs mk3 (linesL s)
end
section
theorem putWs_len : ∀ (ws l : List ByteArray), l.length ≤ (putWs l ws).length ∧ (putWs l ws).length ≤ l.length + ws.length
  | [], l => by simp [putWs]
  | w :: ws, l => by
    have h1 := putWs_len ws (putT l w)
    have h2 := putT_len l w
    unfold putWs at h1 ⊢
    rw [List.foldl_cons, List.length_cons]; omega
end
section
theorem putLs_rows : ∀ (ps l : List ByteArray), putLs l ps = (ps.flatMap sent).foldl putWs l
  | [], l => rfl
  | p :: ps, l => by
    have ih := putLs_rows ps (putWs l (wordsL p))
    unfold putLs at ih ⊢
    rw [List.foldl_cons, ih, List.flatMap_cons, List.foldl_append]
    congr 1
    unfold sent
    split
    · rename_i h; rw [h]; rfl
    · rfl
end
section
theorem learn_rows (s : ByteArray) : learnL s = (allL s).foldl putWs mk3 := putLs_rows _ _
end
section
variable {L L' : List HP} {w0 : World} {I : Foot}
theorem rows_len : ∀ (rows : List (List ByteArray)) (l : List ByteArray), l.length ≤ (rows.foldl putWs l).length
  | [], l => Nat.le_refl _
  | r :: rows, l => by have h1 := rows_len rows (putWs l r); have h2 := putWs_len r l; rw [List.foldl_cons]; omega
end
section
variable {L L' : List HP} {w0 : World} {I : Foot}
def szs : List ByteArray → Nat
  | [] => 0
  | p :: ps => p.size + 1 + szs ps
end
section
variable {L L' : List HP} {w0 : World} {I : Foot}
theorem lns_szs {s : ByteArray} : ∀ (k f : Nat), k ≤ s.size → f ≤ s.size - k → szs (lns s f k) = s.size - f + 1
  | 0, f, _, hf => by simp only [lns, szs, ByteArray.size_extract]; omega
  | k + 1, f, hk, hf => by
    unfold lns
    split
    · have := lns_szs (s := s) k (s.size - (k + 1) + 1) (by omega) (by omega)
      simp only [szs, ByteArray.size_extract, this]; omega
    · exact lns_szs k f (by omega) (by omega)
end
section
variable {L L' : List HP} {w0 : World} {I : Foot}
theorem putLs_max : ∀ (ps l : List ByteArray), (putLs l ps).length ≤ l.length + szs ps
  | [], l => Nat.le_refl _
  | p :: ps, l => by
    have h1 := putLs_max ps (putWs l (wordsL p))
    have h2 := putWs_len (wordsL p) l
    have h3 := wordsL_len p
    unfold putLs at h1 ⊢
    rw [List.foldl_cons]
    simp only [szs]; omega
end
section
variable {L L' : List HP} {w0 : World} {I : Foot}
theorem learn_max (s : ByteArray) : (learnL s).length ≤ s.size + 4 := by
  have h1 := putLs_max (linesL s) mk3
  have h2 : szs (linesL s) = s.size - 0 + 1 := lns_szs s.size 0 (Nat.le_refl _) (by omega)
  have h3 : mk3.length = 3 := rfl
  unfold learnL
  omega
end
section
variable {L L' : List HP} {w0 : World} {I : Foot}
theorem rLearn_tr {s : ByteArray} (hs : s.size ≤ 1000000) (hN : (learnL s).length ≤ 100000000) : Tr Try.prog 69 #[.string s] (SL w0 I L) (fun r : SV => .slice r.a r.n r.cap) (fun r => SL w0 I (OwnS 9 r (learnL s) :: L)) := by
  refine Tr.intro Try.func69 rfl Try.ntmps69 rfl ?_
  have hal := allL_len s
  rw [learn_rows] at hN ⊢
  have hw : ∀ row ∈ allL s, row.length ≤ 1000001 := fun r hr => by have := (all_right (s := s) r hr).2.1; omega
  have hB : ∀ {I' : Foot} {L : List HP}, Tr Try.prog 82 #[.string s] (SL w0 I' L) (fun x : SV × List SV => .slice x.1.a x.1.n x.1.cap) (fun x w => x.2.length = (allL s).length ∧ SL w0 I' (OwnS 22 x.1 x.2 :: RowsH 9 x.2 (allL s) :: L) w) := rAll_tr (s := s) w0 _ hs
  generalize allL s = rows at hw hal hB hN
  repeat' (first | ((first | refine WLA.m rfl rfl ?_ ?_ | refine WLA.st rfl ?_ ?_ | refine WLA.x rfl rfl ?_ (fun x => ?_) | refine WLA.x0 rfl ?_ (fun x => ?_)); first | exact trivial | exact rfl | assumption | omega | (refine ⟨?_, ?_⟩ <;> omega) | (simp only [Room, List.length_set, List.length_append, List.length_cons, List.length_nil, List.length_replicate]; omega) | decide | skip) | (refine Stp.go ?_) | (guard_target =~ WLA _ _ _ _ _ (⟨_, .call ⟨.value (.func 72), _, _⟩, _, _, _, _⟩ :: _) _ _; first | (refine WLA.call rfl rfl (Marks_tr) ?_; rintro m) | (refine WLA.call0 rfl (Marks_tr) ?_; rintro m)) | (guard_target =~ WLA _ _ _ _ _ (⟨_, .call ⟨.value (.func 82), _, _⟩, _, _, _, _⟩ :: _) _ _; first | (refine WLA.call rfl rfl (hB) ?_; rintro ⟨r, ss⟩; refine WLA.pure fun hl => ?_; dsimp only at hl ⊢; refine WLA.ent Ent.swap ?_; refine WLA.freeze fun R hR => ?_) | (refine WLA.call0 rfl (hB) ?_; rintro ⟨r, ss⟩; refine WLA.pure fun hl => ?_; dsimp only at hl ⊢; refine WLA.ent Ent.swap ?_; refine WLA.freeze fun R hR => ?_)) | (refine WPA.ifT ?_) | (refine WPA.ifF ?_) | ((first | refine WPA.dec ?_); first | refine .inl ⟨by first | assumption | omega | with_reducible rfl | (refine fun h => h ?_; first | assumption | with_reducible rfl) | (simp only [List.length_append, List.length_cons, List.length_nil, List.length_set] <;> omega) | decide, ?_⟩ | refine .inr ⟨by first | assumption | omega | with_reducible rfl | (refine fun h => h ?_; first | assumption | with_reducible rfl) | (simp only [List.length_append, List.length_cons, List.length_nil, List.length_set] <;> omega) | decide, ?_⟩) | ((first | refine WPA.ifBt ?_ ?_ | refine WPA.ifBnf ?_ ?_); assumption) | ((first | refine WPA.ifBnt ?_ ?_ | refine WPA.ifBf ?_ ?_); assumption) | ((first | refine WPA.ifs ?_ ?_ | refine WPA.ifB ?_ ?_) <;> intro hc))
  refine WPA.loopS (σ := Nat × SV × List ByteArray) (fun y => [(3, .slice y.2.1.a y.2.1.n y.2.1.cap), (4, .slice r.a r.n r.cap), (5, .int .i64 y.1)])
    (fun y => y.1 ≤ ss.length ∧ (rows.drop y.1).foldl putWs y.2.2 = rows.foldl putWs mk3) (fun y => SL w0 (R ++ I) (OwnS 22 r ss :: OwnS 9 y.2.1 y.2.2 :: L)) (fun y => ss.length - y.1) (0, m, mk3) ⟨rfl, rfl, rfl, trivial⟩ ⟨Nat.zero_le _, rfl⟩ (fun w h => h.to) ?_
  rintro ⟨i, l, ts⟩ ρ ⟨hi, hf⟩
  dsimp only at hi hf ⊢
  by_cases hlt : i < ss.length
  · have hlt' : (i : Int) < ss.length := by omega
    have g1 : SlI R (at_ ss (i : Int)) ByteArray inferInstance (rows.getD i []) := RowsH.frozen hR i hlt (by omega)
    have hri : i < rows.length := by omega
    have hrow : rows.getD i [] = rows[i] := by rw [List.getD_eq_getElem?_getD, List.getElem?_eq_getElem hri]; rfl
    rw [List.drop_eq_getElem_cons hri, List.foldl_cons, ← hrow] at hf
    have hrl : (rows.getD i []).length ≤ 1000001 := by rw [hrow]; exact hw _ (List.getElem_mem hri)
    generalize rows.getD i [] = row at g1 hf hrl
    have hn2 := rows_len (rows.drop (i + 1)) (putWs ts row)
    rw [hf] at hn2
    repeat' (first | ((first | refine WLA.m rfl rfl ?_ ?_ | refine WLA.st rfl ?_ ?_ | refine WLA.x rfl rfl ?_ (fun x => ?_) | refine WLA.x0 rfl ?_ (fun x => ?_)); first | exact trivial | exact rfl | assumption | omega | (refine ⟨?_, ?_⟩ <;> omega) | (simp only [Room, List.length_set, List.length_append, List.length_cons, List.length_nil, List.length_replicate]; omega) | decide | skip) | (refine Stp.go ?_) | (refine WPA.ifT ?_) | (refine WPA.ifF ?_) | ((first | refine WPA.dec ?_); first | refine .inl ⟨by first | assumption | omega | with_reducible rfl | (refine fun h => h ?_; first | assumption | with_reducible rfl) | (simp only [List.length_append, List.length_cons, List.length_nil, List.length_set] <;> omega) | decide, ?_⟩ | refine .inr ⟨by first | assumption | omega | with_reducible rfl | (refine fun h => h ?_; first | assumption | with_reducible rfl) | (simp only [List.length_append, List.length_cons, List.length_nil, List.length_set] <;> omega) | decide, ?_⟩) | ((first | refine WPA.ifBt ?_ ?_ | refine WPA.ifBnf ?_ ?_); assumption) | ((first | refine WPA.ifBnt ?_ ?_ | refine WPA.ifBf ?_ ?_); assumption) | ((first | refine WPA.ifs ?_ ?_ | refine WPA.ifB ?_ ?_) <;> intro hc))
    refine WPA.loopS (σ := Nat × SV × List ByteArray) (fun y => [(3, .slice y.2.1.a y.2.1.n y.2.1.cap), (4, .slice r.a r.n r.cap), (5, .int .i64 i), (6, .int .i64 y.1)])
      (fun y => y.1 ≤ row.length ∧ putWs y.2.2 (row.drop y.1) = putWs ts row) (fun y => SL w0 (R ++ I) (OwnS 22 r ss :: OwnS 9 y.2.1 y.2.2 :: L)) (fun y => row.length - y.1) (0, l, ts) ⟨rfl, rfl, rfl, rfl, trivial⟩ ⟨Nat.zero_le _, rfl⟩ (fun w h => h) ?_
    rintro ⟨k, l2, ts2⟩ ρ2 ⟨hk, hf2⟩
    dsimp only at hk hf2 ⊢
    by_cases hkl : k < row.length
    · have hkl' : (k : Int) < row.length := by omega
      rw [List.drop_eq_getElem_cons hkl, ← at_nat row k hkl] at hf2
      have hf3 : putWs (putT ts2 (at_ row (k : Int))) (row.drop (k + 1)) = putWs ts row := hf2
      have hn3 := (putWs_len (row.drop (k + 1)) (putT ts2 (at_ row (k : Int)))).1
      rw [hf3] at hn3
      have hn4 := (putT_len ts2 (at_ row (k : Int))).1
      have hn5 : ts2.length ≤ 100000000 := by omega
      repeat' (first | ((first | refine WLA.m rfl rfl ?_ ?_ | refine WLA.st rfl ?_ ?_ | refine WLA.x rfl rfl ?_ (fun x => ?_) | refine WLA.x0 rfl ?_ (fun x => ?_)); first | exact trivial | exact rfl | assumption | omega | (refine ⟨?_, ?_⟩ <;> omega) | (simp only [Room, List.length_set, List.length_append, List.length_cons, List.length_nil, List.length_replicate]; omega) | decide | skip) | (refine Stp.go ?_) | (guard_target =~ WLA _ _ _ _ _ (⟨_, .call ⟨.value (.func 110), _, _⟩, _, _, _, _⟩ :: _) _ _; first | (refine WLA.call rfl rfl (rPutS_tr hn5) ?_; rintro l3) | (refine WLA.call0 rfl (rPutS_tr hn5) ?_; rintro l3)) | (refine WPA.ifT ?_) | (refine WPA.ifF ?_) | ((first | refine WPA.dec ?_); first | refine .inl ⟨by first | assumption | omega | with_reducible rfl | (refine fun h => h ?_; first | assumption | with_reducible rfl) | (simp only [List.length_append, List.length_cons, List.length_nil, List.length_set] <;> omega) | decide, ?_⟩ | refine .inr ⟨by first | assumption | omega | with_reducible rfl | (refine fun h => h ?_; first | assumption | with_reducible rfl) | (simp only [List.length_append, List.length_cons, List.length_nil, List.length_set] <;> omega) | decide, ?_⟩) | ((first | refine WPA.ifBt ?_ ?_ | refine WPA.ifBnf ?_ ?_); assumption) | ((first | refine WPA.ifBnt ?_ ?_ | refine WPA.ifBf ?_ ?_); assumption) | ((first | refine WPA.ifs ?_ ?_ | refine WPA.ifB ?_ ?_) <;> intro hc))
      exact QQ.loopS (k + 1, l3, putT ts2 (at_ row (k : Int))) ⟨rfl, rfl, rfl, rfl, trivial⟩ ⟨hkl, hf3⟩ (by dsimp only; omega) (fun w h => by dsimp only; exact h.to)
    · have hkl' : ¬ (k : Int) < row.length := by omega
      rw [List.drop_of_length_le (by omega)] at hf2
      have hf2 : ts2 = putWs ts row := hf2
      repeat' (first | ((first | refine WLA.m rfl rfl ?_ ?_ | refine WLA.st rfl ?_ ?_ | refine WLA.x rfl rfl ?_ (fun x => ?_) | refine WLA.x0 rfl ?_ (fun x => ?_)); first | exact trivial | exact rfl | assumption | omega | (refine ⟨?_, ?_⟩ <;> omega) | (simp only [Room, List.length_set, List.length_append, List.length_cons, List.length_nil, List.length_replicate]; omega) | decide | skip) | (refine Stp.go ?_) | (refine WPA.ifT ?_) | (refine WPA.ifF ?_) | ((first | refine WPA.dec ?_); first | refine .inl ⟨by first | assumption | omega | with_reducible rfl | (refine fun h => h ?_; first | assumption | with_reducible rfl) | (simp only [List.length_append, List.length_cons, List.length_nil, List.length_set] <;> omega) | decide, ?_⟩ | refine .inr ⟨by first | assumption | omega | with_reducible rfl | (refine fun h => h ?_; first | assumption | with_reducible rfl) | (simp only [List.length_append, List.length_cons, List.length_nil, List.length_set] <;> omega) | decide, ?_⟩) | ((first | refine WPA.ifBt ?_ ?_ | refine WPA.ifBnf ?_ ?_); assumption) | ((first | refine WPA.ifBnt ?_ ?_ | refine WPA.ifBf ?_ ?_); assumption) | ((first | refine WPA.ifs ?_ ?_ | refine WPA.ifB ?_ ?_) <;> intro hc))
      exact QQ.loopS (i + 1, l2, ts2) ⟨rfl, rfl, rfl, trivial⟩ ⟨hlt, by rw [hf2]; exact hf⟩ (by dsimp only; omega) (fun w h => by dsimp only; exact h.to)
  · have hlt' : ¬ (i : Int) < ss.length := by omega
    rw [List.drop_of_length_le (by omega)] at hf
    have hf : ts = rows.foldl putWs mk3 := hf
    subst hf
    repeat' (first | ((first | refine WLA.m rfl rfl ?_ ?_ | refine WLA.st rfl ?_ ?_ | refine WLA.x rfl rfl ?_ (fun x => ?_) | refine WLA.x0 rfl ?_ (fun x => ?_)); first | exact trivial | exact rfl | assumption | omega | (refine ⟨?_, ?_⟩ <;> omega) | (simp only [Room, List.length_set, List.length_append, List.length_cons, List.length_nil, List.length_replicate]; omega) | decide | skip) | (refine Stp.go ?_) | (refine WPA.ifT ?_) | (refine WPA.ifF ?_) | ((first | refine WPA.dec ?_); first | refine .inl ⟨by first | assumption | omega | with_reducible rfl | (refine fun h => h ?_; first | assumption | with_reducible rfl) | (simp only [List.length_append, List.length_cons, List.length_nil, List.length_set] <;> omega) | decide, ?_⟩ | refine .inr ⟨by first | assumption | omega | with_reducible rfl | (refine fun h => h ?_; first | assumption | with_reducible rfl) | (simp only [List.length_append, List.length_cons, List.length_nil, List.length_set] <;> omega) | decide, ?_⟩) | ((first | refine WPA.ifBt ?_ ?_ | refine WPA.ifBnf ?_ ?_); assumption) | ((first | refine WPA.ifBnt ?_ ?_ | refine WPA.ifBf ?_ ?_); assumption) | ((first | refine WPA.ifs ?_ ?_ | refine WPA.ifB ?_ ?_) <;> intro hc))
    exact QQ.end_ rfl l rfl fun w h => h.unI.to
end
section
variable {L L' : List HP} {w0 : World} {I : Foot}
theorem rID_tr {v : SV} {texts : List ByteArray} {s : ByteArray} [hr : RdS I L v ByteArray inferInstance texts] (hn : texts.length ≤ 1000000000) : TrP Try.prog 85 #[.slice v.a v.n v.cap, .string s] (SL w0 I L) (.int .i64 (max (findT texts s) 0)) := by
  refine TrP.ofD fun u => Tr.intro Try.func85 rfl Try.ntmps85 rfl ?_
  repeat' (first | ((first | refine WLA.m rfl rfl ?_ ?_ | refine WLA.st rfl ?_ ?_ | refine WLA.x rfl rfl ?_ (fun x => ?_) | refine WLA.x0 rfl ?_ (fun x => ?_)); first | exact trivial | exact rfl | assumption | omega | (refine ⟨?_, ?_⟩ <;> omega) | (simp only [Room, List.length_set, List.length_append, List.length_cons, List.length_nil, List.length_replicate]; omega) | decide | skip) | (refine Stp.go ?_) | (guard_target =~ WLA _ _ _ _ _ (⟨_, .call ⟨.value (.func 74), _, _⟩, _, _, _, _⟩ :: _) _ _; refine WLA.cq rfl rfl (rFindS_tr hn) ?_) | (refine WPA.ifT ?_) | (refine WPA.ifF ?_) | ((first | refine WPA.dec ?_); first | refine .inl ⟨by first | assumption | omega | with_reducible rfl | (refine fun h => h ?_; first | assumption | with_reducible rfl) | (simp only [List.length_append, List.length_cons, List.length_nil, List.length_set] <;> omega) | decide, ?_⟩ | refine .inr ⟨by first | assumption | omega | with_reducible rfl | (refine fun h => h ?_; first | assumption | with_reducible rfl) | (simp only [List.length_append, List.length_cons, List.length_nil, List.length_set] <;> omega) | decide, ?_⟩) | ((first | refine WPA.ifBt ?_ ?_ | refine WPA.ifBnf ?_ ?_); assumption) | ((first | refine WPA.ifBnt ?_ ?_ | refine WPA.ifBf ?_ ?_); assumption) | ((first | refine WPA.ifs ?_ ?_ | refine WPA.ifB ?_ ?_) <;> intro hc))
  exact QQ.end_ rfl () rfl fun w h => h
end
section
variable {L L' : List HP} {w0 : World} {I : Foot}
/-- The numbers of words. -/
def idsL (texts ws : List ByteArray) : List Int := ws.map fun s => max (findT texts s) 0
end
section
variable {L L' : List HP} {w0 : World} {I : Foot}
theorem rIDs_tr {v a : SV} {texts ws : List ByteArray} [hv : RdS I L v ByteArray inferInstance texts] [ha : RdS I L a ByteArray inferInstance ws] (hn : texts.length ≤ 1000000000) (hw : ws.length ≤ 1000000) :
    Tr Try.prog 26 #[.slice v.a v.n v.cap, .slice a.a a.n a.cap] (SL w0 I L) (fun r : SV => .slice r.a r.n r.cap) (fun r => SL w0 I (OwnS 3 r (idsL texts ws) :: L)) := by
  refine Tr.intro Try.func26 rfl Try.ntmps26 rfl ?_
  repeat' (first | ((first | refine WLA.m rfl rfl ?_ ?_ | refine WLA.st rfl ?_ ?_ | refine WLA.x rfl rfl ?_ (fun x => ?_) | refine WLA.x0 rfl ?_ (fun x => ?_)); first | exact trivial | exact rfl | assumption | omega | (refine ⟨?_, ?_⟩ <;> omega) | (simp only [Room, List.length_set, List.length_append, List.length_cons, List.length_nil, List.length_replicate]; omega) | decide | skip) | (refine Stp.go ?_) | (refine WPA.ifT ?_) | (refine WPA.ifF ?_) | ((first | refine WPA.dec ?_); first | refine .inl ⟨by first | assumption | omega | with_reducible rfl | (refine fun h => h ?_; first | assumption | with_reducible rfl) | (simp only [List.length_append, List.length_cons, List.length_nil, List.length_set] <;> omega) | decide, ?_⟩ | refine .inr ⟨by first | assumption | omega | with_reducible rfl | (refine fun h => h ?_; first | assumption | with_reducible rfl) | (simp only [List.length_append, List.length_cons, List.length_nil, List.length_set] <;> omega) | decide, ?_⟩) | ((first | refine WPA.ifBt ?_ ?_ | refine WPA.ifBnf ?_ ?_); assumption) | ((first | refine WPA.ifBnt ?_ ?_ | refine WPA.ifBf ?_ ?_); assumption) | ((first | refine WPA.ifs ?_ ?_ | refine WPA.ifB ?_ ?_) <;> intro hc))
  refine WPA.loopS (σ := Nat × SV) (fun y => [(0, .slice v.a v.n v.cap), (1, .slice a.a a.n a.cap), (5, .slice y.2.a y.2.n y.2.cap), (6, .int .i64 y.1)]) (fun y => y.1 ≤ ws.length)
    (fun y => SL w0 I (OwnS 3 y.2 (idsL texts (ws.take y.1)) :: L)) (fun y => ws.length - y.1) (0, SV.nil) ⟨rfl, rfl, rfl, rfl, trivial⟩ (Nat.zero_le _) (fun w h => by
      show SL w0 I (OwnS 3 SV.nil ([] : List Int) :: L) w
      exact h.to) ?_
  rintro ⟨i, r⟩ ρ hi
  dsimp only at hi ⊢
  have hil : (idsL texts (ws.take i)).length = i := by unfold idsL; rw [List.length_map, List.length_take]; omega
  by_cases hlt : i < ws.length
  · have hlt' : (i : Int) < ws.length := by omega
    have hat := at_nat ws i hlt
    have e : idsL texts (ws.take (i + 1)) = idsL texts (ws.take i) ++ [max (findT texts (at_ ws (i : Int))) 0] := by
      unfold idsL
      rw [List.take_add_one, List.getElem?_eq_getElem hlt, hat, List.map_append]; rfl
    repeat' (first | ((first | refine WLA.m rfl rfl ?_ ?_ | refine WLA.st rfl ?_ ?_ | refine WLA.x rfl rfl ?_ (fun x => ?_) | refine WLA.x0 rfl ?_ (fun x => ?_)); first | exact trivial | exact rfl | assumption | omega | (refine ⟨?_, ?_⟩ <;> omega) | (simp only [Room, List.length_set, List.length_append, List.length_cons, List.length_nil, List.length_replicate]; omega) | decide | skip) | (refine Stp.go ?_) | (guard_target =~ WLA _ _ _ _ _ (⟨_, .call ⟨.value (.func 85), _, _⟩, _, _, _, _⟩ :: _) _ _; refine WLA.cq rfl rfl (rID_tr hn) ?_) | (refine WPA.ifT ?_) | (refine WPA.ifF ?_) | ((first | refine WPA.dec ?_); first | refine .inl ⟨by first | assumption | omega | with_reducible rfl | (refine fun h => h ?_; first | assumption | with_reducible rfl) | (simp only [List.length_append, List.length_cons, List.length_nil, List.length_set] <;> omega) | decide, ?_⟩ | refine .inr ⟨by first | assumption | omega | with_reducible rfl | (refine fun h => h ?_; first | assumption | with_reducible rfl) | (simp only [List.length_append, List.length_cons, List.length_nil, List.length_set] <;> omega) | decide, ?_⟩) | ((first | refine WPA.ifBt ?_ ?_ | refine WPA.ifBnf ?_ ?_); assumption) | ((first | refine WPA.ifBnt ?_ ?_ | refine WPA.ifBf ?_ ?_); assumption) | ((first | refine WPA.ifs ?_ ?_ | refine WPA.ifB ?_ ?_) <;> intro hc))
    refine QQ.loopS (i + 1, _) ⟨rfl, rfl, rfl, rfl, trivial⟩ hlt (by dsimp only; omega) (fun w h => ?_)
    dsimp only
    rw [e]
    exact h.to
  · have hlt' : ¬ (i : Int) < ws.length := by omega
    rw [List.take_of_length_le (by omega)]
    repeat' (first | ((first | refine WLA.m rfl rfl ?_ ?_ | refine WLA.st rfl ?_ ?_ | refine WLA.x rfl rfl ?_ (fun x => ?_) | refine WLA.x0 rfl ?_ (fun x => ?_)); first | exact trivial | exact rfl | assumption | omega | (refine ⟨?_, ?_⟩ <;> omega) | (simp only [Room, List.length_set, List.length_append, List.length_cons, List.length_nil, List.length_replicate]; omega) | decide | skip) | (refine Stp.go ?_) | (refine WPA.ifT ?_) | (refine WPA.ifF ?_) | ((first | refine WPA.dec ?_); first | refine .inl ⟨by first | assumption | omega | with_reducible rfl | (refine fun h => h ?_; first | assumption | with_reducible rfl) | (simp only [List.length_append, List.length_cons, List.length_nil, List.length_set] <;> omega) | decide, ?_⟩ | refine .inr ⟨by first | assumption | omega | with_reducible rfl | (refine fun h => h ?_; first | assumption | with_reducible rfl) | (simp only [List.length_append, List.length_cons, List.length_nil, List.length_set] <;> omega) | decide, ?_⟩) | ((first | refine WPA.ifBt ?_ ?_ | refine WPA.ifBnf ?_ ?_); assumption) | ((first | refine WPA.ifBnt ?_ ?_ | refine WPA.ifBf ?_ ?_); assumption) | ((first | refine WPA.ifs ?_ ?_ | refine WPA.ifB ?_ ?_) <;> intro hc))
    exact QQ.end_ rfl r rfl fun w h => h.to
end
end Go.Proofs.Ytlodbajaoadhdaa
