/- Words: the reference's. Conditions: none. -/
import Derived.Test.YtlodbajaoadhdaaTk2
namespace Go.Proofs.Ytlodbajaoadhdaa
open Go Go.Fw Go.RowKit
set_option linter.unusedVariables false
set_option linter.unusedSimpArgs false
set_option maxRecDepth 100000
set_option maxHeartbeats 16000000
set_option synthInstance.maxHeartbeats 200000
set_option synthInstance.maxSize 100000
attribute [local irreducible] WPA WLA WDA WDQ WDE QQ seqQ blockQ loopQ fnQ OpP OpT Tr TrP SL SLd OwnS LitS Bk BkE Ob

theorem pcs_skip {s : ByteArray} {f i : Nat} (h : i < s.size) (hb : ¬ BlankP (bt s (i : Nat))) : pcs s f (s.size + 1 - i) = pcs s f (s.size + 1 - (i + 1)) := by
  have ek : s.size + 1 - i = (s.size - i) + 1 := by omega
  have ei : s.size - (s.size - i) = i := by omega
  rw [ek, pcs, ei, if_pos ⟨h, hb⟩]
  congr 1; omega
theorem pcs_end {s : ByteArray} {f i : Nat} (h : i ≤ s.size) (hb : i < s.size → BlankP (bt s (i : Nat))) (hf : f ≤ i) : pcs s f (s.size + 1 - i) = if f < i then s.extract f i :: pcs s (i + 1) (s.size + 1 - (i + 1)) else pcs s (i + 1) (s.size + 1 - (i + 1)) := by
  have ek : s.size + 1 - i = (s.size - i) + 1 := by omega
  have ei : s.size - (s.size - i) = i := by omega
  have e3 : s.size + 1 - (i + 1) = s.size - i := by omega
  rw [ek, pcs, ei, if_neg (fun h => h.2 (hb h.1)), e3]
theorem mark_small {p : ByteArray} (h : MarkP p) : p.size ≤ 255 := by
  rcases h with rfl | rfl <;> decide
/-- Where, the words so far, their slice. -/
structure RW where
  i : Nat
  out : List ByteArray
  r : SV
theorem rWords_tr {s : ByteArray} {L : List HP} (w0 : World) (I : Foot) (hs : s.size ≤ 1000000) : Tr Try.prog 124 #[.string s] (SL w0 I L) (fun r : SV => .slice r.a r.n r.cap) (fun r => SL w0 I (OwnS 9 r (wordsL s) :: L)) := by
  refine Tr.intro Try.func124 rfl Try.ntmps124 rfl ?_
  repeat' (first | ((first | refine WLA.m rfl rfl ?_ ?_ | refine WLA.st rfl ?_ ?_ | refine WLA.x rfl rfl ?_ (fun x => ?_) | refine WLA.x0 rfl ?_ (fun x => ?_)); first | exact trivial | exact rfl | assumption | omega | (refine ⟨?_, ?_⟩ <;> omega) | (simp only [Room, List.length_set, List.length_append, List.length_cons, List.length_nil, List.length_replicate]; omega) | decide | skip) | (refine Stp.go ?_) | (refine WPA.ifT ?_) | (refine WPA.ifF ?_) | ((first | refine WPA.dec ?_); first | refine .inl ⟨by first | assumption | omega | with_reducible rfl | (refine fun h => h ?_; first | assumption | with_reducible rfl) | (simp only [List.length_append, List.length_cons, List.length_nil, List.length_set] <;> omega) | decide, ?_⟩ | refine .inr ⟨by first | assumption | omega | with_reducible rfl | (refine fun h => h ?_; first | assumption | with_reducible rfl) | (simp only [List.length_append, List.length_cons, List.length_nil, List.length_set] <;> omega) | decide, ?_⟩) | ((first | refine WPA.ifBt ?_ ?_ | refine WPA.ifBnf ?_ ?_); assumption) | ((first | refine WPA.ifBnt ?_ ?_ | refine WPA.ifBf ?_ ?_); assumption) | ((first | refine WPA.ifs ?_ ?_ | refine WPA.ifB ?_ ?_) <;> intro hc))
  refine WPA.loopS (σ := RW) (fun x => [(0, .string s), (3, .slice x.r.a x.r.n x.r.cap), (4, .int .i64 x.i)]) (fun x => x.i ≤ s.size ∧ x.out ++ (pcs s x.i (s.size + 1 - x.i)).flatMap wd = wordsL s ∧ x.out.length ≤ x.i)
    (fun x => SL w0 I (OwnS 9 x.r x.out :: L)) (fun x => s.size - x.i) ⟨0, [], SV.nil⟩ ⟨rfl, rfl, rfl, trivial⟩ ⟨Nat.zero_le _, rfl, Nat.le_refl _⟩ (fun w h => h.to) ?_
  rintro ⟨i, out, r⟩ ρ ⟨hi, hC, ho⟩
  dsimp only at hi hC ho ⊢
  by_cases hlt : i < s.size
  · have hlt' : (i : Int) < s.size := by omega
    by_cases hb : BlankP (bt s (i : Nat))
    · have hd : decide (BlankP (bt s (i : Nat))) = true := decide_eq_true hb
      repeat' (first | ((first | refine WLA.m rfl rfl ?_ ?_ | refine WLA.st rfl ?_ ?_ | refine WLA.x rfl rfl ?_ (fun x => ?_) | refine WLA.x0 rfl ?_ (fun x => ?_)); first | exact trivial | exact rfl | assumption | omega | (refine ⟨?_, ?_⟩ <;> omega) | (simp only [Room, List.length_set, List.length_append, List.length_cons, List.length_nil, List.length_replicate]; omega) | decide | skip) | (refine Stp.go ?_) | (guard_target =~ WLA _ _ _ _ _ (⟨_, .call ⟨.value (.func 112), _, _⟩, _, _, _, _⟩ :: _) _ _; refine WLA.cq rfl rfl (rBlank_tr) ?_) | (refine WPA.ifT ?_) | (refine WPA.ifF ?_) | ((first | refine WPA.dec ?_); first | refine .inl ⟨by first | assumption | omega | with_reducible rfl | (refine fun h => h ?_; first | assumption | with_reducible rfl) | (simp only [List.length_append, List.length_cons, List.length_nil, List.length_set] <;> omega) | decide, ?_⟩ | refine .inr ⟨by first | assumption | omega | with_reducible rfl | (refine fun h => h ?_; first | assumption | with_reducible rfl) | (simp only [List.length_append, List.length_cons, List.length_nil, List.length_set] <;> omega) | decide, ?_⟩) | ((first | refine WPA.ifBt ?_ ?_ | refine WPA.ifBnf ?_ ?_); assumption) | ((first | refine WPA.ifBnt ?_ ?_ | refine WPA.ifBf ?_ ?_); assumption) | ((first | refine WPA.ifs ?_ ?_ | refine WPA.ifB ?_ ?_) <;> intro hc))
      rw [pcs_end hi (fun _ => hb) (Nat.le_refl _), if_neg (by omega)] at hC
      exact QQ.loopS ⟨i + 1, out, r⟩ ⟨rfl, rfl, rfl, trivial⟩ ⟨hlt, hC, by dsimp only; omega⟩ (by dsimp only; omega) (fun w h => h.to)
    · have hd : decide (BlankP (bt s (i : Nat))) = false := decide_eq_false hb
      repeat' (first | ((first | refine WLA.m rfl rfl ?_ ?_ | refine WLA.st rfl ?_ ?_ | refine WLA.x rfl rfl ?_ (fun x => ?_) | refine WLA.x0 rfl ?_ (fun x => ?_)); first | exact trivial | exact rfl | assumption | omega | (refine ⟨?_, ?_⟩ <;> omega) | (simp only [Room, List.length_set, List.length_append, List.length_cons, List.length_nil, List.length_replicate]; omega) | decide | skip) | (refine Stp.go ?_) | (guard_target =~ WLA _ _ _ _ _ (⟨_, .call ⟨.value (.func 112), _, _⟩, _, _, _, _⟩ :: _) _ _; refine WLA.cq rfl rfl (rBlank_tr) ?_) | (refine WPA.ifT ?_) | (refine WPA.ifF ?_) | ((first | refine WPA.dec ?_); first | refine .inl ⟨by first | assumption | omega | with_reducible rfl | (refine fun h => h ?_; first | assumption | with_reducible rfl) | (simp only [List.length_append, List.length_cons, List.length_nil, List.length_set] <;> omega) | decide, ?_⟩ | refine .inr ⟨by first | assumption | omega | with_reducible rfl | (refine fun h => h ?_; first | assumption | with_reducible rfl) | (simp only [List.length_append, List.length_cons, List.length_nil, List.length_set] <;> omega) | decide, ?_⟩) | ((first | refine WPA.ifBt ?_ ?_ | refine WPA.ifBnf ?_ ?_); assumption) | ((first | refine WPA.ifBnt ?_ ?_ | refine WPA.ifBf ?_ ?_); assumption) | ((first | refine WPA.ifs ?_ ?_ | refine WPA.ifB ?_ ?_) <;> intro hc))
      refine WPA.loopS (σ := Nat) (fun n => [(0, .string s), (3, .slice r.a r.n r.cap), (4, .int .i64 i), (5, .int .i64 n)]) (fun n => i + n ≤ s.size ∧ pcs s i (s.size + 1 - i) = pcs s i (s.size + 1 - (i + n)))
        (fun n => SL w0 I (OwnS 9 r out :: L)) (fun n => s.size - (i + n)) 0 ⟨rfl, rfl, rfl, rfl, trivial⟩ ⟨by omega, rfl⟩ (fun w h => h.to) ?_
      rintro n ρ2 ⟨hn, hp⟩
      have hcast : ((i + n : Nat) : Int) = (i : Int) + n := by omega
      by_cases hw : i + n < s.size ∧ ¬ BlankP (bt s ((i + n : Nat) : Int))
      · have h1 : (n : Int) < s.size - i := by omega
        have h2 := hw.2
        rw [hcast] at h2
        repeat' (first | ((first | refine WLA.m rfl rfl ?_ ?_ | refine WLA.st rfl ?_ ?_ | refine WLA.x rfl rfl ?_ (fun x => ?_) | refine WLA.x0 rfl ?_ (fun x => ?_)); first | exact trivial | exact rfl | assumption | omega | (refine ⟨?_, ?_⟩ <;> omega) | (simp only [Room, List.length_set, List.length_append, List.length_cons, List.length_nil, List.length_replicate]; omega) | decide | skip) | (refine Stp.go ?_) | (guard_target =~ WLA _ _ _ _ _ (⟨_, .call ⟨.value (.func 112), _, _⟩, _, _, _, _⟩ :: _) _ _; refine WLA.cq rfl rfl (rBlank_tr) ?_) | (refine WPA.ifT ?_) | (refine WPA.ifF ?_) | (refine WLA.no rfl rfl ?_) | ((first | refine WPA.dec ?_ | ((fail_if_success (guard_target =~ WLA _ _ _ _ _ _ (put1 _ _ (.bool true)) _)); (fail_if_success (guard_target =~ WLA _ _ _ _ _ _ (put1 _ _ (.bool false)) _)); refine WLA.dec rfl rfl ?_) | refine WLA.pk ?_); first | refine .inl ⟨by first | assumption | omega | with_reducible rfl | (refine fun h => h ?_; first | assumption | with_reducible rfl) | (simp only [List.length_append, List.length_cons, List.length_nil, List.length_set] <;> omega) | decide, ?_⟩ | refine .inr ⟨by first | assumption | omega | with_reducible rfl | (refine fun h => h ?_; first | assumption | with_reducible rfl) | (simp only [List.length_append, List.length_cons, List.length_nil, List.length_set] <;> omega) | decide, ?_⟩) | ((first | refine WPA.ifBt ?_ ?_ | refine WPA.ifBnf ?_ ?_); assumption) | ((first | refine WPA.ifBnt ?_ ?_ | refine WPA.ifBf ?_ ?_); assumption) | ((first | refine WPA.ifs ?_ ?_ | refine WPA.ifB ?_ ?_) <;> intro hc) | ((fail_if_success (guard_target =~ WLA _ _ _ _ _ _ (put1 _ _ (.bool true)) _)); (fail_if_success (guard_target =~ WLA _ _ _ _ _ _ (put1 _ _ (.bool false)) _)); (first | refine WLA.both rfl rfl ?_ ?_ | refine WLA.bothB rfl rfl ?_ ?_) <;> intro hg))
        exact QQ.loopS (n + 1) ⟨rfl, rfl, rfl, rfl, trivial⟩ ⟨by omega, by rw [hp, pcs_skip hw.1 hw.2]; rfl⟩ (by omega) (fun w h => h)
      · have hbl : i + n < s.size → BlankP (bt s ((i + n : Nat) : Int)) := fun h => Classical.byContradiction fun h2 => hw ⟨h, h2⟩
        have hn1 : 1 ≤ n := by
          rcases Nat.eq_zero_or_pos n with h0 | h0
          · subst h0; exact absurd ⟨hlt, hb⟩ hw
          · exact h0
        have hr : pcs s (i + n) (s.size + 1 - (i + n)) = pcs s (i + n + 1) (s.size + 1 - (i + n + 1)) := by rw [pcs_end hn hbl (Nat.le_refl _), if_neg (by omega)]
        rw [hp, pcs_end hn hbl (by omega), if_pos (by omega), ← hr, List.flatMap_cons] at hC
        have hsz : (s.extract i (i + n)).size = n := by simp; omega
        have hwl := wd_len (s.extract i (i + n))
        have done : ∀ (r' : SV) (ρ' : Env) (os : List ByteArray), os = out ++ wd (s.extract i (i + n)) → (⟨i + n, os, r'⟩ : RW).i ≤ s.size ∧ (⟨i + n, os, r'⟩ : RW).out ++ (pcs s (⟨i + n, os, r'⟩ : RW).i (s.size + 1 - (⟨i + n, os, r'⟩ : RW).i)).flatMap wd = wordsL s ∧ (⟨i + n, os, r'⟩ : RW).out.length ≤ (⟨i + n, os, r'⟩ : RW).i := by
          intro r' ρ' os e
          subst e
          exact ⟨hn, by dsimp only; rw [List.append_assoc]; exact hC, by dsimp only; rw [List.length_append]; omega⟩
        by_cases hA : i + n < s.size
        case' pos =>
          have h1 : (n : Int) < s.size - i := by omega
          have h2 := hbl hA
          rw [hcast] at h2
          have h3 : ¬ ¬ BlankP (bt s ((i : Int) + n)) := fun h => h h2
        case' neg =>
          have h1 : ¬ (n : Int) < s.size - i := by omega
        all_goals
          repeat' ((fail_if_success (guard_target =~ WPA _ _ _ (.region 10 _ _) _ _ _)); first | ((first | refine WLA.m rfl rfl ?_ ?_ | refine WLA.st rfl ?_ ?_ | refine WLA.x rfl rfl ?_ (fun x => ?_) | refine WLA.x0 rfl ?_ (fun x => ?_)); first | exact trivial | exact rfl | assumption | omega | (refine ⟨?_, ?_⟩ <;> omega) | (simp only [Room, List.length_set, List.length_append, List.length_cons, List.length_nil, List.length_replicate]; omega) | decide | skip) | (refine Stp.go ?_) | (guard_target =~ WLA _ _ _ _ _ (⟨_, .call ⟨.value (.func 112), _, _⟩, _, _, _, _⟩ :: _) _ _; refine WLA.cq rfl rfl (rBlank_tr) ?_) | (refine WPA.ifT ?_) | (refine WPA.ifF ?_) | (refine WLA.no rfl rfl ?_) | ((first | refine WPA.dec ?_ | ((fail_if_success (guard_target =~ WLA _ _ _ _ _ _ (put1 _ _ (.bool true)) _)); (fail_if_success (guard_target =~ WLA _ _ _ _ _ _ (put1 _ _ (.bool false)) _)); refine WLA.dec rfl rfl ?_) | refine WLA.pk ?_); first | refine .inl ⟨by first | assumption | omega | with_reducible rfl | (refine fun h => h ?_; first | assumption | with_reducible rfl) | (simp only [List.length_append, List.length_cons, List.length_nil, List.length_set] <;> omega) | decide, ?_⟩ | refine .inr ⟨by first | assumption | omega | with_reducible rfl | (refine fun h => h ?_; first | assumption | with_reducible rfl) | (simp only [List.length_append, List.length_cons, List.length_nil, List.length_set] <;> omega) | decide, ?_⟩) | ((first | refine WPA.ifBt ?_ ?_ | refine WPA.ifBnf ?_ ?_); assumption) | ((first | refine WPA.ifBnt ?_ ?_ | refine WPA.ifBf ?_ ?_); assumption) | ((first | refine WPA.ifs ?_ ?_ | refine WPA.ifB ?_ ?_) <;> intro hc) | ((fail_if_success (guard_target =~ WLA _ _ _ _ _ _ (put1 _ _ (.bool true)) _)); (fail_if_success (guard_target =~ WLA _ _ _ _ _ _ (put1 _ _ (.bool false)) _)); (first | refine WLA.both rfl rfl ?_ ?_ | refine WLA.bothB rfl rfl ?_ ?_) <;> intro hg))
        all_goals
          generalize hpp : s.extract (i : Int).toNat ((i : Int) + n).toNat = p
          have hpe : s.extract i (i + n) = p := hpp
          rw [hpe] at hsz done
          by_cases hbig : (255 : Int) < n
          case' pos =>
            have hwd : wd p = [⟨#[60, 117, 110, 107, 62]⟩] := by unfold wd; rw [if_neg (fun h => by have := mark_small h; omega), if_pos (by omega)]
            have hd2 : decide (MarkP ⟨#[60, 117, 110, 107, 62]⟩) = false := by decide
          case' neg =>
            by_cases hm : MarkP p
            case' pos =>
              have hwd : wd p = [] := if_pos hm
              have hd2 : decide (MarkP p) = true := decide_eq_true hm
            case' neg =>
              have hwd : wd p = [p] := by unfold wd; rw [if_neg hm, if_neg (by omega)]
              have hd2 : decide (MarkP p) = false := decide_eq_false hm
          all_goals
            rw [hwd] at done
            repeat' (first | ((first | refine WLA.m rfl rfl ?_ ?_ | refine WLA.st rfl ?_ ?_ | refine WLA.x rfl rfl ?_ (fun x => ?_) | refine WLA.x0 rfl ?_ (fun x => ?_)); first | exact trivial | exact rfl | assumption | omega | (refine ⟨?_, ?_⟩ <;> omega) | (simp only [Room, List.length_set, List.length_append, List.length_cons, List.length_nil, List.length_replicate]; omega) | decide | skip) | (refine Stp.go ?_) | (guard_target =~ WLA _ _ _ _ _ (⟨_, .call ⟨.value (.func 113), _, _⟩, _, _, _, _⟩ :: _) _ _; refine WLA.cq rfl rfl (rMark_tr) ?_) | (refine WPA.ifT ?_) | (refine WPA.ifF ?_) | (refine WLA.no rfl rfl ?_) | ((first | refine WPA.dec ?_ | ((fail_if_success (guard_target =~ WLA _ _ _ _ _ _ (put1 _ _ (.bool true)) _)); (fail_if_success (guard_target =~ WLA _ _ _ _ _ _ (put1 _ _ (.bool false)) _)); refine WLA.dec rfl rfl ?_) | refine WLA.pk ?_); first | refine .inl ⟨by first | assumption | omega | with_reducible rfl | (refine fun h => h ?_; first | assumption | with_reducible rfl) | (simp only [List.length_append, List.length_cons, List.length_nil, List.length_set] <;> omega) | decide, ?_⟩ | refine .inr ⟨by first | assumption | omega | with_reducible rfl | (refine fun h => h ?_; first | assumption | with_reducible rfl) | (simp only [List.length_append, List.length_cons, List.length_nil, List.length_set] <;> omega) | decide, ?_⟩) | ((first | refine WPA.ifBt ?_ ?_ | refine WPA.ifBnf ?_ ?_); assumption) | ((first | refine WPA.ifBnt ?_ ?_ | refine WPA.ifBf ?_ ?_); assumption) | ((first | refine WPA.ifs ?_ ?_ | refine WPA.ifB ?_ ?_) <;> intro hc) | ((fail_if_success (guard_target =~ WLA _ _ _ _ _ _ (put1 _ _ (.bool true)) _)); (fail_if_success (guard_target =~ WLA _ _ _ _ _ _ (put1 _ _ (.bool false)) _)); (first | refine WLA.both rfl rfl ?_ ?_ | refine WLA.bothB rfl rfl ?_ ?_) <;> intro hg))
        all_goals first
          | exact QQ.loopS ⟨i + n, out ++ [p], x⟩ ⟨rfl, rfl, rfl, trivial⟩ (done x ρ _ rfl) (by dsimp only; omega) (fun w h => h.to)
          | exact QQ.loopS ⟨i + n, out ++ [⟨#[60, 117, 110, 107, 62]⟩], x⟩ ⟨rfl, rfl, rfl, trivial⟩ (done x ρ _ rfl) (by dsimp only; omega) (fun w h => h.to)
          | exact QQ.loopS ⟨i + n, out, r⟩ ⟨rfl, rfl, rfl, trivial⟩ (done r ρ _ (by simp)) (by dsimp only; omega) (fun w h => h.to)
  · have hlt' : ¬ (i : Int) < s.size := by omega
    have e : i = s.size := by omega
    subst e
    rw [pcs_end hi (fun h => absurd h (by omega)) (Nat.le_refl _), if_neg (by omega), Nat.sub_self, pcs, List.flatMap_nil, List.append_nil] at hC
    subst hC
    repeat' (first | ((first | refine WLA.m rfl rfl ?_ ?_ | refine WLA.st rfl ?_ ?_ | refine WLA.x rfl rfl ?_ (fun x => ?_) | refine WLA.x0 rfl ?_ (fun x => ?_)); first | exact trivial | exact rfl | assumption | omega | (refine ⟨?_, ?_⟩ <;> omega) | (simp only [Room, List.length_set, List.length_append, List.length_cons, List.length_nil, List.length_replicate]; omega) | decide | skip) | (refine Stp.go ?_) | (refine WPA.ifT ?_) | (refine WPA.ifF ?_) | (refine WLA.no rfl rfl ?_) | ((first | refine WPA.dec ?_ | ((fail_if_success (guard_target =~ WLA _ _ _ _ _ _ (put1 _ _ (.bool true)) _)); (fail_if_success (guard_target =~ WLA _ _ _ _ _ _ (put1 _ _ (.bool false)) _)); refine WLA.dec rfl rfl ?_) | refine WLA.pk ?_); first | refine .inl ⟨by first | assumption | omega | with_reducible rfl | (refine fun h => h ?_; first | assumption | with_reducible rfl) | (simp only [List.length_append, List.length_cons, List.length_nil, List.length_set] <;> omega) | decide, ?_⟩ | refine .inr ⟨by first | assumption | omega | with_reducible rfl | (refine fun h => h ?_; first | assumption | with_reducible rfl) | (simp only [List.length_append, List.length_cons, List.length_nil, List.length_set] <;> omega) | decide, ?_⟩) | ((first | refine WPA.ifBt ?_ ?_ | refine WPA.ifBnf ?_ ?_); assumption) | ((first | refine WPA.ifBnt ?_ ?_ | refine WPA.ifBf ?_ ?_); assumption) | ((first | refine WPA.ifs ?_ ?_ | refine WPA.ifB ?_ ?_) <;> intro hc) | ((fail_if_success (guard_target =~ WLA _ _ _ _ _ _ (put1 _ _ (.bool true)) _)); (fail_if_success (guard_target =~ WLA _ _ _ _ _ _ (put1 _ _ (.bool false)) _)); (first | refine WLA.both rfl rfl ?_ ?_ | refine WLA.bothB rfl rfl ?_ ?_) <;> intro hg))
    exact QQ.end_ rfl r rfl fun w h => h
end Go.Proofs.Ytlodbajaoadhdaa
