/- Texts that ArpaParses_law leans on, part 17. Conditions: none. -/
import Derived.Test.YthkhneimfjaohaaGreatDoorQq16
namespace Go.Proofs.YthkhneimfjaohaaGreatDoor
open Go Go.Fw Go.RowKit
set_option linter.unusedVariables false
set_option linter.unusedSimpArgs false
set_option maxRecDepth 100000
set_option maxHeartbeats 16000000
set_option synthInstance.maxHeartbeats 200000
set_option synthInstance.maxSize 100000
attribute [local irreducible] WPA WLA WDA WDQ WDE QQ seqQ blockQ loopQ fnQ OpP OpT Tr TrP SL SLd OwnS LitS Bk BkE Ob
attribute [local irreducible] NumOk EntOk
abbrev St39 := Except (Int × Int) (ByteArray × Int)
def TxH (P : Nat) (y : SV × Int × Int) : HP := Bk P 76 [.slice y.1.a y.1.n y.1.cap, .int .i64 y.2.1, .int .i64 y.2.2]
def stV (lv : SV) : St39 → SV × Int × Int
  | .ok q => (lv, q.2, 0)
  | .error y => (lv, y.1, y.2)
def stOk (Ls : List ByteArray) : St39 → Prop
  | .ok q => (0 ≤ q.2 ∧ q.2 + q.1.size ≤ 1000000) ∧ Ls.drop q.2.toNat = splB q.1 10
  | .error y => y.2 ≠ 0
def takeT : St39 → ByteArray × Bool × St39
  | .ok q => if 0 ≤ atB q.1 10 then (befB q.1 10, true, .ok (aftB q.1 10, q.2 + 1)) else (⟨#[]⟩, false, .error (q.2 + 1, 2))
  | .error y => (⟨#[]⟩, false, .error y)
def badT : St39 → St39
  | .ok q => .error (q.2, 3)
  | .error y => .error y
theorem badT_ok {Ls : List ByteArray} {st : St39} (h : stOk Ls st) : stOk Ls (badT st) := by
  cases st with
  | ok q => show (3 : Int) ≠ 0; decide
  | error y => exact h
theorem takeT_ok {Ls : List ByteArray} {st : St39} (h : stOk Ls st) : stOk Ls (takeT st).2.2 := by
  cases st with
  | error y => exact h
  | ok q =>
    obtain ⟨⟨h1, h2⟩, h3⟩ := h
    unfold takeT
    dsimp only
    by_cases h0 : 0 ≤ atB q.1 10
    · rw [if_pos h0]
      have := aft_size h0
      rw [spl_yes h0] at h3
      refine ⟨⟨by dsimp only; omega, by dsimp only; omega⟩, ?_⟩
      dsimp only
      rw [show (q.2 + 1).toNat = q.2.toNat + 1 by omega, ← List.drop_drop, h3]; rfl
    · rw [if_neg h0]; show (2 : Int) ≠ 0; decide
section
variable {L L' : List HP} {w0 : World} {I : Foot}
theorem take_trR {P : Nat} {lv : SV} {Ls : List ByteArray} {st : St39} [h : FindK L TxH P (stV lv st) L'] [hl : SlI I lv ByteArray inferInstance Ls] (ho : stOk Ls st) :
    Tr Tryz.prog 35 #[.pointer (some ⟨P, 0, none⟩)] (SL w0 I L) (fun _ : Unit => .tuple #[.string (takeT st).1, .bool (takeT st).2.1]) (fun _ => SL w0 I (TxH P (stV lv (takeT st).2.2) :: L')) := by
  refine Tr.at h.out ?_
  refine Tr.intro Tryz.func35 rfl Tryz.ntmps35 rfl ?_
  cases st with
  | error y =>
    have hy : y.2 ≠ 0 := ho
    unfold takeT stV TxH
    dsimp only
    repeat' (first | ((first | refine WLA.m rfl rfl ?_ ?_ | refine WLA.st rfl ?_ ?_ | refine WLA.x rfl rfl ?_ (fun x => ?_) | refine WLA.x0 rfl ?_ (fun x => ?_)); first | exact sdT | skip) | (refine Stp.go ?_) | (refine WPA.ifT ?_) | (refine WPA.ifF ?_) | ((first | refine WPA.dec ?_); first | refine orL ?_ | refine orR ?_) | ((first | refine WPA.ifBt ?_ ?_ | refine WPA.ifBnf ?_ ?_); assumption) | ((first | refine WPA.ifBnt ?_ ?_ | refine WPA.ifBf ?_ ?_); assumption) | ((first | refine WPA.ifs ?_ ?_ | refine WPA.ifB ?_ ?_) <;> intro hc))
    exact QQ.end_ rfl () rfl fun w h => h.to
  | ok q =>
    obtain ⟨r, n⟩ := q
    obtain ⟨⟨h1, h2⟩, h3⟩ := ho
    dsimp only at h1 h2 h3
    have hlen := congrArg List.length h3
    rw [List.length_drop] at hlen
    have hz : ¬ ((0 : Int) ≠ 0) := fun h => h rfl
    unfold takeT stV TxH
    dsimp only
    by_cases h0 : 0 ≤ atB r 10
    · rw [if_pos h0]
      dsimp only
      rw [spl_yes h0] at h3 hlen
      rw [List.length_cons] at hlen
      have hlp : 0 < (splB (aftB r 10) 10).length := List.length_pos_iff.2 (spl_ne _ _)
      have hge : ¬ (n + 1 ≥ (Ls.length : Int)) := by omega
      have hge' : ¬ ((Ls.length : Int) ≤ n + 1) := by omega
      have e1 : n + 1 - 1 = n := by omega
      have hir : 0 ≤ n ∧ n < Ls.length := by omega
      have hat : at_ Ls n = befB r 10 := by
        unfold at_
        rw [List.getD_eq_getElem?_getD]
        have := congrArg (fun l => l[0]?) h3
        simp only [List.getElem?_drop, List.getElem?_cons_zero, Nat.add_zero] at this
        rw [this]; rfl
      repeat' (first | ((rw [e1])) | ((rw [hat])) | ((first | refine WLA.m rfl rfl ?_ ?_ | refine WDQ.m rfl rfl ?_ ?_ | refine WLA.st rfl ?_ ?_ | refine WLA.x rfl rfl ?_ (fun x => ?_) | refine WLA.x0 rfl ?_ (fun x => ?_)); first | exact sdT | skip) | (refine Stp.go ?_) | (refine WPA.ifT ?_) | (refine WPA.ifF ?_) | ((first | refine WPA.dec ?_); first | refine orL ?_ | refine orR ?_) | ((first | refine WPA.ifBt ?_ ?_ | refine WPA.ifBnf ?_ ?_); assumption) | ((first | refine WPA.ifBnt ?_ ?_ | refine WPA.ifBf ?_ ?_); assumption) | ((first | refine WPA.ifs ?_ ?_ | refine WPA.ifB ?_ ?_) <;> intro hc) | (guard_target =~ WPA _ _ _ (.region 4 _ true) _ _ _; refine WPA.drawT 9 (.q 0 (.q 1 (.q 2 (.q 3 (.q 4 (.q 5 (.q 6 (.q 7 (.q 8 .fin))))))))) mixed ?_ ?_; kernel_rfl) | (guard_target =~ WPA _ _ _ (.region 7 _ true) _ _ _; refine WPA.drawT 9 (.q 0 (.q 1 (.q 2 (.q 3 (.q 4 (.q 5 (.q 6 (.q 7 (.q 8 .fin))))))))) mixed ?_ ?_; kernel_rfl) | (refine WDA.finish (tl := [⟨_, _, _, _, _, _⟩]) rfl ?_) | (refine WDA.finish (tl := [⟨_, _, _, _, _, _⟩, ⟨_, _, _, _, _, _⟩, ⟨_, _, _, _, _, _⟩, ⟨_, _, _, _, _, _⟩]) rfl ?_) | (refine WDQ.see rfl ?_))
      all_goals exact QQ.end_ rfl () rfl fun w h => h.to
    · rw [if_neg h0]
      dsimp only
      rw [spl_no h0] at h3 hlen
      have hge : n + 1 ≥ (Ls.length : Int) := by have : [r].length = 1 := rfl; omega
      have hge' : (Ls.length : Int) ≤ n + 1 := hge
      repeat' (first | ((first | refine WLA.m rfl rfl ?_ ?_ | refine WDQ.m rfl rfl ?_ ?_ | refine WLA.st rfl ?_ ?_ | refine WLA.x rfl rfl ?_ (fun x => ?_) | refine WLA.x0 rfl ?_ (fun x => ?_)); first | exact sdT | skip) | (refine Stp.go ?_) | (refine WPA.ifT ?_) | (refine WPA.ifF ?_) | ((first | refine WPA.dec ?_); first | refine orL ?_ | refine orR ?_) | ((first | refine WPA.ifBt ?_ ?_ | refine WPA.ifBnf ?_ ?_); assumption) | ((first | refine WPA.ifBnt ?_ ?_ | refine WPA.ifBf ?_ ?_); assumption) | ((first | refine WPA.ifs ?_ ?_ | refine WPA.ifB ?_ ?_) <;> intro hc) | (guard_target =~ WPA _ _ _ (.region 4 _ true) _ _ _; refine WPA.drawT 9 (.q 0 (.q 1 (.q 2 (.q 3 (.q 4 (.q 5 (.q 6 (.q 7 (.q 8 .fin))))))))) mixed ?_ ?_; kernel_rfl) | (refine WDA.finish (tl := [⟨_, _, _, _, _, _⟩]) rfl ?_) | (refine WDQ.see rfl ?_))
      all_goals exact QQ.end_ rfl () rfl fun w h => h.to
theorem bad_trR {P : Nat} {lv : SV} {Ls : List ByteArray} {st : St39} [h : FindK L TxH P (stV lv st) L'] (ho : stOk Ls st) :
    Tr Tryz.prog 37 #[.pointer (some ⟨P, 0, none⟩)] (SL w0 I L) (fun _ : Unit => .tuple #[]) (fun _ => SL w0 I (TxH P (stV lv (badT st)) :: L')) := by
  refine Tr.at h.out ?_
  refine Tr.intro Tryz.func37 rfl Tryz.ntmps37 rfl ?_
  cases st with
  | error y =>
    have hy : y.2 ≠ 0 := ho
    unfold badT stV TxH
    dsimp only
    repeat' (first | ((first | refine WLA.m rfl rfl ?_ ?_ | refine WLA.st rfl ?_ ?_ | refine WLA.x rfl rfl ?_ (fun x => ?_) | refine WLA.x0 rfl ?_ (fun x => ?_)); first | exact sdT | skip) | (refine Stp.go ?_) | (refine WPA.ifT ?_) | (refine WPA.ifF ?_) | ((first | refine WPA.dec ?_); first | refine orL ?_ | refine orR ?_) | ((first | refine WPA.ifBt ?_ ?_ | refine WPA.ifBnf ?_ ?_); assumption) | ((first | refine WPA.ifBnt ?_ ?_ | refine WPA.ifBf ?_ ?_); assumption) | ((first | refine WPA.ifs ?_ ?_ | refine WPA.ifB ?_ ?_) <;> intro hc))
    exact QQ.endn rfl () rfl fun w h => h.to
  | ok q =>
    have hz : (0 : Int) = 0 := rfl
    unfold badT stV TxH
    dsimp only
    repeat' (first | ((first | refine WLA.m rfl rfl ?_ ?_ | refine WLA.st rfl ?_ ?_ | refine WLA.x rfl rfl ?_ (fun x => ?_) | refine WLA.x0 rfl ?_ (fun x => ?_)); first | exact sdT | skip) | (refine Stp.go ?_) | (refine WPA.ifT ?_) | (refine WPA.ifF ?_) | ((first | refine WPA.dec ?_); first | refine orL ?_ | refine orR ?_) | ((first | refine WPA.ifBt ?_ ?_ | refine WPA.ifBnf ?_ ?_); assumption) | ((first | refine WPA.ifBnt ?_ ?_ | refine WPA.ifBf ?_ ?_); assumption) | ((first | refine WPA.ifs ?_ ?_ | refine WPA.ifB ?_ ?_) <;> intro hc))
    exact QQ.endn rfl () rfl fun w h => h.to
def wantT (s : ByteArray) (st : St39) : St39 := if (takeT st).2.1 = true ∧ (takeT st).1 ≠ s then badT (takeT st).2.2 else (takeT st).2.2
theorem wantT_ok {Ls : List ByteArray} {st : St39} {s : ByteArray} (h : stOk Ls st) : stOk Ls (wantT s st) := by
  unfold wantT
  split
  · exact badT_ok (takeT_ok h)
  · exact takeT_ok h
theorem want_trR {P : Nat} {lv : SV} {Ls : List ByteArray} {st : St39} {s : ByteArray} [h : FindK L TxH P (stV lv st) L'] [hl : SlI I lv ByteArray inferInstance Ls] (ho : stOk Ls st) :
    Tr Tryz.prog 34 #[.pointer (some ⟨P, 0, none⟩), .string s] (SL w0 I L) (fun _ : Unit => .tuple #[]) (fun _ => SL w0 I (TxH P (stV lv (wantT s st)) :: L')) := by
  refine Tr.at h.out ?_
  refine Tr.intro Tryz.func34 rfl Tryz.ntmps34 rfl ?_
  have ht := fun {L L' : List HP} [FindK L TxH P (stV lv st) L'] => take_trR (w0 := w0) (I := I) (L := L) (L' := L') (P := P) (lv := lv) ho
  have ho2 := takeT_ok ho
  unfold wantT
  obtain ⟨q, hq⟩ : ∃ q, takeT st = q := ⟨_, rfl⟩
  rw [hq] at ht ho2 ⊢
  obtain ⟨l, ok, st2⟩ := q
  dsimp only at ht ho2 ⊢
  have hb := fun {L L' : List HP} [FindK L TxH P (stV lv st2) L'] => bad_trR (w0 := w0) (I := I) (L := L) (L' := L') (P := P) (lv := lv) ho2
  cases ok
  · rw [if_neg (fun k => by cases k.1)]
    repeat' (first | ((first | refine WLA.m rfl rfl ?_ ?_ | refine WLA.st rfl ?_ ?_ | refine WLA.x rfl rfl ?_ (fun x => ?_) | refine WLA.x0 rfl ?_ (fun x => ?_)); first | exact sdT | skip) | (refine Stp.go ?_) | (guard_target =~ WLA _ _ _ _ _ (⟨_, .call ⟨.value (.func 35), _, _⟩, _, _, _, _⟩ :: _) _ _; refine WLA.call rfl rfl (ht) ?_; rintro ⟨⟩) | (refine WPA.ifT ?_) | (refine WPA.ifF ?_) | (refine WLA.no rfl rfl ?_) | ((first | refine WPA.dec ?_ | ((fail_if_success (guard_target =~ WLA _ _ _ _ _ _ (put1 _ _ (.bool true)) _)); (fail_if_success (guard_target =~ WLA _ _ _ _ _ _ (put1 _ _ (.bool false)) _)); refine WLA.dec rfl rfl ?_) | refine WLA.pk ?_); first | refine orL ?_ | refine orR ?_) | ((first | refine WPA.ifBt ?_ ?_ | refine WPA.ifBnf ?_ ?_); assumption) | ((first | refine WPA.ifBnt ?_ ?_ | refine WPA.ifBf ?_ ?_); assumption) | ((first | refine WPA.ifs ?_ ?_ | refine WPA.ifB ?_ ?_) <;> intro hc) | ((fail_if_success (guard_target =~ WLA _ _ _ _ _ _ (put1 _ _ (.bool true)) _)); (fail_if_success (guard_target =~ WLA _ _ _ _ _ _ (put1 _ _ (.bool false)) _)); (first | refine WLA.both rfl rfl ?_ ?_ | refine WLA.bothB rfl rfl ?_ ?_) <;> intro hg))
    exact QQ.endn rfl () rfl fun w h => h.to
  · by_cases hs : l = s
    · have hs' : ¬ l ≠ s := fun k => k hs
      rw [if_neg (fun k => k.2 hs)]
      repeat' (first | ((first | refine WLA.m rfl rfl ?_ ?_ | refine WLA.st rfl ?_ ?_ | refine WLA.x rfl rfl ?_ (fun x => ?_) | refine WLA.x0 rfl ?_ (fun x => ?_)); first | exact sdT | skip) | (refine Stp.go ?_) | (guard_target =~ WLA _ _ _ _ _ (⟨_, .call ⟨.value (.func 35), _, _⟩, _, _, _, _⟩ :: _) _ _; refine WLA.call rfl rfl (ht) ?_; rintro ⟨⟩) | (refine WPA.ifT ?_) | (refine WPA.ifF ?_) | (refine WLA.no rfl rfl ?_) | ((first | refine WPA.dec ?_ | ((fail_if_success (guard_target =~ WLA _ _ _ _ _ _ (put1 _ _ (.bool true)) _)); (fail_if_success (guard_target =~ WLA _ _ _ _ _ _ (put1 _ _ (.bool false)) _)); refine WLA.dec rfl rfl ?_) | refine WLA.pk ?_); first | refine orL ?_ | refine orR ?_) | ((first | refine WPA.ifBt ?_ ?_ | refine WPA.ifBnf ?_ ?_); assumption) | ((first | refine WPA.ifBnt ?_ ?_ | refine WPA.ifBf ?_ ?_); assumption) | ((first | refine WPA.ifs ?_ ?_ | refine WPA.ifB ?_ ?_) <;> intro hc) | ((fail_if_success (guard_target =~ WLA _ _ _ _ _ _ (put1 _ _ (.bool true)) _)); (fail_if_success (guard_target =~ WLA _ _ _ _ _ _ (put1 _ _ (.bool false)) _)); (first | refine WLA.both rfl rfl ?_ ?_ | refine WLA.bothB rfl rfl ?_ ?_) <;> intro hg))
      exact QQ.endn rfl () rfl fun w h => h.to
    · rw [if_pos ⟨rfl, hs⟩]
      repeat' (first | ((first | refine WLA.m rfl rfl ?_ ?_ | refine WLA.st rfl ?_ ?_ | refine WLA.x rfl rfl ?_ (fun x => ?_) | refine WLA.x0 rfl ?_ (fun x => ?_)); first | exact sdT | skip) | (refine Stp.go ?_) | (guard_target =~ WLA _ _ _ _ _ (⟨_, .call ⟨.value (.func 35), _, _⟩, _, _, _, _⟩ :: _) _ _; refine WLA.call rfl rfl (ht) ?_; rintro ⟨⟩) | (guard_target =~ WLA _ _ _ _ _ (⟨_, .call ⟨.value (.func 37), _, _⟩, _, _, _, _⟩ :: _) _ _; refine WLA.call rfl rfl (hb) ?_; rintro ⟨⟩) | (refine WPA.ifT ?_) | (refine WPA.ifF ?_) | (refine WLA.no rfl rfl ?_) | ((first | refine WPA.dec ?_ | ((fail_if_success (guard_target =~ WLA _ _ _ _ _ _ (put1 _ _ (.bool true)) _)); (fail_if_success (guard_target =~ WLA _ _ _ _ _ _ (put1 _ _ (.bool false)) _)); refine WLA.dec rfl rfl ?_) | refine WLA.pk ?_); first | refine orL ?_ | refine orR ?_) | ((first | refine WPA.ifBt ?_ ?_ | refine WPA.ifBnf ?_ ?_); assumption) | ((first | refine WPA.ifBnt ?_ ?_ | refine WPA.ifBf ?_ ?_); assumption) | ((first | refine WPA.ifs ?_ ?_ | refine WPA.ifB ?_ ?_) <;> intro hc) | ((fail_if_success (guard_target =~ WLA _ _ _ _ _ _ (put1 _ _ (.bool true)) _)); (fail_if_success (guard_target =~ WLA _ _ _ _ _ _ (put1 _ _ (.bool false)) _)); (first | refine WLA.both rfl rfl ?_ ?_ | refine WLA.bothB rfl rfl ?_ ?_) <;> intro hg))
      exact QQ.endn rfl () rfl fun w h => h.to
theorem number_trR {l b : ByteArray} (hlb : l.size ≤ 1000000 ∧ b.size ≤ 1000000) : TrP Tryz.prog 55 #[.string l, .string b] (SL w0 I L) (.tuple #[.int .i64 (if hasP l b then numV (cutP l b) else 0), .bool (if hasP l b then numB (cutP l b) else false)]) := by
  refine TrP.ofD fun u => Tr.intro Tryz.func55 rfl Tryz.ntmps55 rfl ?_
  by_cases hlt : l.size < b.size
  · have hlt' : (l.size : Int) < b.size := by omega
    have hp : ¬ hasP l b := fun k => by have := k.1; omega
    rw [if_neg hp, if_neg hp]
    repeat' (first | ((first | refine WLA.m rfl rfl ?_ ?_ | refine WLA.st rfl ?_ ?_ | refine WLA.x rfl rfl ?_ (fun x => ?_) | refine WLA.x0 rfl ?_ (fun x => ?_)); first | exact sdT | skip) | (refine Stp.go ?_) | (refine WPA.ifT ?_) | (refine WPA.ifF ?_) | (refine WLA.no rfl rfl ?_) | ((first | refine WPA.dec ?_ | ((fail_if_success (guard_target =~ WLA _ _ _ _ _ _ (put1 _ _ (.bool true)) _)); (fail_if_success (guard_target =~ WLA _ _ _ _ _ _ (put1 _ _ (.bool false)) _)); refine WLA.dec rfl rfl ?_) | refine WLA.pk ?_); first | refine orL ?_ | refine orR ?_) | ((first | refine WPA.ifBt ?_ ?_ | refine WPA.ifBnf ?_ ?_); assumption) | ((first | refine WPA.ifBnt ?_ ?_ | refine WPA.ifBf ?_ ?_); assumption) | ((first | refine WPA.ifs ?_ ?_ | refine WPA.ifB ?_ ?_) <;> intro hc) | ((fail_if_success (guard_target =~ WLA _ _ _ _ _ _ (put1 _ _ (.bool true)) _)); (fail_if_success (guard_target =~ WLA _ _ _ _ _ _ (put1 _ _ (.bool false)) _)); (first | refine WLA.both rfl rfl ?_ ?_ | refine WLA.bothB rfl rfl ?_ ?_) <;> intro hg))
    exact QQ.end_ rfl () rfl fun w h => h
  have hlt' : ¬ (l.size : Int) < b.size := by omega
  have hc1 : ((0 : Int) ≤ 0 ∧ (0 : Int) ≤ b.size) ∧ (b.size : Int) ≤ l.size := by omega
  have hc2 : ((0 : Int) ≤ b.size ∧ (b.size : Int) ≤ l.size) ∧ (l.size : Int) ≤ l.size := by omega
  by_cases hp : hasP l b
  · rw [if_pos hp, if_pos hp]
    have he : l.extract (0 : Int).toNat (b.size : Int).toNat = b := hp.2
    have he2 : l.extract (b.size : Int).toNat (l.size : Int).toNat = cutP l b := by unfold cutP; rw [if_pos hp]; rfl
    have hne : ¬ (b ≠ b) := fun k => k rfl
    repeat' (first | ((rw [he])) | ((rw [he2])) | ((first | refine WLA.m rfl rfl ?_ ?_ | refine WLA.st rfl ?_ ?_ | refine WLA.x rfl rfl ?_ (fun x => ?_) | refine WLA.x0 rfl ?_ (fun x => ?_)); first | exact sdT | skip) | (refine Stp.go ?_) | (guard_target =~ WLA _ _ _ _ _ (⟨_, .call ⟨.value (.func 56), _, _⟩, _, _, _, _⟩ :: _) _ _; refine WLA.cq rfl rfl (rNumber_tr) ?_) | (refine WPA.ifT ?_) | (refine WPA.ifF ?_) | (refine WLA.no rfl rfl ?_) | ((first | refine WPA.dec ?_ | ((fail_if_success (guard_target =~ WLA _ _ _ _ _ _ (put1 _ _ (.bool true)) _)); (fail_if_success (guard_target =~ WLA _ _ _ _ _ _ (put1 _ _ (.bool false)) _)); refine WLA.dec rfl rfl ?_) | refine WLA.pk ?_); first | refine orL ?_ | refine orR ?_) | ((first | refine WPA.ifBt ?_ ?_ | refine WPA.ifBnf ?_ ?_); assumption) | ((first | refine WPA.ifBnt ?_ ?_ | refine WPA.ifBf ?_ ?_); assumption) | ((first | refine WPA.ifs ?_ ?_ | refine WPA.ifB ?_ ?_) <;> intro hc) | ((fail_if_success (guard_target =~ WLA _ _ _ _ _ _ (put1 _ _ (.bool true)) _)); (fail_if_success (guard_target =~ WLA _ _ _ _ _ _ (put1 _ _ (.bool false)) _)); (first | refine WLA.both rfl rfl ?_ ?_ | refine WLA.bothB rfl rfl ?_ ?_) <;> intro hg))
    exact QQ.end_ rfl () rfl fun w h => h
  · rw [if_neg hp, if_neg hp]
    have hne : l.extract (0 : Int).toNat (b.size : Int).toNat ≠ b := fun k => hp ⟨by omega, k⟩
    repeat' (first | ((first | refine WLA.m rfl rfl ?_ ?_ | refine WLA.st rfl ?_ ?_ | refine WLA.x rfl rfl ?_ (fun x => ?_) | refine WLA.x0 rfl ?_ (fun x => ?_)); first | exact sdT | skip) | (refine Stp.go ?_) | (refine WPA.ifT ?_) | (refine WPA.ifF ?_) | (refine WLA.no rfl rfl ?_) | ((first | refine WPA.dec ?_ | ((fail_if_success (guard_target =~ WLA _ _ _ _ _ _ (put1 _ _ (.bool true)) _)); (fail_if_success (guard_target =~ WLA _ _ _ _ _ _ (put1 _ _ (.bool false)) _)); refine WLA.dec rfl rfl ?_) | refine WLA.pk ?_); first | refine orL ?_ | refine orR ?_) | ((first | refine WPA.ifBt ?_ ?_ | refine WPA.ifBnf ?_ ?_); assumption) | ((first | refine WPA.ifBnt ?_ ?_ | refine WPA.ifBf ?_ ?_); assumption) | ((first | refine WPA.ifs ?_ ?_ | refine WPA.ifB ?_ ?_) <;> intro hc) | ((fail_if_success (guard_target =~ WLA _ _ _ _ _ _ (put1 _ _ (.bool true)) _)); (fail_if_success (guard_target =~ WLA _ _ _ _ _ _ (put1 _ _ (.bool false)) _)); (first | refine WLA.both rfl rfl ?_ ?_ | refine WLA.bothB rfl rfl ?_ ?_) <;> intro hg))
    exact QQ.end_ rfl () rfl fun w h => h
theorem piece_trR {s : ByteArray} (hsz : s.size ≤ 1000000) : TrP Tryz.prog 57 #[.string s] (SL w0 I L) (.bool (decide (PieceP s))) := by
  refine TrP.ofD fun u => Tr.intro Tryz.func57 rfl Tryz.ntmps57 rfl ?_
  repeat' (first | ((first | refine WLA.m rfl rfl ?_ ?_ | refine WLA.st rfl ?_ ?_ | refine WLA.x rfl rfl ?_ (fun x => ?_) | refine WLA.x0 rfl ?_ (fun x => ?_)); first | exact sdT | skip) | (refine Stp.go ?_) | (refine WPA.ifT ?_) | (refine WPA.ifF ?_) | ((first | refine WPA.dec ?_); first | refine orL ?_ | refine orR ?_) | ((first | refine WPA.ifBt ?_ ?_ | refine WPA.ifBnf ?_ ?_); assumption) | ((first | refine WPA.ifBnt ?_ ?_ | refine WPA.ifBf ?_ ?_); assumption) | ((first | refine WPA.ifs ?_ ?_ | refine WPA.ifB ?_ ?_) <;> intro hc))
  refine WPA.loopS (σ := Nat) (fun j => [(0, .string s), (3, .int .i64 j)]) (fun j => j ≤ s.size ∧ ∀ i : Nat, i < j → ¬ BlankP (bt s (i : Int))) (fun _ => SLd w0 I L u) (fun j => s.size - j) 0 ⟨rfl, rfl, trivial⟩ ⟨Nat.zero_le _, fun i hi => absurd hi (Nat.not_lt_zero i)⟩ (fun w h => h) ?_
  rintro j ρ ⟨hj, hD⟩
  have hB := fun {L : List HP} => rBlank_tr (c := bt s (j : Int)) (w0 := w0) (I := I) (L := L)
  by_cases hlt : j < s.size
  · have hlt' : (j : Int) < s.size := by omega
    have hir : (0 : Int) ≤ j ∧ (j : Int) < s.size := by omega
    by_cases hb : BlankP (bt s (j : Int))
    · rw [decide_eq_true hb] at hB
      rw [decide_eq_false (p := PieceP s) fun k => k.2 j hlt hb]
      repeat' (first | ((first | refine WLA.m rfl rfl ?_ ?_ | refine WLA.st rfl ?_ ?_ | refine WLA.x rfl rfl ?_ (fun x => ?_) | refine WLA.x0 rfl ?_ (fun x => ?_)); first | exact sdT | skip) | (refine Stp.go ?_) | (guard_target =~ WLA _ _ _ _ _ (⟨_, .call ⟨.value (.func 71), _, _⟩, _, _, _, _⟩ :: _) _ _; refine WLA.cq rfl rfl (hB) ?_) | (refine WPA.ifT ?_) | (refine WPA.ifF ?_) | ((first | refine WPA.dec ?_); first | refine orL ?_ | refine orR ?_) | ((first | refine WPA.ifBt ?_ ?_ | refine WPA.ifBnf ?_ ?_); assumption) | ((first | refine WPA.ifBnt ?_ ?_ | refine WPA.ifBf ?_ ?_); assumption) | ((first | refine WPA.ifs ?_ ?_ | refine WPA.ifB ?_ ?_) <;> intro hc))
      exact QQ.end_ rfl () rfl fun w h => h
    · rw [decide_eq_false hb] at hB
      repeat' (first | ((first | refine WLA.m rfl rfl ?_ ?_ | refine WLA.st rfl ?_ ?_ | refine WLA.x rfl rfl ?_ (fun x => ?_) | refine WLA.x0 rfl ?_ (fun x => ?_)); first | exact sdT | skip) | (refine Stp.go ?_) | (guard_target =~ WLA _ _ _ _ _ (⟨_, .call ⟨.value (.func 71), _, _⟩, _, _, _, _⟩ :: _) _ _; refine WLA.cq rfl rfl (hB) ?_) | (refine WPA.ifT ?_) | (refine WPA.ifF ?_) | ((first | refine WPA.dec ?_); first | refine orL ?_ | refine orR ?_) | ((first | refine WPA.ifBt ?_ ?_ | refine WPA.ifBnf ?_ ?_); assumption) | ((first | refine WPA.ifBnt ?_ ?_ | refine WPA.ifBf ?_ ?_); assumption) | ((first | refine WPA.ifs ?_ ?_ | refine WPA.ifB ?_ ?_) <;> intro hc))
      refine QQ.loopS (j + 1) ⟨rfl, rfl, trivial⟩ ⟨hlt, fun i hi => ?_⟩ (by omega) (fun w h => h)
      by_cases e : i = j
      · subst e; exact hb
      · exact hD i (by omega)
  · have hlt' : ¬ (j : Int) < s.size := by omega
    repeat' (first | ((first | refine WLA.m rfl rfl ?_ ?_ | refine WLA.st rfl ?_ ?_ | refine WLA.x rfl rfl ?_ (fun x => ?_) | refine WLA.x0 rfl ?_ (fun x => ?_)); first | exact sdT | skip) | (refine Stp.go ?_) | (refine WPA.ifT ?_) | (refine WPA.ifF ?_) | ((first | refine WPA.dec ?_); first | refine orL ?_ | refine orR ?_) | ((first | refine WPA.ifBt ?_ ?_ | refine WPA.ifBnf ?_ ?_); assumption) | ((first | refine WPA.ifBnt ?_ ?_ | refine WPA.ifBf ?_ ?_); assumption) | ((first | refine WPA.ifs ?_ ?_ | refine WPA.ifB ?_ ?_) <;> intro hc))
    exact QQ.end_ rfl () (congrArg Value.bool (by rw [decide_eq_decide]; exact ⟨fun h => ⟨h, fun i hi => hD i (by omega)⟩, fun h => h.1⟩)) fun w h => h
theorem place_trR {v : SV} {l : List ByteArray} {s : ByteArray} [hr : RdS I L v ByteArray inferInstance l] (hn : l.length ≤ 1000000000) : TrP Tryz.prog 58 #[.slice v.a v.n v.cap, .string s] (SL w0 I L) (.int .i64 (findT l s)) := by
  refine TrP.ofD fun u => Tr.intro Tryz.func58 rfl Tryz.ntmps58 rfl ?_
  repeat' (first | ((first | refine WLA.m rfl rfl ?_ ?_ | refine WLA.st rfl ?_ ?_ | refine WLA.x rfl rfl ?_ (fun x => ?_) | refine WLA.x0 rfl ?_ (fun x => ?_)); first | exact sdT | skip) | (refine Stp.go ?_) | (refine WPA.ifT ?_) | (refine WPA.ifF ?_) | ((first | refine WPA.dec ?_); first | refine orL ?_ | refine orR ?_) | ((first | refine WPA.ifBt ?_ ?_ | refine WPA.ifBnf ?_ ?_); assumption) | ((first | refine WPA.ifBnt ?_ ?_ | refine WPA.ifBf ?_ ?_); assumption) | ((first | refine WPA.ifs ?_ ?_ | refine WPA.ifB ?_ ?_) <;> intro hc))
  refine WPA.loopS (σ := Nat) (fun j => [(0, .slice v.a v.n v.cap), (1, .string s), (5, .int .i64 j)]) (fun j => j ≤ l.length ∧ findT (l.take j) s < 0) (fun _ => SLd w0 I L u) (fun j => l.length - j) 0 ⟨rfl, rfl, rfl, trivial⟩ ⟨Nat.zero_le _, by rw [List.take_zero]; show (-1 : Int) < 0; decide⟩ (fun w h => h) ?_
  rintro j ρ ⟨hj, hD⟩
  by_cases hlt : j < l.length
  · have hlt' : (j : Int) < l.length := by omega
    have hir : (0 : Int) ≤ j ∧ (j : Int) < l.length := by omega
    have hsp := findT_split l s j hlt hD
    rw [← at_nat l j hlt] at hsp
    by_cases hb : at_ l (j : Int) = s
    · rw [if_pos hb] at hsp
      rw [hsp]
      have d1 : decide (at_ l (j : Int) = s) = true := decide_eq_true hb
      repeat' (first | ((first | refine WLA.m rfl rfl ?_ ?_ | refine WLA.st rfl ?_ ?_ | refine WLA.x rfl rfl ?_ (fun x => ?_) | refine WLA.x0 rfl ?_ (fun x => ?_)); first | exact sdT | skip) | (refine Stp.go ?_) | (refine WPA.ifT ?_) | (refine WPA.ifF ?_) | ((first | refine WPA.dec ?_); first | refine orL ?_ | refine orR ?_) | ((first | refine WPA.ifBt ?_ ?_ | refine WPA.ifBnf ?_ ?_); assumption) | ((first | refine WPA.ifBnt ?_ ?_ | refine WPA.ifBf ?_ ?_); assumption) | ((first | refine WPA.ifs ?_ ?_ | refine WPA.ifB ?_ ?_) <;> intro hc))
      exact QQ.end_ rfl () rfl fun w h => h
    · rw [if_neg hb] at hsp
      have d1 : decide (at_ l (j : Int) = s) = false := decide_eq_false hb
      repeat' (first | ((first | refine WLA.m rfl rfl ?_ ?_ | refine WLA.st rfl ?_ ?_ | refine WLA.x rfl rfl ?_ (fun x => ?_) | refine WLA.x0 rfl ?_ (fun x => ?_)); first | exact sdT | skip) | (refine Stp.go ?_) | (refine WPA.ifT ?_) | (refine WPA.ifF ?_) | ((first | refine WPA.dec ?_); first | refine orL ?_ | refine orR ?_) | ((first | refine WPA.ifBt ?_ ?_ | refine WPA.ifBnf ?_ ?_); assumption) | ((first | refine WPA.ifBnt ?_ ?_ | refine WPA.ifBf ?_ ?_); assumption) | ((first | refine WPA.ifs ?_ ?_ | refine WPA.ifB ?_ ?_) <;> intro hc))
      exact QQ.loopS (j + 1) ⟨rfl, rfl, rfl, trivial⟩ ⟨hlt, hsp⟩ (by omega) (fun w h => h)
  · have hlt' : ¬ (j : Int) < l.length := by omega
    rw [List.take_of_length_le (by omega)] at hD
    have hr1 := (findT_range l s).1
    rw [show findT l s = -1 by omega]
    repeat' (first | ((first | refine WLA.m rfl rfl ?_ ?_ | refine WLA.st rfl ?_ ?_ | refine WLA.x rfl rfl ?_ (fun x => ?_) | refine WLA.x0 rfl ?_ (fun x => ?_)); first | exact sdT | skip) | (refine Stp.go ?_) | (refine WPA.ifT ?_) | (refine WPA.ifF ?_) | ((first | refine WPA.dec ?_); first | refine orL ?_ | refine orR ?_) | ((first | refine WPA.ifBt ?_ ?_ | refine WPA.ifBnf ?_ ?_); assumption) | ((first | refine WPA.ifBnt ?_ ?_ | refine WPA.ifBf ?_ ?_); assumption) | ((first | refine WPA.ifs ?_ ?_ | refine WPA.ifB ?_ ?_) <;> intro hc))
    exact QQ.end_ rfl () rfl fun w h => h
end
end Go.Proofs.YthkhneimfjaohaaGreatDoor
namespace Go.Proofs.YthkhneimfjaohaaGreatDoor
open Go Go.Fw Go.RowKit
set_option linter.unusedVariables false
set_option linter.unusedSimpArgs false
set_option maxRecDepth 100000
set_option maxHeartbeats 16000000
set_option synthInstance.maxHeartbeats 200000
set_option synthInstance.maxSize 100000
attribute [local irreducible] WPA WLA WDA WDQ WDE QQ seqQ blockQ loopQ fnQ OpP OpT Tr TrP SL SLd OwnS LitS Bk BkE Ob
attribute [local irreducible] NumOk EntOk
noncomputable def contT (f : Nat) (out : List Int) : St39 → Except (Int × Int) (List Int × ByteArray × Int)
  | .ok q => open Classical in if ¬ 0 ≤ atB q.1 10 then .error (q.2 + 1, 2) else cntF f (aftB q.1 10) (q.2 + 1) (befB q.1 10) out
  | .error y => .error y
theorem contT_ok (f : Nat) (out : List Int) (r : ByteArray) (n : Int) : contT f out (.ok (r, n)) = if ¬ 0 ≤ atB r 10 then .error (n + 1, 2) else cntF f (aftB r 10) (n + 1) (befB r 10) out := rfl
def NumL (l b : ByteArray) : Prop := hasP l b ∧ NumOk (cutP l b)
noncomputable def numVL (l b : ByteArray) : Int := if hasP l b then numV (cutP l b) else 0
noncomputable def numBL (l b : ByteArray) : Bool := if hasP l b then numB (cutP l b) else false
theorem numBL_iff {l b : ByteArray} : numBL l b = true ↔ NumL l b := by
  unfold numBL NumL
  by_cases h : hasP l b
  · rw [if_pos h]
    by_cases k : NumOk (cutP l b)
    · rw [(num_yes k).2]; exact ⟨fun _ => ⟨h, k⟩, fun _ => rfl⟩
    · rw [(num_no k).2]; exact ⟨fun e => (by cases e), fun e => absurd e.2 k⟩
  · rw [if_neg h]; exact ⟨fun e => (by cases e), fun e => absurd e.1 h⟩
theorem numVL_eq {l b : ByteArray} (h : NumL l b) : numVL l b = numV (cutP l b) := if_pos h.1
noncomputable def frT (st : St39) : St39 := open Classical in if (takeT st).2.1 = true ∧ ¬ NumL (takeT st).1 fracB then badT (takeT st).2.2 else (takeT st).2.2
theorem headF_eq (s : ByteArray) (n : Int) : ∃ f, (∀ q, frT (wantT dataB (.ok (s, n))) = .ok q → (aftB q.1 10).size < f) ∧ headF s n = (contT f [] (frT (wantT dataB (.ok (s, n))))).map fun r => ((numVL (takeT (wantT dataB (.ok (s, n)))).1 fracB, r.1), r.2) := by
  refine ⟨(aftB (aftB (aftB s 10) 10) 10).size + 1, ?_, ?_⟩
  all_goals
    unfold wantT
    have e0 : takeT (.ok (s, n)) = if 0 ≤ atB s 10 then (befB s 10, true, .ok (aftB s 10, n + 1)) else (⟨#[]⟩, false, .error (n + 1, 2)) := rfl
    by_cases h1 : 0 ≤ atB s 10
    all_goals
      first | rw [if_pos h1] at e0 | rw [if_neg h1] at e0
      rw [e0]
      dsimp only
  · by_cases h2 : befB s 10 = dataB
    · rw [if_neg (fun k => k.2 h2)]
      unfold frT
      have e1 : takeT (.ok (aftB s 10, n + 1)) = if 0 ≤ atB (aftB s 10) 10 then (befB (aftB s 10) 10, true, .ok (aftB (aftB s 10) 10, n + 1 + 1)) else (⟨#[]⟩, false, .error (n + 1 + 1, 2)) := rfl
      by_cases h3 : 0 ≤ atB (aftB s 10) 10
      · rw [if_pos h3] at e1
        rw [e1]
        dsimp only
        intro q hq
        split at hq
        · cases hq
        · injection hq with hq; subst hq; exact Nat.lt_succ_self _
      · rw [if_neg h3] at e1
        rw [e1]
        dsimp only
        intro q hq
        rw [if_neg (fun k => by cases k.1)] at hq; cases hq
    · rw [if_pos ⟨rfl, h2⟩]
      intro q hq
      unfold frT badT takeT at hq
      dsimp only at hq
      rw [if_neg (fun k => by cases k.1)] at hq; cases hq
  · rw [if_neg (fun k => by cases k.1)]
    intro q hq
    unfold frT takeT at hq
    dsimp only at hq
    rw [if_neg (fun k => by cases k.1)] at hq; cases hq
  · by_cases h2 : befB s 10 = dataB
    · rw [if_neg (fun k => k.2 h2)]
      unfold frT headF
      have e1 : takeT (.ok (aftB s 10, n + 1)) = if 0 ≤ atB (aftB s 10) 10 then (befB (aftB s 10) 10, true, .ok (aftB (aftB s 10) 10, n + 1 + 1)) else (⟨#[]⟩, false, .error (n + 1 + 1, 2)) := rfl
      rw [if_neg (fun k => k h1), if_neg (fun k => k h2)]
      by_cases h3 : 0 ≤ atB (aftB s 10) 10
      · rw [if_pos h3] at e1
        rw [e1, if_neg (fun k => k h3)]
        dsimp only
        by_cases h4 : NumL (befB (aftB s 10) 10) fracB
        · have h4' : hasP (befB (aftB s 10) 10) fracB ∧ NumOk (cutP (befB (aftB s 10) 10) fracB) := h4
          rw [if_neg (show ¬ (true = true ∧ ¬ NumL (befB (aftB s 10) 10) fracB) from fun k => k.2 h4), if_neg (fun k => k h4'), numVL_eq h4, contT_ok]
          by_cases h5 : 0 ≤ atB (aftB (aftB s 10) 10) 10
          · rw [if_neg (fun k => k h5), if_neg (fun k => k h5)]
          · rw [if_pos h5, if_pos h5]; rfl
        · have h4' : ¬ (hasP (befB (aftB s 10) 10) fracB ∧ NumOk (cutP (befB (aftB s 10) 10) fracB)) := h4
          rw [if_pos h4', if_pos ⟨rfl, h4⟩]; rfl
      · rw [if_neg h3] at e1
        rw [e1, if_pos h3]
        dsimp only
        rw [if_neg (fun k => by cases k.1)]; rfl
    · rw [if_pos ⟨rfl, h2⟩]
      unfold headF
      rw [if_neg (fun k => k h1), if_pos h2]
      unfold frT badT takeT
      dsimp only
      rw [if_neg (fun k => by cases k.1)]; rfl
  · rw [if_neg (fun k => by cases k.1)]
    unfold headF
    rw [if_pos h1]
    unfold frT takeT
    dsimp only
    rw [if_neg (fun k => by cases k.1)]; rfl
theorem frT_ok {Ls : List ByteArray} {st : St39} (h : stOk Ls st) : stOk Ls (frT st) := by
  unfold frT
  split
  · exact badT_ok (takeT_ok h)
  · exact takeT_ok h
theorem takeT_size {Ls : List ByteArray} {st : St39} (h : stOk Ls st) : (takeT st).1.size ≤ 1000000 := by
  cases st with
  | error y => exact Nat.zero_le _
  | ok q =>
    obtain ⟨⟨h1, h2⟩, h3⟩ := h
    unfold takeT
    dsimp only
    split
    · have := bef_size q.1 10; dsimp only; omega
    · exact Nat.zero_le _
theorem ngB_size {k : Nat} (h : k ≤ 9) : (ngB (k + 1)).size ≤ 100 := by
  unfold ngB intS
  rw [if_neg (by omega)]
  have := dec_20 (v := ((k + 1 : Nat) : Int).toNat) (by omega)
  simp only [ByteArray.size_append]
  have e2 : (⟨#[61]⟩ : ByteArray).size = 1 := rfl
  have e3 : (⟨#[110, 103, 114, 97, 109, 32]⟩ : ByteArray).size = 6 := rfl
  omega
def stM : St39 → Nat
  | .ok q => q.1.size + 1
  | .error _ => 0
structure KW where
  st : St39
  out : List Int
  v : SV
section
variable {L L' : List HP} {w0 : World} {I : Foot}
theorem counts_trR {P : Nat} {lv : SV} {Ls : List ByteArray} {s : ByteArray} [h : FindK L TxH P (lv, 0, 0) L'] [hl : SlI I lv ByteArray inferInstance Ls] (hs : s.size ≤ 900000) (hL : Ls = splB s 10) :
    Tr Tryz.prog 33 #[.pointer (some ⟨P, 0, none⟩)] (SL w0 I L)
      (fun x : { x : (Int × List Int) × SV × St39 // ((∀ q, x.2.2 = .ok q → headF s 0 = .ok (x.1, q)) ∧ ∀ y, x.2.2 = .error y → headF s 0 = .error y) ∧ stOk Ls x.2.2 } => .tuple #[.int .i64 x.1.1.1, .slice x.1.2.1.a x.1.2.1.n x.1.2.1.cap])
      (fun x => SL w0 I (OwnS 3 x.1.2.1 x.1.1.2 :: TxH P (stV lv x.1.2.2) :: L')) := by
  classical
  refine Tr.at h.out ?_
  refine Tr.intro Tryz.func33 rfl Tryz.ntmps33 rfl ?_
  have ho : stOk Ls (.ok (s, 0)) := ⟨⟨Int.le_refl _, by dsimp only; omega⟩, by rw [hL]; rfl⟩
  have hst0 : (lv, (0 : Int), (0 : Int)) = stV lv (.ok (s, 0)) := rfl
  rw [hst0]
  have ho1 : stOk Ls (wantT dataB (.ok (s, 0))) := wantT_ok ho
  have ho2 := takeT_ok ho1
  have ho3 := frT_ok ho1
  obtain ⟨f0, hf0, hh⟩ := headF_eq s 0
  have hw1 := fun {L L' : List HP} [FindK L TxH P (stV lv (.ok (s, 0))) L'] => want_trR (w0 := w0) (I := I) (L := L) (L' := L') (P := P) (lv := lv) (s := dataB) ho
  generalize wantT dataB (.ok (s, 0)) = st1 at ho1 ho2 ho3 hf0 hh hw1
  have ht1 := fun {L L' : List HP} [FindK L TxH P (stV lv st1) L'] => take_trR (w0 := w0) (I := I) (L := L) (L' := L') (P := P) (lv := lv) ho1
  have hsz1 := takeT_size ho1
  unfold frT at ho3 hf0 hh
  generalize takeT st1 = q1 at ho2 ho3 hf0 hh ht1 hsz1
  obtain ⟨l1, ok1, st2⟩ := q1
  dsimp only at ho2 ho3 hf0 hh ht1 hsz1
  have hb2 := fun {L L' : List HP} [FindK L TxH P (stV lv st2) L'] => bad_trR (w0 := w0) (I := I) (L := L) (L' := L') (P := P) (lv := lv) ho2
  repeat' ((fail_if_success (guard_target =~ WPA _ _ _ (.region 4 _ _) _ _ _)); first | ((first | refine WLA.m rfl rfl ?_ ?_ | refine WLA.st rfl ?_ ?_ | refine WLA.x rfl rfl ?_ (fun x => ?_) | refine WLA.x0 rfl ?_ (fun x => ?_)); first | exact sdT | skip) | (refine Stp.go ?_) | (guard_target =~ WLA _ _ _ _ _ (⟨_, .call ⟨.value (.func 34), _, _⟩, _, _, _, _⟩ :: _) _ _; refine WLA.call rfl rfl (hw1) ?_; rintro ⟨⟩) | (guard_target =~ WLA _ _ _ _ _ (⟨_, .call ⟨.value (.func 35), _, _⟩, _, _, _, _⟩ :: _) _ _; refine WLA.call rfl rfl (ht1) ?_; rintro ⟨⟩) | (refine WPA.ifT ?_) | (refine WPA.ifF ?_) | ((first | refine WPA.dec ?_); first | refine orL ?_ | refine orR ?_) | ((first | refine WPA.ifBt ?_ ?_ | refine WPA.ifBnf ?_ ?_); assumption) | ((first | refine WPA.ifBnt ?_ ?_ | refine WPA.ifBf ?_ ?_); assumption) | ((first | refine WPA.ifs ?_ ?_ | refine WPA.ifB ?_ ?_) <;> intro hc))
  have hfb : fracB.size ≤ 1000000 := by decide
  have hnum := fun {L : List HP} => number_trR (w0 := w0) (I := I) (L := L) (l := l1) (b := fracB) ⟨hsz1, hfb⟩
  have e1 : (if hasP l1 fracB then numV (cutP l1 fracB) else 0) = numVL l1 fracB := rfl
  have e2 : (if hasP l1 fracB then numB (cutP l1 fracB) else false) = numBL l1 fracB := rfl
  rw [e1, e2] at hnum
  generalize numVL l1 fracB = fr at hh hnum
  have key : ∃ bd : Bool, (ok1 && !(numBL l1 fracB)) = bd ∧ (if ok1 = true ∧ ¬ NumL l1 fracB then badT st2 else st2) = (if bd then badT st2 else st2) := by
    refine ⟨_, rfl, ?_⟩
    by_cases k : NumL l1 fracB
    · rw [numBL_iff.2 k, if_neg (fun h => h.2 k)]
      cases ok1 <;> rfl
    · have : numBL l1 fracB = false := by cases hb : numBL l1 fracB with | false => rfl | true => exact absurd (numBL_iff.1 hb) k
      rw [this]
      cases ok1
      · rw [if_neg (fun h => (by cases h.1))]; rfl
      · rw [if_pos ⟨rfl, k⟩]; rfl
  obtain ⟨bd, hbd, hst3⟩ := key
  rw [hst3] at ho3 hf0 hh
  clear hst3 e1 e2
  generalize numBL l1 fracB = nb at hnum hbd
  have hbl : ∀ {J : Foot} (k : Nat), k ≤ 9 → ∀ {L : List HP}, Tr Tryz.prog 28 #[.int .i64 ((k + 1 : Nat) : Int)] (SL w0 J L) (fun _ : Unit => .string (intS ((k + 1 : Nat) : Int))) (fun _ => SL w0 J L) := fun k hk {L} => Int_tr ⟨by omega, by omega⟩
  rcases ok1 with _ | _ <;> rcases nb with _ | _ <;> obtain rfl := hbd
  all_goals
    repeat' ((fail_if_success (guard_target =~ WPA _ _ _ (.region 7 _ _) _ _ _)); first | ((first | refine WLA.m rfl rfl ?_ ?_ | refine WLA.st rfl ?_ ?_ | refine WLA.x rfl rfl ?_ (fun x => ?_) | refine WLA.x0 rfl ?_ (fun x => ?_)); first | exact sdT | skip) | (refine Stp.go ?_) | (guard_target =~ WLA _ _ _ _ _ (⟨_, .call ⟨.value (.func 55), _, _⟩, _, _, _, _⟩ :: _) _ _; refine WLA.cq rfl rfl (hnum) ?_) | (guard_target =~ WLA _ _ _ _ _ (⟨_, .call ⟨.value (.func 37), _, _⟩, _, _, _, _⟩ :: _) _ _; refine WLA.call rfl rfl (hb2) ?_; rintro ⟨⟩) | (refine WPA.ifT ?_) | (refine WPA.ifF ?_) | (refine WLA.no rfl rfl ?_) | ((first | refine WPA.dec ?_ | ((fail_if_success (guard_target =~ WLA _ _ _ _ _ _ (put1 _ _ (.bool true)) _)); (fail_if_success (guard_target =~ WLA _ _ _ _ _ _ (put1 _ _ (.bool false)) _)); refine WLA.dec rfl rfl ?_) | refine WLA.pk ?_); first | refine orL ?_ | refine orR ?_) | ((first | refine WPA.ifBt ?_ ?_ | refine WPA.ifBnf ?_ ?_); assumption) | ((first | refine WPA.ifBnt ?_ ?_ | refine WPA.ifBf ?_ ?_); assumption) | ((first | refine WPA.ifs ?_ ?_ | refine WPA.ifB ?_ ?_) <;> intro hc) | ((fail_if_success (guard_target =~ WLA _ _ _ _ _ _ (put1 _ _ (.bool true)) _)); (fail_if_success (guard_target =~ WLA _ _ _ _ _ _ (put1 _ _ (.bool false)) _)); (first | refine WLA.both rfl rfl ?_ ?_ | refine WLA.bothB rfl rfl ?_ ?_) <;> intro hg))
  all_goals
    refine WPA.loopS (σ := KW) (fun y => [(0, .pointer (some ⟨P, 0, none⟩)), (4, .slice y.v.a y.v.n y.v.cap), (7, .int .i64 fr)])
      (fun y => (stOk Ls y.st ∧ y.out.length ≤ 9 ∧ ∀ q, y.st = .ok q → y.out.length ≤ 8) ∧ ∃ f, (∀ q, y.st = .ok q → 0 ≤ atB q.1 10 → (aftB q.1 10).size < f) ∧ headF s 0 = (contT f y.out y.st).map fun r => ((fr, r.1), r.2))
      (fun y => SL w0 I (OwnS 3 y.v y.out :: TxH P (stV lv y.st) :: L')) (fun y => stM y.st) ⟨_, [], SV.nil⟩ ⟨rfl, rfl, rfl, trivial⟩ ⟨⟨ho3, Nat.zero_le _, fun q _ => Nat.zero_le _⟩, f0, fun q hq _ => hf0 q hq, hh⟩ (fun w h => (Ent.ownNil (α := Int) (t := 3) Ent.refl).sl h) ?_
    clear hh hf0 ho3 hb2 hw1 ht1 hnum
    rintro ⟨st, out, v⟩ ρ ⟨⟨hst, ho9, ho8⟩, f, hf, hh⟩
    dsimp only at hst ho9 ho8 hf hh ⊢
    cases st with
    | error y =>
      have hy : y.2 ≠ 0 := hst
      have hyd : ¬ y.2 = 0 := hst
      have hres : headF s 0 = .error y := hh
      have ef : TxH P (stV lv (.error y)) = Bk P 76 [.slice lv.a lv.n lv.cap, .int .i64 y.1, .int .i64 y.2] := rfl
      rw [ef]
      repeat' (first | ((first | refine WLA.m rfl rfl ?_ ?_ | refine WLA.st rfl ?_ ?_ | refine WLA.x rfl rfl ?_ (fun x => ?_) | refine WLA.x0 rfl ?_ (fun x => ?_)); first | exact sdT | skip) | (refine Stp.go ?_) | (refine WPA.ifT ?_) | (refine WPA.ifF ?_) | ((first | refine WPA.dec ?_); first | refine orL ?_ | refine orR ?_) | ((first | refine WPA.ifBt ?_ ?_ | refine WPA.ifBnf ?_ ?_); assumption) | ((first | refine WPA.ifBnt ?_ ?_ | refine WPA.ifBf ?_ ?_); assumption) | ((first | refine WPA.ifs ?_ ?_ | refine WPA.ifB ?_ ?_) <;> intro hc))
      rw [← ef]
      exact QQ.end_ rfl ⟨((fr, out), v, .error y), ⟨fun q hq => (by cases hq), fun z hz => (by injection hz with hz; rw [← hz]; exact hres)⟩, hst⟩ rfl fun w h => h.to
    | ok q =>
      obtain ⟨r, n⟩ := q
      have ho8' := ho8 _ rfl
      have ef : TxH P (stV lv (.ok (r, n))) = Bk P 76 [.slice lv.a lv.n lv.cap, .int .i64 n, .int .i64 0] := rfl
      have hzz : (0 : Int) = 0 := rfl
      rw [ef]
      repeat' ((fail_if_success (guard_target =~ WPA _ _ _ (.region 8 _ _) _ _ _)); first | ((first | refine WLA.m rfl rfl ?_ ?_ | refine WLA.st rfl ?_ ?_ | refine WLA.x rfl rfl ?_ (fun x => ?_) | refine WLA.x0 rfl ?_ (fun x => ?_)); first | exact sdT | skip) | (refine Stp.go ?_) | (refine WPA.ifT ?_) | (refine WPA.ifF ?_) | ((first | refine WPA.dec ?_); first | refine orL ?_ | refine orR ?_) | ((first | refine WPA.ifBt ?_ ?_ | refine WPA.ifBnf ?_ ?_); assumption) | ((first | refine WPA.ifBnt ?_ ?_ | refine WPA.ifBf ?_ ?_); assumption) | ((first | refine WPA.ifs ?_ ?_ | refine WPA.ifB ?_ ?_) <;> intro hc))
      rw [← ef]
      have hst2 := takeT_ok hst
      have hsz2 := takeT_size hst
      have htk := fun {L L' : List HP} [FindK L TxH P (stV lv (.ok (r, n))) L'] => take_trR (w0 := w0) (I := I) (L := L) (L' := L') (P := P) (lv := lv) hst
      have et : takeT (.ok (r, n)) = if 0 ≤ atB r 10 then (befB r 10, true, .ok (aftB r 10, n + 1)) else (⟨#[]⟩, false, .error (n + 1, 2)) := rfl
      rw [contT_ok] at hh
      by_cases h0 : 0 ≤ atB r 10
      · rw [if_pos h0] at et
        rw [et] at hst2 hsz2 htk
        dsimp only at hst2 hsz2 htk
        rw [if_neg (fun k => k h0)] at hh
        have hff := hf _ rfl h0
        dsimp only at hff
        obtain ⟨f, rfl⟩ : ∃ g, f = g + 1 := ⟨f - 1, by omega⟩
        rw [cntF] at hh
        generalize befB r 10 = l at hh hsz2 htk
        have hrs := aft_size h0
        generalize hr2 : aftB r 10 = r2 at hh hst2 htk hff hrs
        have hb3 := fun {L L' : List HP} [FindK L TxH P (stV lv (.ok (r2, n + 1))) L'] => bad_trR (w0 := w0) (I := I) (L := L) (L' := L') (P := P) (lv := lv) hst2
        have hroom : Room (out.length + 1) 8 := ⟨by omega, by omega⟩
        by_cases hend : l = ⟨#[]⟩ ∧ out ≠ []
        · rw [if_pos hend] at hh
          have hl1 := hend.1
          have hop : (0 : Int) < out.length := by have := List.length_pos_iff.2 hend.2; omega
          repeat' (first | ((first | refine WLA.m rfl rfl ?_ ?_ | refine WLA.st rfl ?_ ?_ | refine WLA.x rfl rfl ?_ (fun x => ?_) | refine WLA.x0 rfl ?_ (fun x => ?_)); first | exact sdT | skip) | (refine Stp.go ?_) | (guard_target =~ WLA _ _ _ _ _ (⟨_, .call ⟨.value (.func 35), _, _⟩, _, _, _, _⟩ :: _) _ _; refine WLA.call rfl rfl (htk) ?_; rintro ⟨⟩) | (refine WPA.ifT ?_) | (refine WPA.ifF ?_) | (refine WLA.no rfl rfl ?_) | ((first | refine WPA.dec ?_ | ((fail_if_success (guard_target =~ WLA _ _ _ _ _ _ (put1 _ _ (.bool true)) _)); (fail_if_success (guard_target =~ WLA _ _ _ _ _ _ (put1 _ _ (.bool false)) _)); refine WLA.dec rfl rfl ?_) | refine WLA.pk ?_); first | refine orL ?_ | refine orR ?_) | ((first | refine WPA.ifBt ?_ ?_ | refine WPA.ifBnf ?_ ?_); assumption) | ((first | refine WPA.ifBnt ?_ ?_ | refine WPA.ifBf ?_ ?_); assumption) | ((first | refine WPA.ifs ?_ ?_ | refine WPA.ifB ?_ ?_) <;> intro hc) | ((fail_if_success (guard_target =~ WLA _ _ _ _ _ _ (put1 _ _ (.bool true)) _)); (fail_if_success (guard_target =~ WLA _ _ _ _ _ _ (put1 _ _ (.bool false)) _)); (first | refine WLA.both rfl rfl ?_ ?_ | refine WLA.bothB rfl rfl ?_ ?_) <;> intro hg))
          exact QQ.end_ rfl ⟨((fr, out), v, .ok (r2, n + 1)), ⟨fun z hz => (by injection hz with hz; rw [← hz]; exact hh), fun z hz => (by cases hz)⟩, hst2⟩ rfl fun w h => h.to
        · rw [if_neg hend] at hh
          have en : (out.length : Int) + 1 = ((out.length + 1 : Nat) : Int) := by omega
          have hng := ngB_size ho9
          have q1 : ((⟨#[110, 103, 114, 97, 109, 32]⟩ : ByteArray) ++ intS ((out.length + 1 : Nat) : Int)) ++ (⟨#[61]⟩ : ByteArray) = ngB (out.length + 1) := rfl
          have zq : (ngB (out.length + 1)).size = ((⟨#[110, 103, 114, 97, 109, 32]⟩ : ByteArray).size + (intS ((out.length + 1 : Nat) : Int)).size) + (⟨#[61]⟩ : ByteArray).size := by rw [← q1, ByteArray.size_append, ByteArray.size_append]
          have hit := fun {L : List HP} => hbl (J := I) out.length ho9 (L := L)
          generalize ngB (out.length + 1) = ng at hh hng q1 zq
          have hnm : ∀ {L : List HP}, TrP _ _ _ (SL w0 I L) (.tuple #[.int .i64 (numVL l ng), .bool (numBL l ng)]) := fun {L} => number_trR (w0 := w0) (I := I) (L := L) (l := l) (b := ng) ⟨hsz2, by omega⟩
          have hemp : l = ⟨#[]⟩ → ¬ (0 : Int) < out.length := fun h1 h2 => hend ⟨h1, fun h3 => by rw [h3] at h2; exact absurd h2 (by decide)⟩
          by_cases hbd : NumL l ng ∧ 0 ≤ numVL l ng ∧ out.length ≠ 8
          · obtain ⟨k1, k2, k3⟩ := hbd
            have k1' : hasP l ng ∧ NumOk (cutP l ng) := k1
            rw [if_neg (by omega), if_neg (fun k => k k1'), ← numVL_eq k1, if_neg (by omega)] at hh
            rw [numBL_iff.2 k1] at hnm
            have k2' : ¬ numVL l ng < 0 := by omega
            have k3' : ¬ (out.length : Int) = 8 := by omega
            generalize numVL l ng = nv at hh hnm k2 k2'
            by_cases hl0 : l = ⟨#[]⟩
            · have hop := hemp hl0
              repeat' (first | ((rw [en])) | ((rw [q1])) | ((guard_target =~ (_ : Nat) ≤ _; simp only [ByteArray.size_append]; omega)) | ((first | refine WLA.m rfl rfl ?_ ?_ | refine WLA.st rfl ?_ ?_ | refine WLA.x rfl rfl ?_ (fun x => ?_) | refine WLA.x0 rfl ?_ (fun x => ?_)); first | exact sdT | skip) | (refine Stp.go ?_) | (guard_target =~ WLA _ _ _ _ _ (⟨_, .call ⟨.value (.func 35), _, _⟩, _, _, _, _⟩ :: _) _ _; refine WLA.call rfl rfl (htk) ?_; rintro ⟨⟩) | (guard_target =~ WLA _ _ _ _ _ (⟨_, .call ⟨.value (.func 28), _, _⟩, _, _, _, _⟩ :: _) _ _; refine WLA.call rfl rfl (hit) ?_; rintro ⟨⟩) | (guard_target =~ WLA _ _ _ _ _ (⟨_, .call ⟨.value (.func 55), _, _⟩, _, _, _, _⟩ :: _) _ _; refine WLA.cq rfl rfl (hnm) ?_) | (refine WPA.ifT ?_) | (refine WPA.ifF ?_) | (refine WLA.no rfl rfl ?_) | ((first | refine WPA.dec ?_ | ((fail_if_success (guard_target =~ WLA _ _ _ _ _ _ (put1 _ _ (.bool true)) _)); (fail_if_success (guard_target =~ WLA _ _ _ _ _ _ (put1 _ _ (.bool false)) _)); refine WLA.dec rfl rfl ?_) | refine WLA.pk ?_); first | refine orL ?_ | refine orR ?_) | ((first | refine WPA.ifBt ?_ ?_ | refine WPA.ifBnf ?_ ?_); assumption) | ((first | refine WPA.ifBnt ?_ ?_ | refine WPA.ifBf ?_ ?_); assumption) | ((first | refine WPA.ifs ?_ ?_ | refine WPA.ifB ?_ ?_) <;> intro hc) | ((fail_if_success (guard_target =~ WLA _ _ _ _ _ _ (put1 _ _ (.bool true)) _)); (fail_if_success (guard_target =~ WLA _ _ _ _ _ _ (put1 _ _ (.bool false)) _)); (first | refine WLA.both rfl rfl ?_ ?_ | refine WLA.bothB rfl rfl ?_ ?_) <;> intro hg))
              exact QQ.loopS ⟨.ok (r2, n + 1), out ++ [nv], x⟩ ⟨rfl, rfl, rfl, trivial⟩ ⟨⟨hst2, by dsimp only; rw [List.length_append, List.length_singleton]; omega, fun z _ => by dsimp only; rw [List.length_append, List.length_singleton]; omega⟩, f, fun z hz h9 => (by injection hz with hz; rw [← hz] at h9 ⊢; dsimp only at h9 ⊢; have := aft_size h9; omega), by dsimp only; rw [contT_ok]; exact hh⟩ (by dsimp only [stM]; omega) (fun w h => h.to)
            · skip
              repeat' (first | ((rw [en])) | ((rw [q1])) | ((guard_target =~ (_ : Nat) ≤ _; simp only [ByteArray.size_append]; omega)) | ((first | refine WLA.m rfl rfl ?_ ?_ | refine WLA.st rfl ?_ ?_ | refine WLA.x rfl rfl ?_ (fun x => ?_) | refine WLA.x0 rfl ?_ (fun x => ?_)); first | exact sdT | skip) | (refine Stp.go ?_) | (guard_target =~ WLA _ _ _ _ _ (⟨_, .call ⟨.value (.func 35), _, _⟩, _, _, _, _⟩ :: _) _ _; refine WLA.call rfl rfl (htk) ?_; rintro ⟨⟩) | (guard_target =~ WLA _ _ _ _ _ (⟨_, .call ⟨.value (.func 28), _, _⟩, _, _, _, _⟩ :: _) _ _; refine WLA.call rfl rfl (hit) ?_; rintro ⟨⟩) | (guard_target =~ WLA _ _ _ _ _ (⟨_, .call ⟨.value (.func 55), _, _⟩, _, _, _, _⟩ :: _) _ _; refine WLA.cq rfl rfl (hnm) ?_) | (refine WPA.ifT ?_) | (refine WPA.ifF ?_) | (refine WLA.no rfl rfl ?_) | ((first | refine WPA.dec ?_ | ((fail_if_success (guard_target =~ WLA _ _ _ _ _ _ (put1 _ _ (.bool true)) _)); (fail_if_success (guard_target =~ WLA _ _ _ _ _ _ (put1 _ _ (.bool false)) _)); refine WLA.dec rfl rfl ?_) | refine WLA.pk ?_); first | refine orL ?_ | refine orR ?_) | ((first | refine WPA.ifBt ?_ ?_ | refine WPA.ifBnf ?_ ?_); assumption) | ((first | refine WPA.ifBnt ?_ ?_ | refine WPA.ifBf ?_ ?_); assumption) | ((first | refine WPA.ifs ?_ ?_ | refine WPA.ifB ?_ ?_) <;> intro hc) | ((fail_if_success (guard_target =~ WLA _ _ _ _ _ _ (put1 _ _ (.bool true)) _)); (fail_if_success (guard_target =~ WLA _ _ _ _ _ _ (put1 _ _ (.bool false)) _)); (first | refine WLA.both rfl rfl ?_ ?_ | refine WLA.bothB rfl rfl ?_ ?_) <;> intro hg))
              exact QQ.loopS ⟨.ok (r2, n + 1), out ++ [nv], x⟩ ⟨rfl, rfl, rfl, trivial⟩ ⟨⟨hst2, by dsimp only; rw [List.length_append, List.length_singleton]; omega, fun z _ => by dsimp only; rw [List.length_append, List.length_singleton]; omega⟩, f, fun z hz h9 => (by injection hz with hz; rw [← hz] at h9 ⊢; dsimp only at h9 ⊢; have := aft_size h9; omega), by dsimp only; rw [contT_ok]; exact hh⟩ (by dsimp only [stM]; omega) (fun w h => h.to)
          · have hbad : headF s 0 = .error (n + 1, 3) := by
              rw [hh]
              split
              · rfl
              · split
                · rfl
                · rename_i c1 c2
                  have c2' : NumL l ng := Classical.byContradiction c2
                  have c3 := numVL_eq c2'
                  rw [if_pos (Classical.byContradiction fun c4 => hbd ⟨c2', by omega, by omega⟩)]; rfl
            have hcs : numBL l ng = false ∨ (numBL l ng = true ∧ numVL l ng < 0) ∨ (numBL l ng = true ∧ ¬ numVL l ng < 0 ∧ (out.length : Int) = 8) := by
              by_cases c1 : NumL l ng
              · by_cases c2 : numVL l ng < 0
                · exact .inr (.inl ⟨numBL_iff.2 c1, c2⟩)
                · exact .inr (.inr ⟨numBL_iff.2 c1, c2, Classical.byContradiction fun c3 => hbd ⟨c1, by omega, by omega⟩⟩)
              · exact .inl (by cases hb : numBL l ng with | false => rfl | true => exact absurd (numBL_iff.1 hb) c1)
            clear hh hbd
            generalize numBL l ng = nb at hnm hcs
            generalize numVL l ng = nv at hnm hcs
            rcases hcs with c1 | ⟨c1, c2⟩ | ⟨c1, c2, c3⟩ <;> subst c1 <;> by_cases hl0 : l = ⟨#[]⟩
            all_goals (first | have hop := hemp hl0 | skip)
            all_goals (first | (exfalso; omega) | skip)
            all_goals
              repeat' (first | ((rw [en])) | ((rw [q1])) | ((guard_target =~ (_ : Nat) ≤ _; simp only [ByteArray.size_append]; omega)) | ((first | refine WLA.m rfl rfl ?_ ?_ | refine WLA.st rfl ?_ ?_ | refine WLA.x rfl rfl ?_ (fun x => ?_) | refine WLA.x0 rfl ?_ (fun x => ?_)); first | exact sdT | skip) | (refine Stp.go ?_) | (guard_target =~ WLA _ _ _ _ _ (⟨_, .call ⟨.value (.func 35), _, _⟩, _, _, _, _⟩ :: _) _ _; refine WLA.call rfl rfl (htk) ?_; rintro ⟨⟩) | (guard_target =~ WLA _ _ _ _ _ (⟨_, .call ⟨.value (.func 28), _, _⟩, _, _, _, _⟩ :: _) _ _; refine WLA.call rfl rfl (hit) ?_; rintro ⟨⟩) | (guard_target =~ WLA _ _ _ _ _ (⟨_, .call ⟨.value (.func 37), _, _⟩, _, _, _, _⟩ :: _) _ _; refine WLA.call rfl rfl (hb3) ?_; rintro ⟨⟩) | (guard_target =~ WLA _ _ _ _ _ (⟨_, .call ⟨.value (.func 55), _, _⟩, _, _, _, _⟩ :: _) _ _; refine WLA.cq rfl rfl (hnm) ?_) | (refine WPA.ifT ?_) | (refine WPA.ifF ?_) | (refine WLA.no rfl rfl ?_) | ((first | refine WPA.dec ?_ | ((fail_if_success (guard_target =~ WLA _ _ _ _ _ _ (put1 _ _ (.bool true)) _)); (fail_if_success (guard_target =~ WLA _ _ _ _ _ _ (put1 _ _ (.bool false)) _)); refine WLA.dec rfl rfl ?_) | refine WLA.pk ?_); first | refine orL ?_ | refine orR ?_) | ((first | refine WPA.ifBt ?_ ?_ | refine WPA.ifBnf ?_ ?_); assumption) | ((first | refine WPA.ifBnt ?_ ?_ | refine WPA.ifBf ?_ ?_); assumption) | ((first | refine WPA.ifs ?_ ?_ | refine WPA.ifB ?_ ?_) <;> intro hc) | ((fail_if_success (guard_target =~ WLA _ _ _ _ _ _ (put1 _ _ (.bool true)) _)); (fail_if_success (guard_target =~ WLA _ _ _ _ _ _ (put1 _ _ (.bool false)) _)); (first | refine WLA.both rfl rfl ?_ ?_ | refine WLA.bothB rfl rfl ?_ ?_) <;> intro hg))
            all_goals exact QQ.loopS ⟨badT (.ok (r2, n + 1)), out ++ [nv], x⟩ ⟨rfl, rfl, rfl, trivial⟩ ⟨⟨(by show (3 : Int) ≠ 0; decide), by dsimp only; rw [List.length_append, List.length_singleton]; omega, fun z hz => (by cases hz)⟩, 0, fun z hz => (by cases hz), hbad⟩ (by show 0 < r.size + 1; omega) (fun w h => h.to)
      · rw [if_neg h0] at et
        rw [et] at hst2 htk
        dsimp only at hst2 htk
        rw [if_pos h0] at hh
        repeat' (first | ((first | refine WLA.m rfl rfl ?_ ?_ | refine WLA.st rfl ?_ ?_ | refine WLA.x rfl rfl ?_ (fun x => ?_) | refine WLA.x0 rfl ?_ (fun x => ?_)); first | exact sdT | skip) | (refine Stp.go ?_) | (guard_target =~ WLA _ _ _ _ _ (⟨_, .call ⟨.value (.func 35), _, _⟩, _, _, _, _⟩ :: _) _ _; refine WLA.call rfl rfl (htk) ?_; rintro ⟨⟩) | (refine WPA.ifT ?_) | (refine WPA.ifF ?_) | (refine WLA.no rfl rfl ?_) | ((first | refine WPA.dec ?_ | ((fail_if_success (guard_target =~ WLA _ _ _ _ _ _ (put1 _ _ (.bool true)) _)); (fail_if_success (guard_target =~ WLA _ _ _ _ _ _ (put1 _ _ (.bool false)) _)); refine WLA.dec rfl rfl ?_) | refine WLA.pk ?_); first | refine orL ?_ | refine orR ?_) | ((first | refine WPA.ifBt ?_ ?_ | refine WPA.ifBnf ?_ ?_); assumption) | ((first | refine WPA.ifBnt ?_ ?_ | refine WPA.ifBf ?_ ?_); assumption) | ((first | refine WPA.ifs ?_ ?_ | refine WPA.ifB ?_ ?_) <;> intro hc) | ((fail_if_success (guard_target =~ WLA _ _ _ _ _ _ (put1 _ _ (.bool true)) _)); (fail_if_success (guard_target =~ WLA _ _ _ _ _ _ (put1 _ _ (.bool false)) _)); (first | refine WLA.both rfl rfl ?_ ?_ | refine WLA.bothB rfl rfl ?_ ?_) <;> intro hg))
        exact QQ.end_ rfl ⟨((fr, out), v, .error (n + 1, 2)), ⟨fun z hz => (by cases hz), fun z hz => (by injection hz with hz; rw [← hz]; exact hh)⟩, hst2⟩ rfl fun w h => h.to
end
end Go.Proofs.YthkhneimfjaohaaGreatDoor
