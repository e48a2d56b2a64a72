/- Texts that RunWrites_law leans on, part 8. Conditions: none. -/
import Derived.Test.YtbekjbgaenjbfaaQw7
namespace Go.Proofs.Ytbekjbgaenjbfaa
open Go Go.Fw Go.RowKit
set_option linter.unusedVariables false
set_option linter.unusedSimpArgs false
set_option maxRecDepth 100000
set_option maxHeartbeats 16000000
set_option synthInstance.maxHeartbeats 200000
set_option synthInstance.maxSize 100000
attribute [local irreducible] WPA WLA WDA WDQ WDE QQ seqQ blockQ loopQ fnQ OpP OpT Tr TrP SL SLd OwnS LitS Bk BkE Ob
instance : Und Try.prog 137 .unsafePointer := ⟨Try.underlying137⟩
instance : LiesT Try.prog 115 2 := ⟨by kernel_rfl⟩
instance : ExtSame Try.prog 79 := ⟨fun x w => by
  rw [run_callFunc_extern Try.func79 (by kernel_rfl) (by kernel_rfl) (by kernel_rfl) (e := Extern.AbiNoEscape.same) (by kernel_rfl)]
  rw [Lib.run_noEscape]; rfl⟩
theorem bytesK_append (t u : ByteArray) : bytesK (t ++ u) = bytesK t ++ bytesK u := by
  unfold bytesK
  rw [ByteArray.data_append, Array.toList_append, List.map_append]
def BldR (b : Nat) (t : ByteArray) : HP := exH fun q : Option Addr × SV => pureH (q.1 = none ∨ q.1 = some ⟨b, 0, none⟩) (star (Bk b 115 [.pointer q.1, .slice q.2.a q.2.n q.2.cap]) (OwnS 5 q.2 (bytesK t)))
theorem BldR.fold {b : Nat} {t : ByteArray} {s : SV} {L : List HP} : Ent (Bk b 115 [.pointer (some ⟨b, 0, none⟩), .slice s.a s.n s.cap] :: OwnS 5 s (bytesK t) :: L) (BldR b t :: L) := Ent.ex (some ⟨b, 0, none⟩, s) (Ent.pure (.inr rfl) (Ent.star Ent.refl))
theorem BldR.new {b : Nat} {L : List HP} : Ent (Bk b 115 [.pointer none, .slice none 0 0] :: L) (BldR b ⟨#[]⟩ :: L) :=
  (Ent.cons (Ent.ownNil (α := KInt .u8) (t := 5) Ent.refl)).trans (Ent.ex (none, SV.nil) (Ent.pure (.inl rfl) (Ent.star Ent.refl)))
instance {b : Nat} {t : ByteArray} : Opn (BldR b t) { q : Option Addr × SV // q.1 = none ∨ q.1 = some ⟨b, 0, none⟩ } (fun q L => Bk b 115 [.pointer q.1.1, .slice q.1.2.a q.1.2.n q.1.2.cap] :: OwnS 5 q.1.2 (bytesK t) :: L) := ⟨fun w0 I L w h => by
  obtain ⟨q, h⟩ := h.exH
  obtain ⟨hq, h⟩ := h.pureH
  exact ⟨⟨q, hq⟩, Ent.unstar.sl h⟩⟩
section
variable {L L' : List HP} {w0 : World} {I : Foot}
theorem copyCheck_tr {b : Nat} {q : Option Addr} {s : SV} (hq : q = none ∨ q = some ⟨b, 0, none⟩) : Tr Try.prog 69 #[.pointer (some ⟨b, 0, none⟩)] (SL w0 I (Bk b 115 [.pointer q, .slice s.a s.n s.cap] :: L)) (fun _ : Unit => .tuple #[]) (fun _ => SL w0 I (Bk b 115 [.pointer (some ⟨b, 0, none⟩), .slice s.a s.n s.cap] :: L)) := by
  refine Tr.intro Try.func69 rfl Try.ntmps69 rfl ?_
  rcases hq with rfl | rfl
  · have h1 : (2 : Nat) ≠ 0 ∧ ([.pointer none, .slice s.a s.n s.cap] : List Value).length ≠ 0 := ⟨by decide, by simp⟩
    repeat' (first | ((first | refine WLA.m rfl rfl ?_ ?_ | refine WLA.st rfl ?_ ?_ | refine WLA.x rfl rfl ?_ (fun x => ?_) | refine WLA.x0 rfl ?_ (fun x => ?_)); first | exact trivial | exact rfl | assumption | omega | (refine ⟨?_, ?_⟩ <;> omega) | (simp only [Room, List.length_set, List.length_append, List.length_cons, List.length_nil, List.length_replicate]; omega) | decide | skip) | (refine Stp.go ?_) | (refine WPA.ifT ?_) | (refine WPA.ifF ?_) | ((first | refine WPA.dec ?_); first | refine .inl ⟨by first | assumption | omega | with_reducible rfl | (refine fun h => h ?_; first | assumption | with_reducible rfl) | (simp only [List.length_append, List.length_cons, List.length_nil, List.length_set] <;> omega) | decide, ?_⟩ | refine .inr ⟨by first | assumption | omega | with_reducible rfl | (refine fun h => h ?_; first | assumption | with_reducible rfl) | (simp only [List.length_append, List.length_cons, List.length_nil, List.length_set] <;> omega) | decide, ?_⟩) | ((first | refine WPA.ifBt ?_ ?_ | refine WPA.ifBnf ?_ ?_); assumption) | ((first | refine WPA.ifBnt ?_ ?_ | refine WPA.ifBf ?_ ?_); assumption) | ((first | refine WPA.ifs ?_ ?_ | refine WPA.ifB ?_ ?_) <;> intro hc))
    exact QQ.endn rfl () rfl fun w h => h.to
  · skip
    repeat' (first | ((first | refine WLA.m rfl rfl ?_ ?_ | refine WLA.st rfl ?_ ?_ | refine WLA.x rfl rfl ?_ (fun x => ?_) | refine WLA.x0 rfl ?_ (fun x => ?_)); first | exact trivial | exact rfl | assumption | omega | (refine ⟨?_, ?_⟩ <;> omega) | (simp only [Room, List.length_set, List.length_append, List.length_cons, List.length_nil, List.length_replicate]; omega) | decide | skip) | (refine Stp.go ?_) | (refine WPA.ifT ?_) | (refine WPA.ifF ?_) | ((first | refine WPA.dec ?_); first | refine .inl ⟨by first | assumption | omega | with_reducible rfl | (refine fun h => h ?_; first | assumption | with_reducible rfl) | (simp only [List.length_append, List.length_cons, List.length_nil, List.length_set] <;> omega) | decide, ?_⟩ | refine .inr ⟨by first | assumption | omega | with_reducible rfl | (refine fun h => h ?_; first | assumption | with_reducible rfl) | (simp only [List.length_append, List.length_cons, List.length_nil, List.length_set] <;> omega) | decide, ?_⟩) | ((first | refine WPA.ifBt ?_ ?_ | refine WPA.ifBnf ?_ ?_); assumption) | ((first | refine WPA.ifBnt ?_ ?_ | refine WPA.ifBf ?_ ?_); assumption) | ((first | refine WPA.ifs ?_ ?_ | refine WPA.ifB ?_ ?_) <;> intro hc))
    exact QQ.endn rfl () rfl fun w h => h.to
theorem WriteString_tr {b : Nat} {t u : ByteArray} [h : FindK L BldR b t L'] (hz : t.size + u.size ≤ 140737488355328) : Tr Try.prog 52 #[.pointer (some ⟨b, 0, none⟩), .string u] (SL w0 I L) (fun _ : Unit => .tuple #[.int .i64 u.size, .nilIface]) (fun _ => SL w0 I (BldR b (t ++ u) :: L')) := by
  refine Tr.at h.out (Tr.opn fun q => ?_)
  obtain ⟨⟨q, s⟩, hq⟩ := q
  dsimp only
  refine Tr.intro Try.func52 rfl Try.ntmps52 rfl ?_
  have hbl := bytesK_len t
  have hroom : Room ((bytesK t).length + u.size) 1 := ⟨by omega, by omega⟩
  repeat' (first | ((first | refine WLA.m rfl rfl ?_ ?_ | refine WLA.st rfl ?_ ?_ | refine WLA.x rfl rfl ?_ (fun x => ?_) | refine WLA.x0 rfl ?_ (fun x => ?_)); first | exact trivial | exact rfl | assumption | omega | (refine ⟨?_, ?_⟩ <;> omega) | (simp only [Room, List.length_set, List.length_append, List.length_cons, List.length_nil, List.length_replicate]; omega) | decide | skip) | (refine Stp.go ?_) | (guard_target =~ WLA _ _ _ _ _ (⟨_, .call ⟨.value (.func 69), _, _⟩, _, _, _, _⟩ :: _) _ _; first | (refine WLA.call rfl rfl (copyCheck_tr hq) ?_; rintro ⟨⟩) | (refine WLA.call0 rfl (copyCheck_tr hq) ?_; rintro ⟨⟩)) | (refine WPA.ifT ?_) | (refine WPA.ifF ?_) | ((first | refine WPA.dec ?_); first | refine .inl ⟨by first | assumption | omega | with_reducible rfl | (refine fun h => h ?_; first | assumption | with_reducible rfl) | (simp only [List.length_append, List.length_cons, List.length_nil, List.length_set] <;> omega) | decide, ?_⟩ | refine .inr ⟨by first | assumption | omega | with_reducible rfl | (refine fun h => h ?_; first | assumption | with_reducible rfl) | (simp only [List.length_append, List.length_cons, List.length_nil, List.length_set] <;> omega) | decide, ?_⟩) | ((first | refine WPA.ifBt ?_ ?_ | refine WPA.ifBnf ?_ ?_); assumption) | ((first | refine WPA.ifBnt ?_ ?_ | refine WPA.ifBf ?_ ?_); assumption) | ((first | refine WPA.ifs ?_ ?_ | refine WPA.ifB ?_ ?_) <;> intro hc))
  refine QQ.end_ rfl () rfl fun w h => ?_
  have h2 : SL w0 I (Bk b 115 [.pointer (some ⟨b, 0, none⟩), .slice x.a x.n x.cap] :: OwnS 5 x (bytesK (t ++ u)) :: L') w := by rw [bytesK_append]; exact h.to
  exact BldR.fold.sl h2
theorem BString_tr {b : Nat} {t : ByteArray} [h : FindK L BldR b t L'] : Tr Try.prog 53 #[.pointer (some ⟨b, 0, none⟩)] (SL w0 I L) (fun _ : Unit => .string t) (fun _ => SL w0 I L') := by
  refine Tr.at h.out (Tr.opn fun q => ?_)
  obtain ⟨⟨q, s⟩, hq⟩ := q
  dsimp only
  refine Tr.intro Try.func53 rfl Try.ntmps53 rfl ?_
  have hbl : ((bytesK t).length : Int) = t.size := by rw [bytesK_len]
  repeat' (first | ((rw [hbl])) | ((first | refine WLA.m rfl rfl ?_ ?_ | refine WDQ.m rfl rfl ?_ ?_ | refine WLA.st rfl ?_ ?_ | refine WLA.x rfl rfl ?_ (fun x => ?_) | refine WLA.x0 rfl ?_ (fun x => ?_)); first | exact trivial | exact rfl | assumption | omega | (refine ⟨?_, ?_⟩ <;> omega) | (simp only [Room, List.length_set, List.length_append, List.length_cons, List.length_nil, List.length_replicate]; omega) | decide | skip) | (refine Stp.go ?_) | (refine WPA.ifT ?_) | (refine WPA.ifF ?_) | ((first | refine WPA.dec ?_); first | refine .inl ⟨by first | assumption | omega | with_reducible rfl | (refine fun h => h ?_; first | assumption | with_reducible rfl) | (simp only [List.length_append, List.length_cons, List.length_nil, List.length_set] <;> omega) | decide, ?_⟩ | refine .inr ⟨by first | assumption | omega | with_reducible rfl | (refine fun h => h ?_; first | assumption | with_reducible rfl) | (simp only [List.length_append, List.length_cons, List.length_nil, List.length_set] <;> omega) | decide, ?_⟩) | ((first | refine WPA.ifBt ?_ ?_ | refine WPA.ifBnf ?_ ?_); assumption) | ((first | refine WPA.ifBnt ?_ ?_ | refine WPA.ifBf ?_ ?_); assumption) | ((first | refine WPA.ifs ?_ ?_ | refine WPA.ifB ?_ ?_) <;> intro hc) | (guard_target =~ WPA _ _ _ (.region 1 _ true) _ _ _; refine WPA.drawT 10 (.q 0 (.q 1 (.q 2 (.q 3 (.q 5 (.q 6 (.q 7 (.q 8 (.q 9 (.e 4 .fin)))))))))) mixed ?_ ?_; kernel_rfl) | (refine WDA.finish (tl := [⟨_, _, _, _, _, _⟩, ⟨_, _, _, _, _, _⟩]) rfl ?_) | (refine WDQ.see rfl ?_) | (refine WDE.see rfl ?_) | (refine WDE.alloc rfl rfl (fun w h => h) (fun x => ?_)) | (refine WDE.stE rfl ?_) | (refine WDE.x rfl rfl ?_ ?_ (fun x => ?_); rotate_left 1; (intro x w h; first | exact h | exact Ent.drop1.sl h | exact SL.unI h | exact SL.to h); rotate_left 1; first | exact trivial | exact rfl | assumption | omega | (refine ⟨?_, ?_⟩ <;> omega) | (simp only [Room, List.length_set, List.length_append, List.length_cons, List.length_nil, List.length_replicate]; omega) | decide | skip))
  refine WLA.x (h := unsafeStr (P := Try.prog) (e := 5) (s := s) (t := t) (by kernel_rfl) (Ent.swap : Ent _ (OwnS 5 s (bytesK t) :: _)) x.2) rfl rfl trivial (fun _ => ?_)
  repeat' (first | ((first | refine WLA.m rfl rfl ?_ ?_ | refine WDQ.m rfl rfl ?_ ?_ | refine WLA.st rfl ?_ ?_ | refine WLA.x rfl rfl ?_ (fun x => ?_) | refine WLA.x0 rfl ?_ (fun x => ?_)); first | exact trivial | exact rfl | assumption | omega | (refine ⟨?_, ?_⟩ <;> omega) | (simp only [Room, List.length_set, List.length_append, List.length_cons, List.length_nil, List.length_replicate]; omega) | decide | skip) | (refine Stp.go ?_) | (refine WPA.ifT ?_) | (refine WPA.ifF ?_) | ((first | refine WPA.dec ?_); first | refine .inl ⟨by first | assumption | omega | with_reducible rfl | (refine fun h => h ?_; first | assumption | with_reducible rfl) | (simp only [List.length_append, List.length_cons, List.length_nil, List.length_set] <;> omega) | decide, ?_⟩ | refine .inr ⟨by first | assumption | omega | with_reducible rfl | (refine fun h => h ?_; first | assumption | with_reducible rfl) | (simp only [List.length_append, List.length_cons, List.length_nil, List.length_set] <;> omega) | decide, ?_⟩) | ((first | refine WPA.ifBt ?_ ?_ | refine WPA.ifBnf ?_ ?_); assumption) | ((first | refine WPA.ifBnt ?_ ?_ | refine WPA.ifBf ?_ ?_); assumption) | ((first | refine WPA.ifs ?_ ?_ | refine WPA.ifB ?_ ?_) <;> intro hc) | (guard_target =~ WPA _ _ _ (.region 1 _ true) _ _ _; refine WPA.drawT 10 (.q 0 (.q 1 (.q 2 (.q 3 (.q 5 (.q 6 (.q 7 (.q 8 (.q 9 (.e 4 .fin)))))))))) mixed ?_ ?_; kernel_rfl) | (refine WDA.finish (tl := [⟨_, _, _, _, _, _⟩, ⟨_, _, _, _, _, _⟩]) rfl ?_) | (refine WDQ.see rfl ?_) | (refine WDE.see rfl ?_) | (refine WDE.alloc rfl rfl (fun w h => h) (fun x => ?_)) | (refine WDE.stE rfl ?_) | (refine WDE.x rfl rfl ?_ ?_ (fun x => ?_); rotate_left 1; (intro x w h; first | exact h | exact Ent.drop1.sl h | exact SL.unI h | exact SL.to h); rotate_left 1; first | exact trivial | exact rfl | assumption | omega | (refine ⟨?_, ?_⟩ <;> omega) | (simp only [Room, List.length_set, List.length_append, List.length_cons, List.length_nil, List.length_replicate]; omega) | decide | skip))
  exact QQ.end_ rfl () rfl fun w h => h.to
end
end Go.Proofs.Ytbekjbgaenjbfaa
namespace Go.Fw
open Go Go.RowKit
set_option linter.unusedVariables false
set_option linter.unusedSimpArgs false
section
variable {P : Program} {ρ : Env} {A : World → Prop} {ty : TypeId} {x y : Operand} {t u : TypeId}
instance {a b : Int} [h1 : Ev ρ x (.int .u64 a)] [h2 : Ev ρ y (.int .u64 b)] : OpM P ρ A (.binOp .quo t x y u) ty (.int .u64 (a / b)) ((0 ≤ a ∧ a ≤ 18446744073709551615) ∧ 0 < b) := ⟨fun h => by
  have h3 := P_quo (P := P) (A := A) (ty := ty) (t := t) (u := u) h1.out h2.out (by omega)
  have e : a.tdiv b = a / b := Int.tdiv_eq_ediv_of_nonneg h.1.1
  have e2 : 0 ≤ a / b := Int.ediv_nonneg h.1.1 (by omega)
  have e3 : a / b ≤ a := Int.ediv_le_self _ h.1.1
  rw [e, wrap_u64 (by omega)] at h3; exact h3⟩
instance {a b : Int} [h1 : Ev ρ x (.int .u64 a)] [h2 : Ev ρ y (.int .u64 b)] : OpM P ρ A (.binOp .rem t x y u) ty (.int .u64 (a % b)) (0 ≤ a ∧ 0 < b) := ⟨fun h => by
  have h3 := P_rem (P := P) (A := A) (ty := ty) (t := t) (u := u) h1.out h2.out (by omega)
  rw [Int.tmod_eq_emod_of_nonneg h.1] at h3; exact h3⟩
instance {a b : Int} [h1 : Ev ρ x (.int .u8 a)] [h2 : Ev ρ y (.int .u8 b)] : OpM P ρ A (.binOp .rem t x y u) ty (.int .u8 (a % b)) (0 ≤ a ∧ 0 < b) := ⟨fun h => by
  have h3 := P_rem (P := P) (A := A) (ty := ty) (t := t) (u := u) h1.out h2.out (by omega)
  rw [Int.tmod_eq_emod_of_nonneg h.1] at h3; exact h3⟩
instance {a b : Int} [h1 : Ev ρ x (.int .u64 a)] [h2 : Ev ρ y (.int .u64 b)] : OpM P ρ A (.binOp .add t x y u) ty (.int .u64 (a + b)) (0 ≤ a + b ∧ a + b ≤ 18446744073709551615) := ⟨fun h => by
  have h3 := P_add (P := P) (A := A) (ty := ty) (t := t) (u := u) h1.out h2.out
  rw [wrap_u64 h] at h3; exact h3⟩
instance {a b : Int} [h1 : Ev ρ x (.int .u64 a)] [h2 : Ev ρ y (.int .u64 b)] : OpM P ρ A (.binOp .mul t x y u) ty (.int .u64 (a * b)) (0 ≤ a * b ∧ a * b ≤ 18446744073709551615) := ⟨fun h => by
  have h3 := P_mul (P := P) (A := A) (ty := ty) (t := t) (u := u) h1.out h2.out
  rw [wrap_u64 h] at h3; exact h3⟩
theorem shlU {k' : IntKind} {a : Int} {s : Int} [h1 : Ev ρ x (.int .u64 a)] [h2 : Ev ρ y (.int k' s)] : OpM P ρ A (.binOp .shl t x y u) ty (.int .u64 (IntKind.u64.wrap (a * 2 ^ s.toNat))) (0 ≤ s ∧ s ≤ 64) := ⟨fun h => by
  exact P_shl (s := s.toNat) h1.out (by rw [h2.out]; congr 1; omega) (by simp [IntKind.bits]; omega)⟩
end
theorem or_u64 {a b : Int} (k : Nat) (ha : 0 ≤ a ∧ a < 2 ^ k) (hb : 0 ≤ b ∧ b ≤ 18446744073709551615) (hd : b % 2 ^ k = 0) (hs : a + b ≤ 18446744073709551615) : Go.bits .or .u64 a b = a + b := by
  obtain ⟨m, rfl⟩ := Int.eq_ofNat_of_zero_le ha.1
  obtain ⟨n, rfl⟩ := Int.eq_ofNat_of_zero_le hb.1
  have hm : m < 2 ^ k := by exact_mod_cast ha.2
  have hn : n % 2 ^ k = 0 := by exact_mod_cast hd
  have hor : m ||| n = m + n := by
    rw [Nat.or_comm]
    have e : n = 2 ^ k * (n / 2 ^ k) := by have := Nat.div_add_mod n (2 ^ k); omega
    rw [e, (Nat.two_pow_add_eq_or_of_lt hm _).symm]; omega
  have h1 : (BitVec.ofInt 64 (m : Int)).toNat = m := by
    rw [BitVec.ofInt_natCast, BitVec.toNat_ofNat]; exact Nat.mod_eq_of_lt (by omega)
  have h2 : (BitVec.ofInt 64 (n : Int)).toNat = n := by
    rw [BitVec.ofInt_natCast, BitVec.toNat_ofNat]; exact Nat.mod_eq_of_lt (by omega)
  show IntKind.u64.wrap ((BitVec.ofInt 64 (m : Int) ||| BitVec.ofInt 64 (n : Int)).toNat : Int) = _
  rw [BitVec.toNat_or, h1, h2, hor]
  have := wrap_u64 (a := ((m + n : Nat) : Int)) (by omega)
  rw [this]; omega
theorem or_u8 (m : Nat) (h : m < 256) : Go.bits .or .u8 (m : Int) 128 = ((m % 128 + 128 : Nat) : Int) := by
  have : ∀ m : Fin 256, Go.bits .or .u8 (m.val : Int) 128 = ((m.val % 128 + 128 : Nat) : Int) := by decide +kernel
  exact this ⟨m, h⟩
theorem and_u8 (m : Nat) (h : m < 256) : Go.bits .and .u8 (m : Int) 127 = ((m % 128 : Nat) : Int) := by
  have : ∀ m : Fin 256, Go.bits .and .u8 (m.val : Int) 127 = ((m.val % 128 : Nat) : Int) := by decide +kernel
  exact this ⟨m, h⟩
end Go.Fw
namespace Go.Proofs.Ytbekjbgaenjbfaa
open Go Go.Fw Go.RowKit
set_option linter.unusedVariables false
set_option linter.unusedSimpArgs false
set_option maxRecDepth 100000
set_option maxHeartbeats 16000000
set_option synthInstance.maxHeartbeats 200000
set_option synthInstance.maxSize 100000
attribute [local irreducible] WPA WLA WDA WDQ WDE QQ seqQ blockQ loopQ fnQ OpP OpT Tr TrP SL SLd OwnS LitS Bk BkE Ob
def vint (n : Nat) : List UInt8 := if h : n < 128 then [UInt8.ofNat n] else UInt8.ofNat (n % 128 + 128) :: vint (n / 128)
termination_by n
decreasing_by omega
theorem vint_lt {n : Nat} (h : n < 128) : vint n = [UInt8.ofNat n] := by rw [vint, dif_pos h]
theorem vint_ge {n : Nat} (h : ¬ n < 128) : vint n = UInt8.ofNat (n % 128 + 128) :: vint (n / 128) := by rw [vint, dif_neg h]
def vS (n : Nat) : ByteArray := ⟨(vint n).toArray⟩
theorem vint_len : ∀ (f n : Nat), n < 128 ^ (f + 1) → (vint n).length ≤ f + 1
  | 0, n, h => by rw [vint_lt (by simpa using h)]; simp
  | f + 1, n, h => by
    by_cases h1 : n < 128
    · rw [vint_lt h1]; simp
    · rw [vint_ge h1]
      have := vint_len f (n / 128) (by rw [Nat.pow_succ] at h; exact Nat.div_lt_of_lt_mul (by rw [Nat.mul_comm]; exact h))
      simp only [List.length_cons]; omega
theorem vS_size {n : Nat} (h : n ≤ 18446744073709551615) : (vS n).size ≤ 10 := by
  have := vint_len 9 n (Nat.lt_of_le_of_lt h (by decide))
  show (vint n).toArray.size ≤ 10
  rw [List.size_toArray]; exact this
theorem u8_toNat {m : Nat} (h : m < 256) : ((UInt8.ofNat m).toNat : Int) = m := by rw [UInt8.toNat_ofNat', Nat.mod_eq_of_lt h]
theorem bytesK_one {m : Nat} (h : m < 256) : bytesK ⟨#[UInt8.ofNat m]⟩ = [toK .u8 (m : Int)] := by
  show [kb (UInt8.ofNat m)] = _
  unfold kb
  rw [u8_toNat h]; rfl
theorem vS_lt {n : Nat} (h : n < 128) : vS n = ⟨#[UInt8.ofNat n]⟩ := by unfold vS; rw [vint_lt h]
theorem vS_ge {n : Nat} (h : ¬ n < 128) : vS n = ⟨#[UInt8.ofNat (n % 128 + 128)]⟩ ++ vS (n / 128) := by
  unfold vS; rw [vint_ge h]
  apply ByteArray.ext
  simp
theorem bnil_app (x : ByteArray) : (⟨#[]⟩ : ByteArray) ++ x = x := by apply ByteArray.ext; simp
theorem app_bnil (x : ByteArray) : x ++ (⟨#[]⟩ : ByteArray) = x := by apply ByteArray.ext; simp
attribute [local irreducible] vS
def WrtR (W : Nat) (t : ByteArray) : HP := exH fun s : SV => star (Bk W 96 [.slice s.a s.n s.cap]) (OwnS 5 s (bytesK t))
theorem WrtR.fold {W : Nat} {t : ByteArray} {s : SV} {L : List HP} : Ent (Bk W 96 [.slice s.a s.n s.cap] :: OwnS 5 s (bytesK t) :: L) (WrtR W t :: L) := Ent.ex s (Ent.star Ent.refl)
theorem WrtR.new {W : Nat} {L : List HP} : Ent (Bk W 96 [.slice none 0 0] :: L) (WrtR W ⟨#[]⟩ :: L) :=
  (Ent.cons (Ent.ownNil (α := KInt .u8) (t := 5) Ent.refl)).trans (Ent.ex SV.nil (Ent.star Ent.refl))
instance {W : Nat} {t : ByteArray} : Opn (WrtR W t) SV (fun s L => Bk W 96 [.slice s.a s.n s.cap] :: OwnS 5 s (bytesK t) :: L) := ⟨fun w0 I L w h => by
  obtain ⟨q, h⟩ := h.exH
  exact ⟨q, Ent.unstar.sl h⟩⟩
section
variable {L L' : List HP} {w0 : World} {I : Foot}
theorem WRaw_tr {W : Nat} {t u : ByteArray} [h : FindK L WrtR W t L'] (hz : t.size + u.size ≤ 140737488355328) : Tr Try.prog 41 #[.pointer (some ⟨W, 0, none⟩), .string u] (SL w0 I L) (fun _ : Unit => .tuple #[]) (fun _ => SL w0 I (WrtR W (t ++ u) :: L')) := by
  refine Tr.at h.out (Tr.opn fun s => ?_)
  refine Tr.intro Try.func41 rfl Try.ntmps41 rfl ?_
  have hbl := bytesK_len t
  have hroom : Room ((bytesK t).length + u.size) 1 := ⟨by omega, by omega⟩
  repeat' (first | ((first | refine WLA.m rfl rfl ?_ ?_ | refine WLA.st rfl ?_ ?_ | refine WLA.x rfl rfl ?_ (fun x => ?_) | refine WLA.x0 rfl ?_ (fun x => ?_)); first | exact trivial | exact rfl | assumption | omega | (refine ⟨?_, ?_⟩ <;> omega) | (simp only [Room, List.length_set, List.length_append, List.length_cons, List.length_nil, List.length_replicate]; omega) | decide | skip) | (refine Stp.go ?_) | (refine WPA.ifT ?_) | (refine WPA.ifF ?_) | ((first | refine WPA.dec ?_); first | refine .inl ⟨by first | assumption | omega | with_reducible rfl | (refine fun h => h ?_; first | assumption | with_reducible rfl) | (simp only [List.length_append, List.length_cons, List.length_nil, List.length_set] <;> omega) | decide, ?_⟩ | refine .inr ⟨by first | assumption | omega | with_reducible rfl | (refine fun h => h ?_; first | assumption | with_reducible rfl) | (simp only [List.length_append, List.length_cons, List.length_nil, List.length_set] <;> omega) | decide, ?_⟩) | ((first | refine WPA.ifBt ?_ ?_ | refine WPA.ifBnf ?_ ?_); assumption) | ((first | refine WPA.ifBnt ?_ ?_ | refine WPA.ifBf ?_ ?_); assumption) | ((first | refine WPA.ifs ?_ ?_ | refine WPA.ifB ?_ ?_) <;> intro hc))
  refine QQ.endn rfl () rfl fun w h => ?_
  have h2 : SL w0 I (Bk W 96 [.slice x.a x.n x.cap] :: OwnS 5 x (bytesK (t ++ u)) :: L') w := by rw [bytesK_append]; exact h.to
  exact WrtR.fold.sl h2
theorem WBytes_tr {W : Nat} {t : ByteArray} [h : FindK L WrtR W t L'] : Tr Try.prog 44 #[.pointer (some ⟨W, 0, none⟩)] (SL w0 I L) (fun _ : Unit => .string t) (fun _ => SL w0 I (WrtR W t :: L')) := by
  refine Tr.at h.out (Tr.opn fun s => ?_)
  refine Tr.intro Try.func44 rfl Try.ntmps44 rfl ?_
  repeat' (first | ((first | refine WLA.m rfl rfl ?_ ?_ | refine WLA.st rfl ?_ ?_ | refine WLA.x rfl rfl ?_ (fun x => ?_) | refine WLA.x0 rfl ?_ (fun x => ?_)); first | exact trivial | exact rfl | assumption | omega | (refine ⟨?_, ?_⟩ <;> omega) | (simp only [Room, List.length_set, List.length_append, List.length_cons, List.length_nil, List.length_replicate]; omega) | decide | skip) | (refine Stp.go ?_) | (refine WPA.ifT ?_) | (refine WPA.ifF ?_) | ((first | refine WPA.dec ?_); first | refine .inl ⟨by first | assumption | omega | with_reducible rfl | (refine fun h => h ?_; first | assumption | with_reducible rfl) | (simp only [List.length_append, List.length_cons, List.length_nil, List.length_set] <;> omega) | decide, ?_⟩ | refine .inr ⟨by first | assumption | omega | with_reducible rfl | (refine fun h => h ?_; first | assumption | with_reducible rfl) | (simp only [List.length_append, List.length_cons, List.length_nil, List.length_set] <;> omega) | decide, ?_⟩) | ((first | refine WPA.ifBt ?_ ?_ | refine WPA.ifBnf ?_ ?_); assumption) | ((first | refine WPA.ifBnt ?_ ?_ | refine WPA.ifBf ?_ ?_); assumption) | ((first | refine WPA.ifs ?_ ?_ | refine WPA.ifB ?_ ?_) <;> intro hc))
  exact QQ.end_ rfl () rfl fun w h => WrtR.fold.sl (h.to : SL w0 I (Bk W 96 [.slice s.a s.n s.cap] :: OwnS 5 s (bytesK t) :: L') w)
structure NS where
  v : Nat
  s : SV
  p : ByteArray
theorem WNum_tr {W n : Nat} {t : ByteArray} [h : FindK L WrtR W t L'] (hn : n ≤ 18446744073709551615) (hz : t.size ≤ 100000000000000) : Tr Try.prog 42 #[.pointer (some ⟨W, 0, none⟩), .int .u64 (n : Int)] (SL w0 I L) (fun _ : Unit => .tuple #[]) (fun _ => SL w0 I (WrtR W (t ++ vS n) :: L')) := by
  refine Tr.at h.out (Tr.opn fun s => ?_)
  refine Tr.intro Try.func42 rfl Try.ntmps42 rfl ?_
  have hvs := vS_size hn
  repeat' (first | ((first | refine WLA.m rfl rfl ?_ ?_ | refine WLA.st rfl ?_ ?_ | refine WLA.x rfl rfl ?_ (fun x => ?_) | refine WLA.x0 rfl ?_ (fun x => ?_)); first | exact trivial | exact rfl | assumption | omega | (refine ⟨?_, ?_⟩ <;> omega) | (simp only [Room, List.length_set, List.length_append, List.length_cons, List.length_nil, List.length_replicate]; omega) | decide | skip) | (refine Stp.go ?_) | (refine WPA.ifT ?_) | (refine WPA.ifF ?_) | ((first | refine WPA.dec ?_); first | refine .inl ⟨by first | assumption | omega | with_reducible rfl | (refine fun h => h ?_; first | assumption | with_reducible rfl) | (simp only [List.length_append, List.length_cons, List.length_nil, List.length_set] <;> omega) | decide, ?_⟩ | refine .inr ⟨by first | assumption | omega | with_reducible rfl | (refine fun h => h ?_; first | assumption | with_reducible rfl) | (simp only [List.length_append, List.length_cons, List.length_nil, List.length_set] <;> omega) | decide, ?_⟩) | ((first | refine WPA.ifBt ?_ ?_ | refine WPA.ifBnf ?_ ?_); assumption) | ((first | refine WPA.ifBnt ?_ ?_ | refine WPA.ifBf ?_ ?_); assumption) | ((first | refine WPA.ifs ?_ ?_ | refine WPA.ifB ?_ ?_) <;> intro hc))
  refine WPA.loopS (σ := NS) (fun y => [(0, .pointer (some ⟨W, 0, none⟩)), (1, .int .u64 (y.v : Int))]) (fun y => y.v ≤ 18446744073709551615 ∧ y.p ++ vS y.v = vS n)
    (fun y => SL w0 I (Bk W 96 [.slice y.s.a y.s.n y.s.cap] :: OwnS 5 y.s (bytesK (t ++ y.p)) :: L')) (fun y => y.v) ⟨n, s, ⟨#[]⟩⟩ ⟨rfl, rfl, trivial⟩ ⟨hn, bnil_app _⟩ (fun w h => ?_) ?_
  · show SL w0 I (Bk W 96 [.slice s.a s.n s.cap] :: OwnS 5 s (bytesK (t ++ ⟨#[]⟩)) :: L') w
    rw [app_bnil]
    exact h.to
  rintro ⟨v, s, p⟩ ρ ⟨hv, hp⟩
  dsimp only at hv hp ⊢
  have hpl : p.size ≤ 10 := by
    have := congrArg ByteArray.size hp
    rw [ByteArray.size_append] at this; omega
  have hbl : (bytesK (t ++ p)).length = t.size + p.size := by rw [bytesK_len, ByteArray.size_append]
  have hroom : Room ((bytesK (t ++ p)).length + 1) 1 := ⟨by omega, by omega⟩
  by_cases h1 : v < 128
  · have h1' : ¬ (128 : Int) ≤ v := by omega
    have hb : (0 : Int) ≤ v ∧ (v : Int) ≤ 255 := by omega
    repeat' (first | ((first | refine WLA.m rfl rfl ?_ ?_ | refine WLA.st rfl ?_ ?_ | refine WLA.x rfl rfl ?_ (fun x => ?_) | refine WLA.x0 rfl ?_ (fun x => ?_)); first | exact trivial | exact rfl | assumption | omega | (refine ⟨?_, ?_⟩ <;> omega) | (simp only [Room, List.length_set, List.length_append, List.length_cons, List.length_nil, List.length_replicate]; omega) | decide | skip) | (refine Stp.go ?_) | (refine WPA.ifT ?_) | (refine WPA.ifF ?_) | ((first | refine WPA.dec ?_); first | refine .inl ⟨by first | assumption | omega | with_reducible rfl | (refine fun h => h ?_; first | assumption | with_reducible rfl) | (simp only [List.length_append, List.length_cons, List.length_nil, List.length_set] <;> omega) | decide, ?_⟩ | refine .inr ⟨by first | assumption | omega | with_reducible rfl | (refine fun h => h ?_; first | assumption | with_reducible rfl) | (simp only [List.length_append, List.length_cons, List.length_nil, List.length_set] <;> omega) | decide, ?_⟩) | ((first | refine WPA.ifBt ?_ ?_ | refine WPA.ifBnf ?_ ?_); assumption) | ((first | refine WPA.ifBnt ?_ ?_ | refine WPA.ifBf ?_ ?_); assumption) | ((first | refine WPA.ifs ?_ ?_ | refine WPA.ifB ?_ ?_) <;> intro hc))
    refine QQ.endn rfl () rfl fun w h => ?_
    have e : bytesK (t ++ vS n) = bytesK (t ++ p) ++ [toK .u8 (v : Int)] := by
      rw [← hp, vS_lt h1, ← ByteArray.append_assoc, bytesK_append, bytesK_one (by omega)]
    have h2 : SL w0 I (Bk W 96 [.slice x.a x.n x.cap] :: OwnS 5 x (bytesK (t ++ vS n)) :: L') w := by rw [e]; exact h.to
    exact WrtR.fold.sl h2
  · have h1' : (128 : Int) ≤ v := by omega
    have eo : Go.bits .or .u8 (IntKind.u8.wrap (v : Int)) 128 = ((v % 128 + 128 : Nat) : Int) := by
      have e1 : IntKind.u8.wrap (v : Int) = ((v % 256 : Nat) : Int) := by simp only [IntKind.wrap, IntKind.bits, IntKind.signed]; simp
      rw [e1, or_u8 _ (by omega)]; omega
    have es : ((v : Int)).fdiv (2 ^ Int.toNat 7) = ((v / 128 : Nat) : Int) := by rw [Int.fdiv_eq_ediv_of_nonneg _ (by decide)]; show (v : Int) / 128 = _; omega
    have hsh : (0 : Int) ≤ 7 ∧ (7 : Int) ≤ (IntKind.u64.bits : Nat) := by decide
    repeat' (first | (guard_target =~ WLA _ _ _ _ _ (⟨_, .convert _ _ _, _, _, _, _⟩ :: _) _ _; refine WLA.m (h := convW) rfl rfl trivial ?_) | (guard_target =~ WDQ _ _ _ _ _ _ _ ⟨_, .convert _ _ _, _, _, _, _⟩ _ _ _; refine WDQ.m (h := convW) rfl rfl trivial ?_) | (guard_target =~ WDP _ _ _ _ _ _ _ ⟨_, .convert _ _ _, _, _, _, _⟩ _ _ _; refine WDP.m (h := convW) rfl rfl trivial ?_) | ((rw [eo])) | ((rw [es])) | ((first | refine WLA.m rfl rfl ?_ ?_ | refine WLA.st rfl ?_ ?_ | refine WLA.x rfl rfl ?_ (fun x => ?_) | refine WLA.x0 rfl ?_ (fun x => ?_)); first | exact trivial | exact rfl | assumption | omega | (refine ⟨?_, ?_⟩ <;> omega) | (simp only [Room, List.length_set, List.length_append, List.length_cons, List.length_nil, List.length_replicate]; omega) | decide | skip) | (refine Stp.go ?_) | (refine WPA.ifT ?_) | (refine WPA.ifF ?_) | ((first | refine WPA.dec ?_); first | refine .inl ⟨by first | assumption | omega | with_reducible rfl | (refine fun h => h ?_; first | assumption | with_reducible rfl) | (simp only [List.length_append, List.length_cons, List.length_nil, List.length_set] <;> omega) | decide, ?_⟩ | refine .inr ⟨by first | assumption | omega | with_reducible rfl | (refine fun h => h ?_; first | assumption | with_reducible rfl) | (simp only [List.length_append, List.length_cons, List.length_nil, List.length_set] <;> omega) | decide, ?_⟩) | ((first | refine WPA.ifBt ?_ ?_ | refine WPA.ifBnf ?_ ?_); assumption) | ((first | refine WPA.ifBnt ?_ ?_ | refine WPA.ifBf ?_ ?_); assumption) | ((first | refine WPA.ifs ?_ ?_ | refine WPA.ifB ?_ ?_) <;> intro hc))
    refine QQ.loopS ⟨v / 128, x, p ++ ⟨#[UInt8.ofNat (v % 128 + 128)]⟩⟩ ⟨rfl, rfl, trivial⟩ ⟨by dsimp only; omega, ?_⟩ (by dsimp only; omega) (fun w h => ?_)
    · dsimp only
      rw [ByteArray.append_assoc, ← vS_ge h1, hp]
    · have e : bytesK (t ++ (p ++ ⟨#[UInt8.ofNat (v % 128 + 128)]⟩)) = bytesK (t ++ p) ++ [toK .u8 ((v % 128 + 128 : Nat) : Int)] := by
        rw [← ByteArray.append_assoc, bytesK_append, bytesK_one (by omega)]
      dsimp only
      rw [e]
      exact h.to
end
theorem rNum_tr {w0 : World} : ∀ (f : Nat) {n : Nat} {I : Foot} {L : List HP}, n < 128 ^ f → n ≤ 18446744073709551615 → Tr Try.prog 47 #[.int .u64 (n : Int)] (SL w0 I L) (fun _ : Unit => .string (vS n)) (fun _ => SL w0 I L) := by
  intro f
  induction f with
  | zero =>
    intro n I L h hn
    have h0 : n = 0 := by simpa using h
    subst h0
    refine Tr.intro Try.func47 rfl Try.ntmps47 rfl ?_
    have hl : [toK .u8 (((0 : Nat) : Int))] = bytesK ⟨#[UInt8.ofNat 0]⟩ := (bytesK_one (by omega)).symm
    repeat' (first | ((rw [hl])) | ((first | refine WLA.m rfl rfl ?_ ?_ | refine WLA.st rfl ?_ ?_ | refine WLA.x rfl rfl ?_ (fun x => ?_) | refine WLA.x0 rfl ?_ (fun x => ?_)); first | exact trivial | exact rfl | assumption | omega | (refine ⟨?_, ?_⟩ <;> omega) | (simp only [Room, List.length_set, List.length_append, List.length_cons, List.length_nil, List.length_replicate]; omega) | decide | skip) | (refine Stp.go ?_) | (refine WPA.ifT ?_) | (refine WPA.ifF ?_) | ((first | refine WPA.dec ?_); first | refine .inl ⟨by first | assumption | omega | with_reducible rfl | (refine fun h => h ?_; first | assumption | with_reducible rfl) | (simp only [List.length_append, List.length_cons, List.length_nil, List.length_set] <;> omega) | decide, ?_⟩ | refine .inr ⟨by first | assumption | omega | with_reducible rfl | (refine fun h => h ?_; first | assumption | with_reducible rfl) | (simp only [List.length_append, List.length_cons, List.length_nil, List.length_set] <;> omega) | decide, ?_⟩) | ((first | refine WPA.ifBt ?_ ?_ | refine WPA.ifBnf ?_ ?_); assumption) | ((first | refine WPA.ifBnt ?_ ?_ | refine WPA.ifBf ?_ ?_); assumption) | ((first | refine WPA.ifs ?_ ?_ | refine WPA.ifB ?_ ?_) <;> intro hc))
    exact QQ.end_ rfl () (by rw [vS_lt (by omega)]) fun w h => h.to
  | succ f ih =>
    intro n I L h hn
    refine Tr.intro Try.func47 rfl Try.ntmps47 rfl ?_
    have ih2 := fun {I : Foot} {L : List HP} (h1 : ¬ n < 128) => ih (n := n / 128) (I := I) (L := L) (by rw [Nat.pow_succ] at h; exact Nat.div_lt_of_lt_mul (by rw [Nat.mul_comm]; exact h)) (by omega)
    by_cases h1 : n < 128
    · have h1' : (n : Int) < 128 := by omega
      have hb : (0 : Int) ≤ n ∧ (n : Int) ≤ 255 := by omega
      have hl : [toK .u8 (n : Int)] = bytesK ⟨#[UInt8.ofNat n]⟩ := (bytesK_one (by omega)).symm
      repeat' (first | ((rw [hl])) | ((first | refine WLA.m rfl rfl ?_ ?_ | refine WLA.st rfl ?_ ?_ | refine WLA.x rfl rfl ?_ (fun x => ?_) | refine WLA.x0 rfl ?_ (fun x => ?_)); first | exact trivial | exact rfl | assumption | omega | (refine ⟨?_, ?_⟩ <;> omega) | (simp only [Room, List.length_set, List.length_append, List.length_cons, List.length_nil, List.length_replicate]; omega) | decide | skip) | (refine Stp.go ?_) | (refine WPA.ifT ?_) | (refine WPA.ifF ?_) | ((first | refine WPA.dec ?_); first | refine .inl ⟨by first | assumption | omega | with_reducible rfl | (refine fun h => h ?_; first | assumption | with_reducible rfl) | (simp only [List.length_append, List.length_cons, List.length_nil, List.length_set] <;> omega) | decide, ?_⟩ | refine .inr ⟨by first | assumption | omega | with_reducible rfl | (refine fun h => h ?_; first | assumption | with_reducible rfl) | (simp only [List.length_append, List.length_cons, List.length_nil, List.length_set] <;> omega) | decide, ?_⟩) | ((first | refine WPA.ifBt ?_ ?_ | refine WPA.ifBnf ?_ ?_); assumption) | ((first | refine WPA.ifBnt ?_ ?_ | refine WPA.ifBf ?_ ?_); assumption) | ((first | refine WPA.ifs ?_ ?_ | refine WPA.ifB ?_ ?_) <;> intro hc))
      exact QQ.end_ rfl () (by rw [vS_lt h1]) fun w h => h.to
    · have h1' : ¬ (n : Int) < 128 := by omega
      obtain ⟨m, hm⟩ : ∃ m : Nat, m = n % 128 + 128 := ⟨_, rfl⟩
      obtain ⟨q, hq0⟩ : ∃ q : Nat, q = n / 128 := ⟨_, rfl⟩
      have ih3 := fun {I : Foot} {L : List HP} => ih2 (I := I) (L := L) h1
      have hge := vS_ge h1
      rw [← hm, ← hq0] at hge
      rw [← hq0] at ih3
      rw [hge]
      have e1 : (n : Int) % 128 + 128 = (m : Int) := by omega
      have e2 : (n : Int) / 128 = (q : Int) := by omega
      have hl : [toK .u8 (m : Int)] = bytesK ⟨#[UInt8.ofNat m]⟩ := (bytesK_one (by omega)).symm
      have hvs := vS_size (n := q) (by omega)
      have hsz : (⟨#[UInt8.ofNat m]⟩ : ByteArray).size + (vS q).size ≤ 9223372036854775807 := by
        have : (⟨#[UInt8.ofNat m]⟩ : ByteArray).size = 1 := rfl
        omega
      generalize (⟨#[UInt8.ofNat m]⟩ : ByteArray) = cb at hl hsz
      have hb : (0 : Int) ≤ m ∧ (m : Int) ≤ 255 := by omega
      have hq : ((0 : Int) ≤ n ∧ (n : Int) ≤ 18446744073709551615) ∧ (0 : Int) < 128 := by omega
      clear ih ih2 hge
      repeat' (first | ((rw [e1])) | ((rw [e2])) | ((rw [hl])) | ((first | refine WLA.m rfl rfl ?_ ?_ | refine WDQ.m rfl rfl ?_ ?_ | refine WLA.st rfl ?_ ?_ | refine WLA.x rfl rfl ?_ (fun x => ?_) | refine WLA.x0 rfl ?_ (fun x => ?_)); first | exact trivial | exact rfl | assumption | omega | (refine ⟨?_, ?_⟩ <;> omega) | (simp only [Room, List.length_set, List.length_append, List.length_cons, List.length_nil, List.length_replicate]; omega) | decide | skip) | (refine Stp.go ?_) | (guard_target =~ WLA _ _ _ _ _ (⟨_, .call ⟨.value (.func 47), _, _⟩, _, _, _, _⟩ :: _) _ _; first | (refine WLA.call rfl rfl (ih3) ?_; rintro ⟨⟩) | (refine WLA.call0 rfl (ih3) ?_; rintro ⟨⟩)) | (refine WPA.ifT ?_) | (refine WPA.ifF ?_) | ((first | refine WPA.dec ?_); first | refine .inl ⟨by first | assumption | omega | with_reducible rfl | (refine fun h => h ?_; first | assumption | with_reducible rfl) | (simp only [List.length_append, List.length_cons, List.length_nil, List.length_set] <;> omega) | decide, ?_⟩ | refine .inr ⟨by first | assumption | omega | with_reducible rfl | (refine fun h => h ?_; first | assumption | with_reducible rfl) | (simp only [List.length_append, List.length_cons, List.length_nil, List.length_set] <;> omega) | decide, ?_⟩) | ((first | refine WPA.ifBt ?_ ?_ | refine WPA.ifBnf ?_ ?_); assumption) | ((first | refine WPA.ifBnt ?_ ?_ | refine WPA.ifBf ?_ ?_); assumption) | ((first | refine WPA.ifs ?_ ?_ | refine WPA.ifB ?_ ?_) <;> intro hc) | (guard_target =~ WPA _ _ _ (.region 3 _ true) _ _ _; refine WPA.drawT 9 (.q 0 (.q 1 (.q 2 (.q 3 (.q 6 (.q 7 (.b false 4 (.q 5 (.e 8 .fin)) false 8 (.e 4 (.q 5 .fin))))))))) mixed ?_ ?_; kernel_rfl) | (refine WDA.finish (tl := [⟨_, _, _, _, _, _⟩, ⟨_, _, _, _, _, _⟩]) rfl ?_) | (refine WDQ.see rfl ?_) | (first | (refine WDA.two rfl rfl ?_ ?_) | (refine WDA.twoL rfl rfl ?_ ?_) | (refine WDA.twoR rfl rfl ?_ ?_) | (refine WDA.twoW rfl rfl ?_ ?_)) | (refine WDE.see rfl ?_) | (refine WDE.alloc rfl rfl (fun w h => h) (fun x => ?_)) | (refine WDE.stE rfl ?_) | (refine WDE.x rfl rfl ?_ ?_ (fun x => ?_); rotate_left 1; (intro x w h; first | exact h | exact Ent.drop1.sl h | exact SL.unI h | exact SL.to h); rotate_left 1; first | exact trivial | exact rfl | assumption | omega | (refine ⟨?_, ?_⟩ <;> omega) | (simp only [Room, List.length_set, List.length_append, List.length_cons, List.length_nil, List.length_replicate]; omega) | decide | skip) | (guard_target =~ WDE _ _ _ _ _ _ _ ⟨_, .call ⟨.value (.func 47), _, _⟩, _, _, _, _⟩ _ _ _; refine WDE.call rfl rfl (ih3) ?_ ?_; (intro x w h; first | exact h | exact Ent.drop1.sl h | exact SL.unI h | exact SL.to h); rintro ⟨⟩) | (guard_target =~ WDW _ _ _ _ _ _ _ ⟨_, .call ⟨.value (.func 47), _, _⟩, _, _, _, _⟩ _ _ _; refine WDW.call rfl rfl (ih3) ?_; rintro ⟨⟩))
      all_goals exact QQ.end_ rfl () rfl fun w h => h.to
end Go.Proofs.Ytbekjbgaenjbfaa
