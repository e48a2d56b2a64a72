/- Texts that RunBack_law leans on, part 12. Conditions: none. -/
import Derived.OpenShut
import Derived.Shelf.SlSortCmp.NoneTotal
import Derived.Shelf.Slices.In.SortNone
import Derived.Shelf.Sort.Plain
import Derived.Shelf.Slices.CompactI
import Derived.Shelf.Slices.SearchI
import Derived.Shelf.Slices.Empties
import Derived.Shelf.Strconv.Itoa0
import Derived.Test.YtbekjbgaenjbfaaProg
import Derived.Test.YtbekjbgaenjbfaaQb11
namespace Go.Proofs.Ytbekjbgaenjbfaa
open Go Go.Fw Go.RowKit
set_option linter.unusedVariables false
set_option linter.unusedSimpArgs false
set_option maxRecDepth 100000
set_option maxHeartbeats 16000000
set_option synthInstance.maxHeartbeats 200000
set_option synthInstance.maxSize 100000
attribute [local irreducible] WPA WLA WDA WDQ WDE QQ seqQ blockQ loopQ fnQ OpP OpT Tr TrP SL SLd OwnS LitS Bk BkE Ob
def TxB (m : BS) : Prop := ∀ t ∈ m.ts, t.size ≤ 65536
theorem TxB.new {size most : Int} : TxB (BS.mk size most [] [] 0 0 0) := fun t h => by cases h
theorem TxB.alloc {m : BS} (h : TxB m) : TxB m.alloc := fun t ht => by
  change t ∈ padT m.tk m.ts at ht
  unfold padT at ht
  split at ht
  · exact h t ht
  · rcases List.mem_append.1 ht with h1 | h1
    · exact h t h1
    · rw [List.mem_singleton.1 h1]; decide
theorem TxB.write {m : BS} {id : Int} {u : ByteArray} (h : TxB m) (hu : u.size ≤ 65536) : TxB (m.write id u) := fun t ht => by
  change t ∈ m.ts.set id.toNat u at ht
  rcases List.mem_or_eq_of_mem_set ht with h1 | h1
  · exact h t h1
  · rw [h1]; exact hu
theorem TxB.at {m : BS} {id : Int} (h : TxB m) (hl : m.tk.length = m.ts.length) (hh : Has m.tk id) : (at_ m.ts id).size ≤ 65536 := by
  have := hh.1
  rw [at_txt m.ts id (by omega) (by omega)]
  exact h _ (List.getElem_mem _)
def txtN (m : BS) (ids : List Int) : Nat → Option ByteArray
  | 0 => some ⟨#[]⟩
  | i + 1 => (txtN m ids i).bind fun t => if Has m.tk (ids.getD i 0) then some (t ++ at_ m.ts (ids.getD i 0)) else none
theorem txtN_no {m : BS} {ids : List Int} {i : Nat} (h : txtN m ids i = none) : ∀ n, i ≤ n → txtN m ids n = none
  | 0, h2 => by rw [Nat.le_zero.1 h2] at h; exact h
  | n + 1, h2 => by
    by_cases e : i = n + 1
    · rw [← e]; exact h
    · rw [txtN, txtN_no h n (by omega)]; rfl
theorem txtN_size {m : BS} {ids : List Int} (hb : TxB m) (hl : m.tk.length = m.ts.length) : ∀ {n : Nat} {t : ByteArray}, txtN m ids n = some t → t.size ≤ 65536 * n
  | 0, t, h => by rw [← Option.some.inj h]; decide
  | n + 1, t, h => by
    rw [txtN] at h
    obtain ⟨u, h1, h2⟩ := Option.bind_eq_some_iff.1 h
    have := txtN_size hb hl h1
    by_cases hh : Has m.tk (ids.getD n 0)
    · rw [if_pos hh] at h2
      have h3 := hb.at hl hh
      rw [← Option.some.inj h2, ByteArray.size_append]; omega
    · rw [if_neg hh] at h2; cases h2
def txE (o : Option ByteArray) : Int := if o.isSome then 0 else 7
section
variable {S : Nat} {m : BS} {L L' : List HP} {w0 : World} {I : Foot}
theorem bytes_tr {b : SV} {ids : List Int} [h : FindK L StoreR S m L'] (hs : SlI I b Int inferInstance ids) (hl : m.tk.length = m.ts.length) (hb : TxB m) (hn : ids.length ≤ 1000000) :
    Tr Try.prog 33 #[.pointer (some ⟨S, 0, none⟩), .slice b.a b.n b.cap] (SL w0 I L) (fun _ : Unit => .tuple #[.string ((txtN m ids ids.length).getD ⟨#[]⟩), .int .i64 (txE (txtN m ids ids.length))]) (fun _ => SL w0 I (StoreR S m :: L')) := by
  refine Tr.at h.out ?_
  refine Tr.intro Try.func33 rfl Try.ntmps33 rfl ?_
  repeat' (first | ((first | refine WLA.m rfl rfl ?_ ?_ | refine WLA.st rfl ?_ ?_ | refine WLA.x rfl rfl ?_ (fun x => ?_) | refine WLA.x0 rfl ?_ (fun x => ?_)); first | exact trivial | exact rfl | assumption | omega | (refine ⟨?_, ?_⟩ <;> omega) | (simp only [Room, List.length_set, List.length_append, List.length_cons, List.length_nil, List.length_replicate]; omega) | decide | skip) | (refine Stp.go ?_) | (refine WPA.ifT ?_) | (refine WPA.ifF ?_) | ((first | refine WPA.dec ?_); first | refine .inl ⟨by first | assumption | omega | with_reducible rfl | (refine fun h => h ?_; first | assumption | with_reducible rfl) | (simp only [List.length_append, List.length_cons, List.length_nil, List.length_set] <;> omega) | decide, ?_⟩ | refine .inr ⟨by first | assumption | omega | with_reducible rfl | (refine fun h => h ?_; first | assumption | with_reducible rfl) | (simp only [List.length_append, List.length_cons, List.length_nil, List.length_set] <;> omega) | decide, ?_⟩) | ((first | refine WPA.ifBt ?_ ?_ | refine WPA.ifBnf ?_ ?_); assumption) | ((first | refine WPA.ifBnt ?_ ?_ | refine WPA.ifBf ?_ ?_); assumption) | ((first | refine WPA.ifs ?_ ?_ | refine WPA.ifB ?_ ?_) <;> intro hc))
  revert x; intro B
  refine WPA.ent (L' := BldR B ⟨#[]⟩ :: StoreR S m :: L') BldR.new ?_
  refine WPA.loopS (σ := Nat × ByteArray) (fun y => [(0, .pointer (some ⟨S, 0, none⟩)), (1, .slice b.a b.n b.cap), (6, .pointer (some ⟨B, 0, none⟩)), (11, .slice b.a b.n b.cap), (12, .int .i64 ids.length), (13, .int .i64 y.1)]) (fun y => y.1 ≤ ids.length ∧ txtN m ids y.1 = some y.2) (fun y => SL w0 I (BldR B y.2 :: StoreR S m :: L')) (fun y => ids.length - y.1) (0, ⟨#[]⟩) ⟨rfl, rfl, rfl, rfl, rfl, rfl, trivial⟩ ⟨Nat.zero_le _, rfl⟩ (fun w h => h.to) ?_
  rintro ⟨i, t⟩ ρ ⟨hi, ht⟩
  dsimp only at hi ht ⊢
  by_cases hil : i < ids.length
  · have hil' : (0 : Int) ≤ i ∧ (i : Int) < ids.length := by omega
    have hlt : (i : Int) < ids.length := by omega
    have hsz := txtN_size hb hl ht
    have hat : at_ ids (i : Int) = ids.getD i 0 := by rw [at_nat ids i hil, List.getD_eq_getElem?_getD, List.getElem?_eq_getElem hil]; rfl
    have hnx : txtN m ids (i + 1) = if Has m.tk (ids.getD i 0) then some (t ++ at_ m.ts (ids.getD i 0)) else none := by rw [txtN, ht]; rfl
    rw [← hat] at hnx
    obtain ⟨id, hid⟩ : ∃ id : Int, at_ ids (i : Int) = id := ⟨_, rfl⟩
    rw [hid] at hnx
    by_cases hh : Has m.tk id
    · have h3 := hb.at hl hh
      rw [if_pos hh] at hnx
      repeat' (first | ((rw [hid])) | ((first | refine WLA.m rfl rfl ?_ ?_ | refine WLA.st rfl ?_ ?_ | refine WLA.x rfl rfl ?_ (fun x => ?_) | refine WLA.x0 rfl ?_ (fun x => ?_)); first | exact trivial | exact rfl | assumption | omega | (refine ⟨?_, ?_⟩ <;> omega) | (simp only [Room, List.length_set, List.length_append, List.length_cons, List.length_nil, List.length_replicate]; omega) | decide | skip) | (refine Stp.go ?_) | (guard_target =~ WLA _ _ _ _ _ (⟨_, .call ⟨.value (.func 25), _, _⟩, _, _, _, _⟩ :: _) _ _; first | (refine WLA.call rfl rfl (Read_tr hh) ?_; rintro ⟨⟩) | (refine WLA.call0 rfl (Read_tr hh) ?_; rintro ⟨⟩)) | (guard_target =~ WLA _ _ _ _ _ (⟨_, .call ⟨.value (.func 52), _, _⟩, _, _, _, _⟩ :: _) _ _; first | (refine WLA.call rfl rfl (WriteString_tr (by omega)) ?_; rintro ⟨⟩) | (refine WLA.call0 rfl (WriteString_tr (by omega)) ?_; rintro ⟨⟩)) | (refine WPA.ifT ?_) | (refine WPA.ifF ?_) | ((first | refine WPA.dec ?_); first | refine .inl ⟨by first | assumption | omega | with_reducible rfl | (refine fun h => h ?_; first | assumption | with_reducible rfl) | (simp only [List.length_append, List.length_cons, List.length_nil, List.length_set] <;> omega) | decide, ?_⟩ | refine .inr ⟨by first | assumption | omega | with_reducible rfl | (refine fun h => h ?_; first | assumption | with_reducible rfl) | (simp only [List.length_append, List.length_cons, List.length_nil, List.length_set] <;> omega) | decide, ?_⟩) | ((first | refine WPA.ifBt ?_ ?_ | refine WPA.ifBnf ?_ ?_); assumption) | ((first | refine WPA.ifBnt ?_ ?_ | refine WPA.ifBf ?_ ?_); assumption) | ((first | refine WPA.ifs ?_ ?_ | refine WPA.ifB ?_ ?_) <;> intro hc))
      exact QQ.loopS (i + 1, t ++ at_ m.ts id) ⟨rfl, rfl, rfl, rfl, rfl, rfl, trivial⟩ ⟨hil, hnx⟩ (by dsimp only; omega) (fun w h => h.to)
    · rw [if_neg hh] at hnx
      rw [txtN_no hnx ids.length hil]
      repeat' (first | ((rw [hid])) | ((first | refine WLA.m rfl rfl ?_ ?_ | refine WLA.st rfl ?_ ?_ | refine WLA.x rfl rfl ?_ (fun x => ?_) | refine WLA.x0 rfl ?_ (fun x => ?_)); first | exact trivial | exact rfl | assumption | omega | (refine ⟨?_, ?_⟩ <;> omega) | (simp only [Room, List.length_set, List.length_append, List.length_cons, List.length_nil, List.length_replicate]; omega) | decide | skip) | (refine Stp.go ?_) | (guard_target =~ WLA _ _ _ _ _ (⟨_, .call ⟨.value (.func 25), _, _⟩, _, _, _, _⟩ :: _) _ _; first | (refine WLA.call rfl rfl (Read_no hh) ?_; rintro ⟨⟩) | (refine WLA.call0 rfl (Read_no hh) ?_; rintro ⟨⟩)) | (refine WPA.ifT ?_) | (refine WPA.ifF ?_) | ((first | refine WPA.dec ?_); first | refine .inl ⟨by first | assumption | omega | with_reducible rfl | (refine fun h => h ?_; first | assumption | with_reducible rfl) | (simp only [List.length_append, List.length_cons, List.length_nil, List.length_set] <;> omega) | decide, ?_⟩ | refine .inr ⟨by first | assumption | omega | with_reducible rfl | (refine fun h => h ?_; first | assumption | with_reducible rfl) | (simp only [List.length_append, List.length_cons, List.length_nil, List.length_set] <;> omega) | decide, ?_⟩) | ((first | refine WPA.ifBt ?_ ?_ | refine WPA.ifBnf ?_ ?_); assumption) | ((first | refine WPA.ifBnt ?_ ?_ | refine WPA.ifBf ?_ ?_); assumption) | ((first | refine WPA.ifs ?_ ?_ | refine WPA.ifB ?_ ?_) <;> intro hc))
      exact QQ.end_ rfl () rfl fun w h => h.to
  · have hlt : ¬ (i : Int) < ids.length := by omega
    have hie : i = ids.length := by omega
    subst hie
    rw [ht]
    repeat' (first | ((first | refine WLA.m rfl rfl ?_ ?_ | refine WLA.st rfl ?_ ?_ | refine WLA.x rfl rfl ?_ (fun x => ?_) | refine WLA.x0 rfl ?_ (fun x => ?_)); first | exact trivial | exact rfl | assumption | omega | (refine ⟨?_, ?_⟩ <;> omega) | (simp only [Room, List.length_set, List.length_append, List.length_cons, List.length_nil, List.length_replicate]; omega) | decide | skip) | (refine Stp.go ?_) | (guard_target =~ WLA _ _ _ _ _ (⟨_, .call ⟨.value (.func 53), _, _⟩, _, _, _, _⟩ :: _) _ _; first | (refine WLA.call rfl rfl (BString_tr) ?_; rintro ⟨⟩) | (refine WLA.call0 rfl (BString_tr) ?_; rintro ⟨⟩)) | (refine WPA.ifT ?_) | (refine WPA.ifF ?_) | ((first | refine WPA.dec ?_); first | refine .inl ⟨by first | assumption | omega | with_reducible rfl | (refine fun h => h ?_; first | assumption | with_reducible rfl) | (simp only [List.length_append, List.length_cons, List.length_nil, List.length_set] <;> omega) | decide, ?_⟩ | refine .inr ⟨by first | assumption | omega | with_reducible rfl | (refine fun h => h ?_; first | assumption | with_reducible rfl) | (simp only [List.length_append, List.length_cons, List.length_nil, List.length_set] <;> omega) | decide, ?_⟩) | ((first | refine WPA.ifBt ?_ ?_ | refine WPA.ifBnf ?_ ?_); assumption) | ((first | refine WPA.ifBnt ?_ ?_ | refine WPA.ifBf ?_ ?_); assumption) | ((first | refine WPA.ifs ?_ ?_ | refine WPA.ifB ?_ ?_) <;> intro hc))
    exact QQ.end_ rfl () rfl fun w h => h.to
end
end Go.Proofs.Ytbekjbgaenjbfaa
namespace Go.Proofs.Ytbekjbgaenjbfaa
open Go Go.Fw Go.RowKit
set_option linter.unusedVariables false
set_option linter.unusedSimpArgs false
set_option maxRecDepth 100000
set_option maxHeartbeats 16000000
set_option synthInstance.maxHeartbeats 200000
set_option synthInstance.maxSize 100000
attribute [local irreducible] WPA WLA WDA WDQ WDE QQ seqQ blockQ loopQ fnQ OpP OpT Tr TrP SL SLd OwnS LitS Bk BkE Ob
attribute [local irreducible] vS keyS parL RowH
theorem rdN_no {o : Nat} {u : ByteArray} {i : Nat} (h : rdN o u i = none) : ∀ n, i ≤ n → rdN o u n = none
  | 0, h2 => by rw [Nat.le_zero.1 h2] at h; exact h
  | n + 1, h2 => by
    by_cases e : i = n + 1
    · rw [← e]; exact h
    · rw [rdN, rdN_no h n (by omega)]; rfl
theorem rdN_pre {o : Nat} {u r : ByteArray} {ms : List Ct} {i : Nat} (h : rdN o u i = some (ms, r)) (hl : ms.length = i) : ∀ n, i ≤ n → ∀ q, rdN o u n = some q → ∃ l, q.1 = ms ++ l
  | 0, h2, q, hq => by
    have e := Nat.le_zero.1 h2
    subst e
    rw [h] at hq
    rw [← Option.some.inj hq]; exact ⟨[], by simp⟩
  | n + 1, h2, q, hq => by
    by_cases e : i = n + 1
    · subst e
      rw [h] at hq
      rw [← Option.some.inj hq]; exact ⟨[], by simp⟩
    · rw [rdN] at hq
      obtain ⟨q1, h3, h4⟩ := Option.bind_eq_some_iff.1 hq
      obtain ⟨x, h5, h6⟩ := Option.map_eq_some_iff.1 h4
      obtain ⟨l, hl2⟩ := rdN_pre h hl n (by omega) q1 h3
      exact ⟨l ++ [x.1], by rw [← h6, hl2, List.append_assoc]⟩
def readS (o len : Int) (u : ByteArray) : Option (List Ct) := (rdN o.toNat u len.toNat).bind fun q => if q.2.size = 0 ∧ wrong o q.1 = 0 then some q.1 else none
theorem wrE_pre {o : Int} {ms l : List Ct} {i : Nat} (h : i < ms.length) : wrE o (ms ++ l) i = wrE o ms i := by
  unfold wrE prvG
  have e : ∀ j, j < ms.length → (ms ++ l).getD j ([], 0) = ms.getD j ([], 0) := fun j hj => by rw [List.getD_eq_getElem?_getD, List.getD_eq_getElem?_getD, List.getElem?_append_left hj]
  rw [e i h, e (i - 1) (by omega)]
theorem fst_pre {o : Int} {ms l : List Ct} : fstN (wrE o (ms ++ l)) ms.length = fstN (wrE o ms) ms.length := fstN_ext fun _ hi => wrE_pre hi
theorem readS_bad {o len : Int} {u r : ByteArray} {ms : List Ct} {i : Nat} (ho : 1 ≤ o ∧ o ≤ 8) (h : rdN o.toNat u i = some (ms, r)) (hl : ms.length = i) (hi : i ≤ len.toNat) (hb : fstN (wrE o ms) ms.length ≠ 0) : readS o len u = none := by
  unfold readS
  cases hq : rdN o.toNat u len.toNat with
  | none => rfl
  | some q =>
    obtain ⟨l, e⟩ := rdN_pre h hl _ hi q hq
    have hw : wrong o q.1 ≠ 0 := by
      unfold wrong
      rw [if_neg (by omega), e]
      intro h0
      apply hb
      rw [← fst_pre (l := l)]
      exact Classical.byContradiction fun h1 => by
        have hz := fstN_zero h0
        have : ∀ i, i < ms.length → wrE o (ms ++ l) i = 0 := fun i hi => hz i (by rw [List.length_append]; omega)
        have h2 : ∀ n, n ≤ ms.length → fstN (wrE o (ms ++ l)) n = 0 := by
          intro n
          induction n with
          | zero => intro _; rfl
          | succ n ih => intro hn; rw [fstN_succ (ih (by omega)), this n (by omega)]
        exact h1 (h2 _ (Nat.le_refl _))
    show (if q.2.size = 0 ∧ wrong o q.1 = 0 then some q.1 else none) = none
    rw [if_neg (fun h => hw h.2)]
theorem prv_snoc {ms : List Ct} {x : Ct} : prvG (ms ++ [x]) ms.length = if ms.length = 0 then none else some (ms.getD (ms.length - 1) ([], 0)).1 := by
  unfold prvG
  by_cases h : ms.length = 0
  · rw [if_pos h, if_pos h]
  · rw [if_neg h, if_neg h, List.getD_eq_getElem?_getD, List.getElem?_append_left (by omega), ← List.getD_eq_getElem?_getD]
theorem wrE_snoc {o : Int} {ms : List Ct} {x : Ct} {pl : Option (List Int)} (h : pl = prvG (ms ++ [x]) ms.length) : wrE o (ms ++ [x]) ms.length = chk1 o pl x.1 x.2 := by
  unfold wrE
  rw [← h, List.getD_eq_getElem?_getD, List.getElem?_append_right (Nat.le_refl _), Nat.sub_self]; rfl
theorem WPA.aptrR {ro : Option Nat} {P : Program} {n : Nat} {Q : Hnd} {ρ : Env} {w0 : World} {I : Foot} {L : List HP} {c : Code} {s : SV} {l : List Int} [h : RdS I L s Int inferInstance l] (k : (1 ≤ l.length → s.a ≠ none) → WPA ro P n c Q ρ (SL w0 I L)) : WPA ro P n c Q ρ (SL w0 I L) :=
  WPA.ofEx (τ := { _u : Unit // 1 ≤ l.length → s.a ≠ none }) (B := fun _ => SL w0 I L) (fun w hA => ⟨⟨(), fun hl => by
    have h1 := h.out w0 w hA
    rcases h1.plain with h2 | ⟨b, o, h2⟩
    · have := h1.len; omega
    · rw [h2]; exact fun h => by cases h⟩, hA⟩) fun x => k x.2
structure QS where
  ms : List Ct
  qs : List Pe
  p : Nat
  ls : SV
  l : List Int
  x : SV
end Go.Proofs.Ytbekjbgaenjbfaa
namespace Go.Proofs.Ytbekjbgaenjbfaa
open Go Go.Fw Go.RowKit
set_option linter.unusedVariables false
set_option linter.unusedSimpArgs false
set_option maxRecDepth 100000
set_option maxHeartbeats 16000000
set_option synthInstance.maxHeartbeats 200000
set_option synthInstance.maxSize 100000
attribute [local irreducible] WPA WLA WDA WDQ WDE QQ seqQ blockQ loopQ fnQ OpP OpT Tr TrP SL SLd OwnS LitS Bk BkE Ob
attribute [local irreducible] vS keyS parL RowH
def CtsH (x : SV) (ms : List Ct) : HP := exH fun qs : List Pe => pureH (qs.map Prod.snd = ms.map Prod.snd) (star (OwnS 67 x qs) (RowH 3 (qs.map Prod.fst) (ms.map Prod.fst)))
theorem CtsH.fold {x : SV} {ms : List Ct} {qs : List Pe} {L : List HP} (h : qs.map Prod.snd = ms.map Prod.snd) : Ent (OwnS 67 x qs :: RowH 3 (qs.map Prod.fst) (ms.map Prod.fst) :: L) (CtsH x ms :: L) := Ent.ex qs (Ent.pure h (Ent.star Ent.refl))
theorem CtsH.nil {L : List HP} : Ent L (CtsH SV.nil [] :: L) := (Ent.ownNil (α := Pe) (t := 67) (RowH.nil (α := Int) (e := 3))).trans (CtsH.fold (qs := []) (ms := []) rfl)
def rdE (o : Option (List Ct)) : Int := if o.isSome then 0 else 3
section
variable {S : Nat} {m : BS} {L L' : List HP} {w0 : World} {I : Foot}
theorem runRead_tr {o n : Int} {b : SV} {ids : List Int} {T : ByteArray} {res : Option (List Ct)} [h : FindK L StoreR S m L'] (ho : (1 ≤ o ∧ o ≤ 8) ∧ 0 ≤ n) (hs : SlI I b Int inferInstance ids) (hl : m.tk.length = m.ts.length) (hb : TxB m) (hn : ids.length ≤ 1000000) (ht : txtN m ids ids.length = some T) (hr : readS o n T = res) :
    Tr Try.prog 13 #[.pointer (some ⟨S, 0, none⟩), .agg #[.int .i64 o, .int .i64 n, .slice b.a b.n b.cap]] (SL w0 I L) (fun x : SV => .tuple #[.slice x.a x.n x.cap, .int .i64 (rdE res)]) (fun x => SL w0 I (CtsH x (res.getD []) :: StoreR S m :: L')) := by
  refine Tr.at h.out ?_
  refine Tr.intro Try.func13 rfl Try.ntmps13 rfl ?_
  have hd : decide (1 ≤ o ∧ o ≤ 8) = true := decide_eq_true ho.1
  have hn0 : ¬ n < 0 := by omega
  have hbt : (!true) = false := rfl
  have hTs := txtN_size hb hl ht
  have hTb : T.size ≤ 65536000000 := by omega
  have hby : ∀ {L L' : List HP} [FindK L StoreR S m L'], Tr Try.prog 33 #[.pointer (some ⟨S, 0, none⟩), .slice b.a b.n b.cap] (SL w0 I L) (fun _ : Unit => .tuple #[.string T, .int .i64 0]) (fun _ => SL w0 I (StoreR S m :: L')) := by
    intro L L' _
    have := bytes_tr (S := S) (m := m) (L := L) (L' := L') (w0 := w0) hs hl hb hn
    rw [ht] at this
    exact this
  have hop : ∀ {L : List HP}, Tr Try.prog 34 #[.string T] (SL w0 I L) (fun R : Nat => .pointer (some ⟨R, 0, none⟩)) (fun R => SL w0 I (Bk R 121 (RdV T ((0 : Nat) : Int) 0) :: L)) := Open_tr
  have hfull := ext_full' T
  repeat' (first | ((rw [hd])) | ((rw [hbt])) | ((first | refine WLA.m rfl rfl ?_ ?_ | refine WLA.st rfl ?_ ?_ | refine WLA.x rfl rfl ?_ (fun x => ?_) | refine WLA.x0 rfl ?_ (fun x => ?_)); first | exact trivial | exact rfl | assumption | omega | (refine ⟨?_, ?_⟩ <;> omega) | (simp only [Room, List.length_set, List.length_append, List.length_cons, List.length_nil, List.length_replicate]; omega) | decide | skip) | (refine Stp.go ?_) | (guard_target =~ WLA _ _ _ _ _ (⟨_, .call ⟨.value (.func 32), _, _⟩, _, _, _, _⟩ :: _) _ _; refine WLA.cq rfl rfl (order_tr) ?_) | (guard_target =~ WLA _ _ _ _ _ (⟨_, .call ⟨.value (.func 33), _, _⟩, _, _, _, _⟩ :: _) _ _; first | (refine WLA.call rfl rfl (hby) ?_; rintro ⟨⟩) | (refine WLA.call0 rfl (hby) ?_; rintro ⟨⟩)) | (guard_target =~ WLA _ _ _ _ _ (⟨_, .call ⟨.value (.func 34), _, _⟩, _, _, _, _⟩ :: _) _ _; first | (refine WLA.call rfl rfl (hop) ?_; rintro R) | (refine WLA.call0 rfl (hop) ?_; rintro R)) | (guard_target =~ WLA _ _ _ _ _ (⟨_, .call ⟨.value (.func 35), _, _⟩, _, _, _, _⟩ :: _) _ _; first | (refine WLA.call rfl rfl (steps_tr) ?_; rintro ⟨B, O, Z⟩) | (refine WLA.call0 rfl (steps_tr) ?_; rintro ⟨B, O, Z⟩)) | (refine WPA.ifT ?_) | (refine WPA.ifF ?_) | (refine WLA.no rfl rfl ?_) | ((first | refine WPA.dec ?_ | ((fail_if_success (guard_target =~ WLA _ _ _ _ _ _ (put1 _ _ (.bool true)) _)); (fail_if_success (guard_target =~ WLA _ _ _ _ _ _ (put1 _ _ (.bool false)) _)); refine WLA.dec rfl rfl ?_) | refine WLA.pk ?_); first | refine .inl ⟨by first | assumption | omega | with_reducible rfl | (refine fun h => h ?_; first | assumption | with_reducible rfl) | (simp only [List.length_append, List.length_cons, List.length_nil, List.length_set] <;> omega) | decide, ?_⟩ | refine .inr ⟨by first | assumption | omega | with_reducible rfl | (refine fun h => h ?_; first | assumption | with_reducible rfl) | (simp only [List.length_append, List.length_cons, List.length_nil, List.length_set] <;> omega) | decide, ?_⟩) | ((first | refine WPA.ifBt ?_ ?_ | refine WPA.ifBnf ?_ ?_); assumption) | ((first | refine WPA.ifBnt ?_ ?_ | refine WPA.ifBf ?_ ?_); assumption) | ((first | refine WPA.ifs ?_ ?_ | refine WPA.ifB ?_ ?_) <;> intro hc) | ((fail_if_success (guard_target =~ WLA _ _ _ _ _ _ (put1 _ _ (.bool true)) _)); (fail_if_success (guard_target =~ WLA _ _ _ _ _ _ (put1 _ _ (.bool false)) _)); (first | refine WLA.both rfl rfl ?_ ?_ | refine WLA.bothB rfl rfl ?_ ?_) <;> intro hg))
  revert x; intro X
  dsimp only
  obtain ⟨ou, rfl⟩ : ∃ ou : Nat, o = (ou : Int) := ⟨o.toNat, by omega⟩
  obtain ⟨nu, rfl⟩ : ∃ nu : Nat, n = (nu : Int) := ⟨n.toNat, by omega⟩
  refine WPA.ent (L' := OwnS 67 SV.nil ([] : List Pe) :: RowH 3 [] ([] : List (List Int)) :: OwnS 3 SV.nil ([] : List Int) :: Bk Z 23 [.slice none 0 0] :: Bk O 3 [.int .i64 ou] :: Bk B 82 [.pointer (some ⟨R, 0, none⟩)] :: Bk R 121 (RdV T ((0 : Nat) : Int) 0) :: Bk X 25 [.int .i64 ou, .int .i64 nu, .slice b.a b.n b.cap] :: StoreR S m :: L') ?_ ?_
  · exact Ent.ownNil ((Ent.ownNil (α := Int) (t := 3) EntC.out).trans (RowH.nil (α := Int) (e := 3)))
  refine WPA.loopS (σ := QS) (fun y => [(0, .pointer (some ⟨S, 0, none⟩)), (3, .pointer (some ⟨X, 0, none⟩)), (8, .pointer (some ⟨R, 0, none⟩)), (9, .func (.func 54) #[] #[.pointer (some ⟨B, 0, none⟩), .pointer (some ⟨O, 0, none⟩), .pointer (some ⟨Z, 0, none⟩)]), (10, .slice y.x.a y.x.n y.x.cap)])
    (fun y => (y.qs.map Prod.snd = y.ms.map Prod.snd ∧ y.p ≤ T.size ∧ y.ms.length ≤ y.p ∧ y.ms.length ≤ nu) ∧ rdN ou T y.ms.length = some (y.ms, T.extract y.p T.size) ∧ fstN (wrE ou y.ms) y.ms.length = 0 ∧ (y.ms.length = 0 → y.ls = SV.nil) ∧ (0 < y.ms.length → y.l = (y.ms.getD (y.ms.length - 1) ([], 0)).1))
    (fun y => SL w0 I (Bk R 121 (RdV T (y.p : Nat) 0) :: Bk Z 23 [.slice y.ls.a y.ls.n y.ls.cap] :: Bk O 3 [.int .i64 ou] :: Bk B 82 [.pointer (some ⟨R, 0, none⟩)] :: OwnS 3 y.ls y.l :: OwnS 67 y.x y.qs :: RowH 3 (y.qs.map Prod.fst) (y.ms.map Prod.fst) :: Bk X 25 [.int .i64 ou, .int .i64 nu, .slice b.a b.n b.cap] :: StoreR S m :: L')) (fun y => nu - y.ms.length) ⟨[], [], 0, SV.nil, [], SV.nil⟩ ⟨rfl, rfl, rfl, rfl, rfl, trivial⟩ ⟨⟨rfl, Nat.zero_le _, Nat.le_refl _, Nat.zero_le _⟩, by show some (([] : List Ct), T) = some ([], T.extract 0 T.size); rw [hfull], rfl, fun _ => rfl, fun h => absurd h (Nat.lt_irrefl 0)⟩ (fun w h => (h.to : SL w0 I (Bk R 121 (RdV T ((0 : Nat) : Int) 0) :: Bk Z 23 [.slice none 0 0] :: Bk O 3 [.int .i64 ou] :: Bk B 82 [.pointer (some ⟨R, 0, none⟩)] :: OwnS 3 SV.nil ([] : List Int) :: OwnS 67 SV.nil ([] : List Pe) :: RowH 3 [] ([] : List (List Int)) :: Bk X 25 [.int .i64 ou, .int .i64 nu, .slice b.a b.n b.cap] :: StoreR S m :: L') w)) ?_
  rintro ⟨ms, qs, p, ls, l, x⟩ ρ ⟨⟨hq, hp, hip, hin⟩, hrd, hz, hl0, hl1⟩
  dsimp only at hq hp hip hin hrd hz hl0 hl1 ⊢
  have hql : qs.length = ms.length := by have := congrArg List.length hq; simpa using this
  by_cases hlt : ms.length < nu
  · have hlt' : (qs.length : Int) < nu := by omega
    refine WPA.aptrR (s := ls) (l := l) fun hap => ?_
    have hprv : ∀ y : Ct, prvG (ms ++ [y]) ms.length = if ms.length = 0 then none else some l := fun y => by
      rw [prv_snoc]
      by_cases h0 : ms.length = 0
      · rw [if_pos h0, if_pos h0]
      · rw [if_neg h0, if_neg h0, hl1 (by omega)]
    have hgood := wr_take hz
    rw [List.take_length] at hgood
    have hll : 0 < ms.length → (l.length : Int) = ou := fun h0 => by
      rw [hl1 h0]
      refine (hgood _ ?_).1
      rw [List.getD_eq_getElem?_getD, List.getElem?_eq_getElem (by omega)]; exact List.getElem_mem _
    have hpl : (ls.a = none ∧ (if ms.length = 0 then none else some l) = none) ∨ (ls.a ≠ none ∧ (if ms.length = 0 then none else some l) = some l ∧ l.length ≤ 1000000) := by
      by_cases h0 : ms.length = 0
      · exact .inl ⟨by rw [hl0 h0]; rfl, if_pos h0⟩
      · have := hll (by omega)
        exact .inr ⟨hap (by omega), if_neg h0, by omega⟩
    have hnx : rdN ou T (ms.length + 1) = (rdOne ou (T.extract p T.size)).map fun r => (ms ++ [r.1], r.2) := by rw [rdN, hrd]; rfl
    cases hone : rdOne ou (T.extract p T.size) with
    | none =>
      rw [hone] at hnx
      have hres : res = none := by
        rw [← hr]; unfold readS
        rw [Int.toNat_natCast, Int.toNat_natCast, rdN_no hnx nu hlt]; rfl
      subst hres
      repeat' (first | ((first | refine WLA.m rfl rfl ?_ ?_ | refine WLA.st rfl ?_ ?_ | refine WLA.x rfl rfl ?_ (fun x => ?_) | refine WLA.x0 rfl ?_ (fun x => ?_)); first | exact trivial | exact rfl | assumption | omega | (refine ⟨?_, ?_⟩ <;> omega) | (simp only [Room, List.length_set, List.length_append, List.length_cons, List.length_nil, List.length_replicate]; omega) | decide | skip) | (refine Stp.go ?_) | (guard_target =~ WLA _ _ _ _ _ (⟨_, .call ⟨.value (.tmp _), _, _⟩, _, _, _, _⟩ :: _) _ _; refine WLA.callV rfl rfl (stepC_none hp (by omega) (by omega) hone) ?_; rintro ⟨⟩) | (refine WPA.ifT ?_) | (refine WPA.ifF ?_) | ((first | refine WPA.dec ?_); first | refine .inl ⟨by first | assumption | omega | with_reducible rfl | (refine fun h => h ?_; first | assumption | with_reducible rfl) | (simp only [List.length_append, List.length_cons, List.length_nil, List.length_set] <;> omega) | decide, ?_⟩ | refine .inr ⟨by first | assumption | omega | with_reducible rfl | (refine fun h => h ?_; first | assumption | with_reducible rfl) | (simp only [List.length_append, List.length_cons, List.length_nil, List.length_set] <;> omega) | decide, ?_⟩) | ((first | refine WPA.ifBt ?_ ?_ | refine WPA.ifBnf ?_ ?_); assumption) | ((first | refine WPA.ifBnt ?_ ?_ | refine WPA.ifBf ?_ ?_); assumption) | ((first | refine WPA.ifs ?_ ?_ | refine WPA.ifB ?_ ?_) <;> intro hc))
      exact QQ.end_ rfl SV.nil rfl fun w h => CtsH.nil.sl (h.to : SL w0 I (StoreR S m :: L') w)
    | some xu =>
      obtain ⟨y, u'⟩ := xu
      rw [hone] at hnx
      have hnx2 : rdN ou T (ms.length + 1) = some (ms ++ [y], u') := hnx
      have hsn := wrE_snoc (o := ou) (ms := ms) (x := y) (hprv y).symm
      by_cases hc : chk1 ou (if ms.length = 0 then none else some l) y.1 y.2 = 0
      · have hcz := chk1_zero hc
        have hroom : Room (qs.length + 1) 32 := ⟨by omega, by omega⟩
        repeat' (first | ((first | refine WLA.m rfl rfl ?_ ?_ | refine WDQ.m rfl rfl ?_ ?_ | refine WLA.st rfl ?_ ?_ | refine WLA.x rfl rfl ?_ (fun x => ?_) | refine WLA.x0 rfl ?_ (fun x => ?_)); first | exact trivial | exact rfl | assumption | omega | (refine ⟨?_, ?_⟩ <;> omega) | (simp only [Room, List.length_set, List.length_append, List.length_cons, List.length_nil, List.length_replicate]; omega) | decide | skip) | (refine Stp.go ?_) | (guard_target =~ WLA _ _ _ _ _ (⟨_, .call ⟨.value (.tmp _), _, _⟩, _, _, _, _⟩ :: _) _ _; refine WLA.callV rfl rfl (stepC_tr hp (by omega) (by omega) hone hpl hc) ?_; rintro ⟨g, ⟨p', hp', hu'⟩⟩; dsimp only) | (guard_target =~ WLA _ _ _ _ _ (⟨_, .call ⟨.value (.func 36), _, _⟩, _, _, _, _⟩ :: _) _ _; first | (refine WLA.call rfl rfl (Clone_tr (xs := y.1) (by omega)) ?_; rintro c) | (refine WLA.call0 rfl (Clone_tr (xs := y.1) (by omega)) ?_; rintro c)) | (refine WPA.ifT ?_) | (refine WPA.ifF ?_) | ((first | refine WPA.dec ?_); first | refine .inl ⟨by first | assumption | omega | with_reducible rfl | (refine fun h => h ?_; first | assumption | with_reducible rfl) | (simp only [List.length_append, List.length_cons, List.length_nil, List.length_set] <;> omega) | decide, ?_⟩ | refine .inr ⟨by first | assumption | omega | with_reducible rfl | (refine fun h => h ?_; first | assumption | with_reducible rfl) | (simp only [List.length_append, List.length_cons, List.length_nil, List.length_set] <;> omega) | decide, ?_⟩) | ((first | refine WPA.ifBt ?_ ?_ | refine WPA.ifBnf ?_ ?_); assumption) | ((first | refine WPA.ifBnt ?_ ?_ | refine WPA.ifBf ?_ ?_); assumption) | ((first | refine WPA.ifs ?_ ?_ | refine WPA.ifB ?_ ?_) <;> intro hc) | (guard_target =~ WPA _ _ _ (.region 15 _ true) _ _ _; refine WPA.drawT 8 (.q 0 (.q 1 (.q 2 (.q 4 (.q 5 (.e 3 (.q 6 (.e 7 .fin)))))))) mixed ?_ ?_; kernel_rfl) | (refine WDA.finish (tl := [⟨_, _, _, _, _, _⟩, ⟨_, _, _, _, _, _⟩]) rfl ?_) | (refine WDQ.see rfl ?_) | (refine WDE.see rfl ?_) | (refine WDE.alloc rfl rfl (fun w h => h) (fun x => ?_)) | (refine WDE.stE rfl ?_) | (refine WDE.x rfl rfl ?_ ?_ (fun x => ?_); rotate_left 1; (intro x w h; first | exact h | exact Ent.drop1.sl h | exact SL.unI h | exact SL.to h); rotate_left 1; first | exact trivial | exact rfl | assumption | omega | (refine ⟨?_, ?_⟩ <;> omega) | (simp only [Room, List.length_set, List.length_append, List.length_cons, List.length_nil, List.length_replicate]; omega) | decide | skip) | (guard_target =~ WDW _ _ _ _ _ _ _ ⟨_, .call ⟨.value (.tmp _), _, _⟩, _, _, _, _⟩ _ _ _; refine WDW.callV rfl rfl (stepC_tr hp (by omega) (by omega) hone hpl hc) ?_; rintro ⟨g, ⟨p', hp', hu'⟩⟩; dsimp only) | (guard_target =~ WDE _ _ _ _ _ _ _ ⟨_, .call ⟨.value (.func 36), _, _⟩, _, _, _, _⟩ _ _ _; refine WDE.call rfl rfl (Clone_tr (xs := y.1) (by omega)) ?_ ?_; (intro x w h; first | exact h | exact Ent.drop1.sl h | exact SL.unI h | exact SL.to h); rintro c) | (guard_target =~ WDW _ _ _ _ _ _ _ ⟨_, .call ⟨.value (.func 36), _, _⟩, _, _, _, _⟩ _ _ _; refine WDW.call rfl rfl (Clone_tr (xs := y.1) (by omega)) ?_; rintro c))
        obtain ⟨v, k, k1, -, -, k2, k3, k4⟩ := rdOne_some hp hone
        have hpp : p' = p + ou * 3 + k := by
          rw [hu'] at k2
          have := congrArg ByteArray.size k2
          rw [ext_size' T p' hp', ext_size' T _ k3] at this
          omega
        have hlen : (ms ++ [y]).length = ms.length + 1 := by simp
        refine QQ.loopS ⟨ms ++ [y], qs ++ [(c, y.2)], p', g, y.1, x⟩ ⟨rfl, rfl, rfl, rfl, rfl, trivial⟩ ⟨⟨by simp [hq], hp', by dsimp only; omega, by dsimp only; omega⟩, by dsimp only; rw [hlen, hnx2, hu'], ?_, fun h => absurd h (by dsimp only; omega), fun _ => ?_⟩ (by dsimp only; omega) (fun w h => ?_)
        · dsimp only
          rw [hlen, fstN_succ (by rw [fst_pre]; exact hz), hsn]
          exact hc
        · dsimp only
          rw [hlen, Nat.add_sub_cancel, List.getD_eq_getElem?_getD, List.getElem?_append_right (Nat.le_refl _), Nat.sub_self]; rfl
        · dsimp only
          have h2 : SL w0 I (OwnS 3 c y.1 :: RowH 3 (qs.map Prod.fst) (ms.map Prod.fst) :: Bk R 121 (RdV T (p' : Nat) 0) :: Bk Z 23 [.slice g.a g.n g.cap] :: Bk O 3 [.int .i64 ou] :: Bk B 82 [.pointer (some ⟨R, 0, none⟩)] :: OwnS 3 g y.1 :: OwnS 67 x (qs ++ [(c, y.2)]) :: Bk X 25 [.int .i64 ou, .int .i64 nu, .slice b.a b.n b.cap] :: StoreR S m :: L') w := h.to
          have h3 := (RowH.snoc (by rw [List.length_map, List.length_map]; exact hql)).sl h2
          rw [List.map_append, List.map_append, show List.map Prod.fst [(c, y.2)] = [c] from rfl, show List.map Prod.fst [y] = [y.1] from rfl]
          exact h3.to
      · have hres : res = none := by
          rw [← hr]
          refine readS_bad (i := ms.length + 1) (by omega) hnx2 (by simp) (by omega) ?_
          rw [List.length_append]
          show fstN _ (ms.length + 1) ≠ 0
          rw [fstN_succ (by rw [fst_pre]; exact hz), hsn]
          exact hc
        subst hres
        repeat' (first | ((first | refine WLA.m rfl rfl ?_ ?_ | refine WLA.st rfl ?_ ?_ | refine WLA.x rfl rfl ?_ (fun x => ?_) | refine WLA.x0 rfl ?_ (fun x => ?_)); first | exact trivial | exact rfl | assumption | omega | (refine ⟨?_, ?_⟩ <;> omega) | (simp only [Room, List.length_set, List.length_append, List.length_cons, List.length_nil, List.length_replicate]; omega) | decide | skip) | (refine Stp.go ?_) | (guard_target =~ WLA _ _ _ _ _ (⟨_, .call ⟨.value (.tmp _), _, _⟩, _, _, _, _⟩ :: _) _ _; refine WLA.callV rfl rfl (stepC_bad hp (by omega) (by omega) hone hpl hc) ?_; rintro ⟨⟩) | (refine WPA.ifT ?_) | (refine WPA.ifF ?_) | ((first | refine WPA.dec ?_); first | refine .inl ⟨by first | assumption | omega | with_reducible rfl | (refine fun h => h ?_; first | assumption | with_reducible rfl) | (simp only [List.length_append, List.length_cons, List.length_nil, List.length_set] <;> omega) | decide, ?_⟩ | refine .inr ⟨by first | assumption | omega | with_reducible rfl | (refine fun h => h ?_; first | assumption | with_reducible rfl) | (simp only [List.length_append, List.length_cons, List.length_nil, List.length_set] <;> omega) | decide, ?_⟩) | ((first | refine WPA.ifBt ?_ ?_ | refine WPA.ifBnf ?_ ?_); assumption) | ((first | refine WPA.ifBnt ?_ ?_ | refine WPA.ifBf ?_ ?_); assumption) | ((first | refine WPA.ifs ?_ ?_ | refine WPA.ifB ?_ ?_) <;> intro hc))
        exact QQ.end_ rfl SV.nil rfl fun w h => CtsH.nil.sl (h.to : SL w0 I (StoreR S m :: L') w)
  · have hlt' : ¬ (qs.length : Int) < nu := by omega
    have hie : ms.length = nu := by omega
    have hw : wrong ou ms = 0 := by unfold wrong; rw [if_neg (by omega)]; exact hz
    have hrs : readS (ou : Int) (nu : Int) T = if (T.extract p T.size).size = 0 ∧ wrong ou ms = 0 then some ms else none := by
      unfold readS
      rw [Int.toNat_natCast, Int.toNat_natCast, ← hie, hrd]; rfl
    rw [hr, ext_size' T p hp] at hrs
    by_cases hps : p < T.size
    · rw [if_neg (by omega)] at hrs
      subst hrs
      have he := fun {L L' : List HP} [FindBk L R 121 (RdV T p 0) L'] => End_tr (R := R) (p := p) (t := T) (L := L) (L' := L') (w0 := w0) (I := I) (e := 0) hp (by omega)
      rw [if_pos ⟨rfl, hps⟩] at he
      repeat' (first | ((first | refine WLA.m rfl rfl ?_ ?_ | refine WLA.st rfl ?_ ?_ | refine WLA.x rfl rfl ?_ (fun x => ?_) | refine WLA.x0 rfl ?_ (fun x => ?_)); first | exact trivial | exact rfl | assumption | omega | (refine ⟨?_, ?_⟩ <;> omega) | (simp only [Room, List.length_set, List.length_append, List.length_cons, List.length_nil, List.length_replicate]; omega) | decide | skip) | (refine Stp.go ?_) | (guard_target =~ WLA _ _ _ _ _ (⟨_, .call ⟨.value (.func 37), _, _⟩, _, _, _, _⟩ :: _) _ _; first | (refine WLA.call rfl rfl (he) ?_; rintro ⟨⟩) | (refine WLA.call0 rfl (he) ?_; rintro ⟨⟩)) | (refine WPA.ifT ?_) | (refine WPA.ifF ?_) | ((first | refine WPA.dec ?_); first | refine .inl ⟨by first | assumption | omega | with_reducible rfl | (refine fun h => h ?_; first | assumption | with_reducible rfl) | (simp only [List.length_append, List.length_cons, List.length_nil, List.length_set] <;> omega) | decide, ?_⟩ | refine .inr ⟨by first | assumption | omega | with_reducible rfl | (refine fun h => h ?_; first | assumption | with_reducible rfl) | (simp only [List.length_append, List.length_cons, List.length_nil, List.length_set] <;> omega) | decide, ?_⟩) | ((first | refine WPA.ifBt ?_ ?_ | refine WPA.ifBnf ?_ ?_); assumption) | ((first | refine WPA.ifBnt ?_ ?_ | refine WPA.ifBf ?_ ?_); assumption) | ((first | refine WPA.ifs ?_ ?_ | refine WPA.ifB ?_ ?_) <;> intro hc))
      exact QQ.end_ rfl SV.nil rfl fun w h => CtsH.nil.sl (h.to : SL w0 I (StoreR S m :: L') w)
    · rw [if_pos ⟨by omega, hw⟩] at hrs
      subst hrs
      have he := fun {L L' : List HP} [FindBk L R 121 (RdV T p 0) L'] => End_tr (R := R) (p := p) (t := T) (L := L) (L' := L') (w0 := w0) (I := I) (e := 0) hp (by omega)
      rw [if_neg (fun h => hps h.2)] at he
      repeat' (first | ((first | refine WLA.m rfl rfl ?_ ?_ | refine WLA.st rfl ?_ ?_ | refine WLA.x rfl rfl ?_ (fun x => ?_) | refine WLA.x0 rfl ?_ (fun x => ?_)); first | exact trivial | exact rfl | assumption | omega | (refine ⟨?_, ?_⟩ <;> omega) | (simp only [Room, List.length_set, List.length_append, List.length_cons, List.length_nil, List.length_replicate]; omega) | decide | skip) | (refine Stp.go ?_) | (guard_target =~ WLA _ _ _ _ _ (⟨_, .call ⟨.value (.func 37), _, _⟩, _, _, _, _⟩ :: _) _ _; first | (refine WLA.call rfl rfl (he) ?_; rintro ⟨⟩) | (refine WLA.call0 rfl (he) ?_; rintro ⟨⟩)) | (refine WPA.ifT ?_) | (refine WPA.ifF ?_) | ((first | refine WPA.dec ?_); first | refine .inl ⟨by first | assumption | omega | with_reducible rfl | (refine fun h => h ?_; first | assumption | with_reducible rfl) | (simp only [List.length_append, List.length_cons, List.length_nil, List.length_set] <;> omega) | decide, ?_⟩ | refine .inr ⟨by first | assumption | omega | with_reducible rfl | (refine fun h => h ?_; first | assumption | with_reducible rfl) | (simp only [List.length_append, List.length_cons, List.length_nil, List.length_set] <;> omega) | decide, ?_⟩) | ((first | refine WPA.ifBt ?_ ?_ | refine WPA.ifBnf ?_ ?_); assumption) | ((first | refine WPA.ifBnt ?_ ?_ | refine WPA.ifBf ?_ ?_); assumption) | ((first | refine WPA.ifs ?_ ?_ | refine WPA.ifB ?_ ?_) <;> intro hc))
      exact QQ.end_ rfl x rfl fun w h => (CtsH.fold hq).sl (h.to : SL w0 I (OwnS 67 x qs :: RowH 3 (qs.map Prod.fst) (ms.map Prod.fst) :: StoreR S m :: L') w)
end
end Go.Proofs.Ytbekjbgaenjbfaa
namespace Go.Proofs.Ytbekjbgaenjbfaa
open Go Go.Fw Go.RowKit
set_option linter.unusedVariables false
set_option linter.unusedSimpArgs false
set_option maxRecDepth 100000
set_option maxHeartbeats 16000000
set_option synthInstance.maxHeartbeats 200000
set_option synthInstance.maxSize 100000
attribute [local irreducible] WPA WLA WDA WDQ WDE QQ seqQ blockQ loopQ fnQ OpP OpT Tr TrP SL SLd OwnS LitS Bk BkE Ob
attribute [local irreducible] vS keyS RowH
def PrsH (res : Option (List Ct)) (x : SV) : HP := match res with
  | none => fun R => R = []
  | some l => CtsH x l
theorem PrsH.none {x : SV} {L : List HP} : Ent L (PrsH none x :: L) := Ent.intro1 rfl
theorem PrsH.some {x : SV} {l : List Ct} {L : List HP} : Ent (CtsH x l :: L) (PrsH (some l) x :: L) := Ent.refl
theorem RdS.row {t : TypeId} {ss : List SV} {ts : List (List Int)} {I : Foot} {L : List HP} {i : Nat} (hi : i < ss.length) (hj : i < ts.length) : RdS I (RowH t ss ts :: L) (ss.getD i SV.nil) Int inferInstance (ts.getD i []) := ⟨fun w0 w hw => RowH.rdW hi hj hw⟩
end Go.Proofs.Ytbekjbgaenjbfaa
namespace Go.Proofs.Ytbekjbgaenjbfaa
open Go Go.Fw Go.RowKit
set_option linter.unusedVariables false
set_option linter.unusedSimpArgs false
set_option maxRecDepth 100000
set_option maxHeartbeats 16000000
set_option synthInstance.maxHeartbeats 200000
set_option synthInstance.maxSize 100000
attribute [local irreducible] WPA WLA WDA WDQ WDE QQ seqQ blockQ loopQ fnQ OpP OpT Tr TrP SL SLd OwnS LitS Bk BkE Ob
theorem vint_ne (n : Nat) : 1 ≤ (vint n).length := by
  by_cases h : n < 128
  · rw [vint_lt h]; exact Nat.le_refl 1
  · rw [vint_ge h]; exact Nat.le_add_left 1 _
theorem bN_get {s : ByteArray} {pre post : List UInt8} {b : UInt8} (h : s.data.toList = pre ++ b :: post) : bN s pre.length = b.toNat := by
  have hl : pre.length < s.data.toList.length := by rw [h, List.length_append, List.length_cons]; omega
  have h1 := bt_get hl
  unfold bN
  rw [h1]
  have : s.data.toList[pre.length] = b := by
    have h2 : s.data.toList[pre.length]? = some b := by rw [h, List.getElem?_append_right (Nat.le_refl _), Nat.sub_self]; rfl
    rw [List.getElem?_eq_getElem hl] at h2
    exact Option.some.inj h2
  rw [this]; rfl
theorem size_list' (s : ByteArray) : s.size = s.data.toList.length := by show s.data.size = _; rw [Array.length_toList]
theorem u8_nat {m : Nat} (h : m < 256) : (UInt8.ofNat m).toNat = m := by rw [UInt8.toNat_ofNat', Nat.mod_eq_of_lt h]
theorem vint_led {s : ByteArray} : ∀ (n : Nat) (pre post : List UInt8), s.data.toList = pre ++ (vint n ++ post) → ∀ f, (vint n).length ≤ f + 1 → ledN s f pre.length = pre.length + (vint n).length - 1 := by
  intro n
  induction n using Nat.strongRecOn with
  | _ n ih =>
    intro pre post h f hf
    by_cases hn : n < 128
    · rw [vint_lt hn] at h ⊢
      have hb := bN_get (pre := pre) (b := UInt8.ofNat n) (post := post) h
      rw [u8_nat (by omega)] at hb
      cases f with
      | zero => simp [ledN]
      | succ f => rw [ledN, if_neg (by omega)]; simp
    · rw [vint_ge hn] at h hf ⊢
      have hb := bN_get (pre := pre) (b := UInt8.ofNat (n % 128 + 128)) (post := vint (n / 128) ++ post) (by rw [h]; rfl)
      rw [u8_nat (by omega)] at hb
      have hv := vint_ne (n / 128)
      simp only [List.length_cons] at hf ⊢
      have hlen : pre.length < s.size := by rw [size_list', h, List.length_append]; simp
      cases f with
      | zero => omega
      | succ f =>
        rw [ledN, if_pos ⟨hlen, by omega⟩]
        have := ih (n / 128) (by omega) (pre ++ [UInt8.ofNat (n % 128 + 128)]) post (by rw [h]; simp) f (by omega)
        rw [List.length_append] at this
        simp only [List.length_cons, List.length_nil] at this
        rw [Nat.zero_add] at this
        rw [this]; omega
theorem vint_val {s : ByteArray} : ∀ (n : Nat) (pre post : List UInt8), s.data.toList = pre ++ (vint n ++ post) → valR s pre.length (vint n).length = n := by
  intro n
  induction n using Nat.strongRecOn with
  | _ n ih =>
    intro pre post h
    by_cases hn : n < 128
    · rw [vint_lt hn] at h ⊢
      have hb := bN_get (pre := pre) (b := UInt8.ofNat n) (post := post) h
      rw [u8_nat (by omega)] at hb
      show bN s pre.length % 128 + 128 * 0 = n
      rw [hb]; omega
    · rw [vint_ge hn] at h ⊢
      have hb := bN_get (pre := pre) (b := UInt8.ofNat (n % 128 + 128)) (post := vint (n / 128) ++ post) (by rw [h]; rfl)
      rw [u8_nat (by omega)] at hb
      have := ih (n / 128) (by omega) (pre ++ [UInt8.ofNat (n % 128 + 128)]) post (by rw [h]; simp)
      rw [List.length_append] at this
      show bN s pre.length % 128 + 128 * valR s (pre.length + 1) (vint (n / 128)).length = n
      rw [hb]
      have e : valR s (pre.length + 1) (vint (n / 128)).length = n / 128 := this
      rw [e]; omega
theorem vint_last {s : ByteArray} : ∀ (n : Nat) (pre post : List UInt8), s.data.toList = pre ++ (vint n ++ post) → bN s (pre.length + (vint n).length - 1) = 0 → n = 0 := by
  intro n
  induction n using Nat.strongRecOn with
  | _ n ih =>
    intro pre post h h0
    by_cases hn : n < 128
    · rw [vint_lt hn] at h h0
      have hb := bN_get (pre := pre) (b := UInt8.ofNat n) (post := post) h
      rw [u8_nat (by omega)] at hb
      have : pre.length + [UInt8.ofNat n].length - 1 = pre.length := by simp
      rw [this, hb] at h0
      exact h0
    · rw [vint_ge hn] at h h0
      have hv := vint_ne (n / 128)
      have := ih (n / 128) (by omega) (pre ++ [UInt8.ofNat (n % 128 + 128)]) post (by rw [h]; simp) (by
        rw [List.length_append]
        simp only [List.length_cons, List.length_nil] at h0 ⊢
        rw [show pre.length + (0 + 1) + (vint (n / 128)).length - 1 = pre.length + ((vint (n / 128)).length + 1) - 1 by omega]; exact h0)
      omega
theorem numR_vS {n : Nat} (hn : n ≤ 1099511627776) (r : ByteArray) : numR (vS n ++ r) = (n, (vS n).size, 0) := by
  have hd : (vS n ++ r).data.toList = [] ++ (vint n ++ r.data.toList) := by
    rw [ByteArray.data_append, Array.toList_append]
    unfold vS; simp
  have hl := vint_len 5 n (by omega)
  have h1 := vint_led n [] r.data.toList hd 10 (by omega)
  have h2 := vint_val n [] r.data.toList hd
  have h3 := vint_last n [] r.data.toList hd
  have h4 := vint_ne n
  have hsz : (vS n).size = (vint n).length := by unfold vS; show (vint n).toArray.size = _; simp
  have hs2 : (vS n ++ r).size = (vint n).length + r.size := by rw [ByteArray.size_append, hsz]
  simp only [List.length_nil, Nat.zero_add] at h1 h2 h3
  have e : lead (vS n ++ r) = (vint n).length - 1 := h1
  rw [num_ok (by omega) (by omega) (by
    rw [e]
    rintro (⟨ha, -⟩ | ⟨ha, hb⟩)
    · omega
    · have h0 := h3 hb
      subst h0
      rw [vint_lt (by omega)] at ha
      simp at ha), e, show (vint n).length - 1 + 1 = (vint n).length by omega, h2, hsz]
theorem uptR_vS {n : Nat} (hn : n ≤ 1099511627776) (r : ByteArray) : uptR (vS n ++ r) = some (n, (vS n).size) := by
  unfold uptR
  rw [numR_vS hn, if_pos ⟨rfl, hn⟩]
theorem app_left (a b : ByteArray) : (a ++ b).extract 0 a.size = a := by
  apply ByteArray.ext
  rw [ByteArray.data_extract, ByteArray.data_append]
  have : a.size = a.data.size := rfl
  rw [this]
  simp
theorem app_right (a b : ByteArray) : (a ++ b).extract a.size (a ++ b).size = b := by
  apply ByteArray.ext
  rw [ByteArray.data_extract, ByteArray.size_append, ByteArray.data_append]
  have h1 : a.size = a.data.toList.length := size_list' a
  have h2 : b.size = b.data.toList.length := size_list' b
  apply Array.toList_inj.1
  rw [Array.toList_extract, Array.toList_append, List.extract_eq_take_drop, h1, h2, List.drop_left, Nat.add_sub_cancel_left, List.take_length]
theorem byS_from (t : ByteArray) : ∀ ms : List Ct, ms.foldl (fun t m => t ++ keyS m.1 ++ vS m.2.toNat) t = t ++ byS ms
  | [] => (app_bnil t).symm
  | m :: l => by
    unfold byS
    rw [List.foldl_cons, List.foldl_cons, byS_from _ l, byS_from _ l, bnil_app, ByteArray.append_assoc, ByteArray.append_assoc, ByteArray.append_assoc]
theorem byS_cons (m : Ct) (l : List Ct) : byS (m :: l) = keyS m.1 ++ (vS m.2.toNat ++ byS l) := by
  show ((⟨#[]⟩ : ByteArray) ++ keyS m.1 ++ vS m.2.toNat |> fun t => l.foldl (fun t m => t ++ keyS m.1 ++ vS m.2.toNat) t) = _
  dsimp only
  rw [byS_from, bnil_app, ByteArray.append_assoc]
theorem rdOne_key {o : Nat} {g : List Int} {n : Int} {r : ByteArray} (hg : g.length = o) (hk : okKey g) (hn : 0 ≤ n ∧ n ≤ 1099511627776) : rdOne o (keyS g ++ (vS n.toNat ++ r)) = some ((g, n), r) := by
  have hs := keyS_size g
  have e3 : 3 * o = (keyS g).size := by omega
  unfold rdOne
  rw [e3, if_neg (by rw [ByteArray.size_append]; omega), app_left, app_right, uptR_vS (by omega), Option.map_some]
  show some ((parL (keyS g), ((n.toNat : Nat) : Int)), (vS n.toNat ++ r).extract (vS n.toNat).size (vS n.toNat ++ r).size) = _
  rw [app_right, parL_key hk, Int.toNat_of_nonneg hn.1]
theorem rdN_from {o : Nat} {u r : ByteArray} {l : List Ct} {i : Nat} (h : rdN o u i = some (l, r)) : ∀ (ms : List Ct), (∀ m ∈ ms, m.1.length = o ∧ okKey m.1 ∧ 0 ≤ m.2 ∧ m.2 ≤ 1099511627776) → r = byS ms → rdN o u (i + ms.length) = some (l ++ ms, ⟨#[]⟩)
  | [], _, hr => by subst hr; rw [List.append_nil]; exact h
  | m :: ms, hm, hr => by
    have h1 := hm m (List.mem_cons_self ..)
    rw [byS_cons] at hr
    have h2 : rdN o u (i + 1) = some (l ++ [m], byS ms) := by
      rw [rdN, h]
      show (rdOne o r).map _ = _
      rw [hr, rdOne_key h1.1 h1.2.1 h1.2.2]; rfl
    have := rdN_from h2 ms (fun m' h' => hm m' (List.mem_cons_of_mem _ h')) rfl
    rw [List.length_cons, show i + (ms.length + 1) = i + 1 + ms.length by omega, this, List.append_assoc]; rfl
theorem readS_back {o : Int} {ms : List Ct} (h : wrong o ms = 0) : readS o ms.length (byS ms) = some ms := by
  have hg := wrong_good h
  have ho := (wrong_zero h).1
  have := rdN_from (o := o.toNat) (u := byS ms) (l := []) (i := 0) rfl ms (fun m hm => by have := hg m hm; exact ⟨by omega, this.2.1, by omega, this.2.2.2⟩) rfl
  rw [Nat.zero_add, List.nil_append] at this
  unfold readS
  rw [Int.toNat_natCast, this]
  show (if (⟨#[]⟩ : ByteArray).size = 0 ∧ wrong o ms = 0 then some ms else none) = some ms
  rw [if_pos ⟨rfl, h⟩]
end Go.Proofs.Ytbekjbgaenjbfaa
namespace Go.Proofs.Ytbekjbgaenjbfaa
open Go Go.Fw Go.RowKit
set_option linter.unusedVariables false
set_option linter.unusedSimpArgs false
set_option maxRecDepth 100000
set_option maxHeartbeats 16000000
set_option synthInstance.maxHeartbeats 200000
set_option synthInstance.maxSize 100000
attribute [local irreducible] WPA WLA WDA WDQ WDE QQ seqQ blockQ loopQ fnQ OpP OpT Tr TrP SL SLd OwnS LitS Bk BkE Ob
def catB (m : BS) (l : List Int) : ByteArray := l.foldr (fun i t => at_ m.ts i ++ t) ⟨#[]⟩
structure Filled (m m' : BS) (new : List Int) (u : ByteArray) : Prop where
  ok : m'.Ok
  sz : m'.size = m.size ∧ m'.most = m.most
  used : m'.used = m.used + new.length
  peak : m.used ≤ m.peak → m'.peak = max m.peak m'.used
  txb : TxB m → TxB m'
  keep : ∀ i : Int, Has m.tk i → Has m'.tk i ∧ at_ m'.ts i = at_ m.ts i
  has : ∀ i ∈ new, Has m'.tk i ∧ ¬ Has m.tk i
  nodup : new.Nodup
  cat : catB m' new = u
  num : (new.length : Int) * m.size < u.size + m.size ∧ (u.size : Int) ≤ new.length * m.size
theorem not_has_free (tk : List Bool) : ¬ Has tk (firstFree tk : Nat) := fun h => by
  have h1 := has_nat.1 h
  have h2 := padB_at tk
  unfold padB at h2
  split at h2
  · rw [h2] at h1; cases h1
  · rename_i h3; rw [List.getElem?_eq_none (by omega)] at h1; cases h1
theorem has_int {tk : List Bool} {i : Int} (h : Has tk i) : ∃ j : Nat, i = j ∧ tk[j]? = some true := by
  have h0 := h.1.1
  refine ⟨i.toNat, by omega, ?_⟩
  exact has_nat.1 (by rw [Int.toNat_of_nonneg h0]; exact h)
theorem keep_one {m : BS} {u : ByteArray} (ok : m.Ok) {i : Int} (h : Has m.tk i) : Has (m.alloc.write (firstFree m.tk : Nat) u).tk i ∧ at_ (m.alloc.write (firstFree m.tk : Nat) u).ts i = at_ m.ts i := by
  obtain ⟨j, rfl, hj⟩ := has_int h
  have hne : j ≠ firstFree m.tk := fun e => not_has_free m.tk (by rw [← e]; exact h)
  have hlt : j < m.tk.length := (List.getElem?_eq_some_iff.1 hj).1
  have hl := ok.lens
  constructor
  · refine has_nat.2 ?_
    show ((padB m.tk).set (firstFree m.tk) true)[j]? = some true
    rw [List.getElem?_set_ne (Ne.symm hne), padB_ne _ _ hne]; exact hj
  · show at_ ((padT m.tk m.ts).set ((firstFree m.tk : Nat) : Int).toNat u) (j : Int) = _
    unfold at_
    rw [List.getD_eq_getElem?_getD, List.getD_eq_getElem?_getD, Int.toNat_natCast, Int.toNat_natCast, List.getElem?_set_ne (Ne.symm hne), padT_at _ _ _ (by omega)]
theorem at_one {m : BS} {u : ByteArray} (ok : m.Ok) : at_ (m.alloc.write (firstFree m.tk : Nat) u).ts (firstFree m.tk : Nat) = u := by
  show at_ ((padT m.tk m.ts).set ((firstFree m.tk : Nat) : Int).toNat u) ((firstFree m.tk : Nat) : Int) = u
  have h1 := firstFree_padB m.tk
  have h2 := padB_len m.tk m.ts ok.lens
  unfold at_
  rw [List.getD_eq_getElem?_getD, Int.toNat_natCast, List.getElem?_set_self (by omega)]; rfl
theorem ext_app (t : ByteArray) (a b : Nat) (h : a ≤ b) (hb : b ≤ t.size) : t.extract a b ++ t.extract b t.size = t.extract a t.size := by
  apply ByteArray.ext
  rw [ByteArray.data_append, ByteArray.data_extract, ByteArray.data_extract, ByteArray.data_extract, Array.extract_append_extract]
  congr 1 <;> omega
theorem fillN_law (t : ByteArray) : ∀ (d : Nat) (m : BS) (ids : List Int) (k : Nat), t.size - k = d → k ≤ t.size → m.Ok → ((t.size - k : Nat) : Int) ≤ m.size * (m.most - m.used) →
    ∃ new, (fillN t m ids k).2 = ids ++ new ∧ Filled m (fillN t m ids k).1 new (t.extract k t.size) := by
  intro d
  induction d using Nat.strongRecOn with
  | _ d ih =>
    intro m ids k hd hk ok hR
    have hes := ext_size' t k hk
    by_cases hlt : k < t.size
    · have hz1 := ok.size
      obtain ⟨c1, c2, c3, c4⟩ := fillC_eq hlt hz1
      have hum1 := ok.um
      have hu : m.used < m.most := by
        rcases Int.lt_or_eq_of_le hum1 with h | h
        · exact h
        · rw [h, Int.sub_self, Int.mul_zero] at hR; omega
      rw [fillN_step hlt]
      have hok2 := (ok.alloc hu).write (has_alloc m) (t := t.extract k (k + fillC t m k))
      have hsp : (t.extract k (k + fillC t m k)).size = fillC t m k := by rw [ByteArray.size_extract]; omega
      have hR2 : ((t.size - (k + fillC t m k) : Nat) : Int) ≤ m.size * (m.most - (m.used + 1)) := by
        have e : m.size * (m.most - (m.used + 1)) = m.size * (m.most - m.used) - m.size := by rw [← Int.sub_sub, Int.mul_sub m.size (m.most - m.used) 1, Int.mul_one]
        rw [e]
        rcases Int.le_total ((t.size - k : Nat) : Int) m.size with hle | hle
        · have : 0 ≤ m.size * (m.most - m.used - 1) := Int.mul_nonneg (by omega) (by omega)
          rw [Int.mul_sub, Int.mul_one] at this
          omega
        · omega
      have hcat := ext_app t k (k + fillC t m k) (by omega) c3
      have hes2 := ext_size' t (k + fillC t m k) c3
      generalize fillC t m k = c at c1 c2 c3 c4 hok2 hsp hR2 hcat hes2
      obtain ⟨new, e1, F⟩ := ih (t.size - (k + c)) (by omega) (m.alloc.write (firstFree m.tk : Nat) (t.extract k (k + c))) (ids ++ [(firstFree m.tk : Int)]) (k + c) rfl c3 hok2 hR2
      have hk1 : ∀ {i : Int}, Has m.tk i → _ := fun {i} h => keep_one (u := t.extract k (k + c)) ok h
      have ha1 := at_one (u := t.extract k (k + c)) ok
      have hh1 : Has (m.alloc.write (firstFree m.tk : Nat) (t.extract k (k + c))).tk (firstFree m.tk : Nat) := has_alloc m
      have hnum := F.num
      have hused := F.used
      have hpeak := F.peak
      have hsz := F.sz
      have htxb := F.txb
      refine ⟨(firstFree m.tk : Int) :: new, by rw [e1, List.append_assoc]; rfl, ⟨F.ok, hsz, ?_, fun h => ?_, fun h => htxb (TxB.write h.alloc (by omega)), fun i h => ?_, fun i h => ?_, ?_, ?_, ?_⟩⟩
      · rw [hused, List.length_cons]
        show m.used + 1 + _ = _
        omega
      · rw [hpeak (by show m.used + 1 ≤ max m.peak (m.used + 1); omega), hused]
        show max (max m.peak (m.used + 1)) (m.used + 1 + _) = max m.peak (m.used + 1 + _)
        omega
      · have h1 := hk1 h
        have h2 := F.keep i h1.1
        exact ⟨h2.1, h2.2.trans h1.2⟩
      · rcases List.mem_cons.1 h with rfl | h
        · exact ⟨(F.keep _ hh1).1, not_has_free m.tk⟩
        · exact ⟨(F.has i h).1, fun h2 => (F.has i h).2 (hk1 h2).1⟩
      · exact List.nodup_cons.2 ⟨fun h => (F.has _ h).2 hh1, F.nodup⟩
      · show at_ _ _ ++ catB _ new = _
        rw [F.cat, (F.keep _ hh1).2, ha1, hcat]
      · have hmz : (m.alloc.write (firstFree m.tk : Nat) (t.extract k (k + c))).size = m.size := rfl
        rw [hmz, hes2] at hnum
        rw [hes, List.length_cons]
        have e : ((new.length + 1 : Nat) : Int) * m.size = new.length * m.size + m.size := by push_cast; rw [Int.add_mul, Int.one_mul]
        rw [e]
        have h0 : new.length ≠ 0 → m.size ≤ new.length * m.size := fun h => by
          have := Int.mul_le_mul_of_nonneg_right (a := 1) (b := (new.length : Int)) (c := m.size) (by omega) (by omega)
          rwa [Int.one_mul] at this
        by_cases hn0 : new.length = 0
        · rw [hn0] at hnum ⊢
          simp only [Int.natCast_zero, Int.zero_mul, Int.ofNat_eq_natCast] at hnum ⊢
          omega
        · have := h0 hn0
          omega
    · rw [fillN_end hlt]
      have he : t.extract k t.size = ⟨#[]⟩ := by
        apply ByteArray.ext
        apply Array.eq_empty_of_size_eq_zero
        show (t.extract k t.size).size = 0
        omega
      have hz := ok.size
      refine ⟨[], by simp, ⟨ok, ⟨rfl, rfl⟩, by simp, fun h => by dsimp only; omega, id, fun i h => ⟨h, rfl⟩, fun i h => (by cases h), List.nodup_nil, he.symm, ?_⟩⟩
      rw [hes]
      simp only [List.length_nil, Int.natCast_zero, Int.zero_mul]
      omega
theorem txtN_all {m : BS} {ids : List Int} (h : ∀ i ∈ ids, Has m.tk i) : ∀ (n : Nat), n ≤ ids.length → ∃ t, txtN m ids n = some t ∧ t ++ catB m (ids.drop n) = catB m ids
  | 0, _ => ⟨⟨#[]⟩, rfl, by rw [List.drop_zero, bnil_app]⟩
  | n + 1, hn => by
    obtain ⟨t, h1, h2⟩ := txtN_all h n (by omega)
    have hm : ids.getD n 0 ∈ ids := by rw [List.getD_eq_getElem?_getD, List.getElem?_eq_getElem (by omega)]; exact List.getElem_mem _
    refine ⟨t ++ at_ m.ts (ids.getD n 0), by rw [txtN, h1]; show (if _ then _ else _) = _; rw [if_pos (h _ hm)], ?_⟩
    rw [← h2, ByteArray.append_assoc]
    have e : ids.drop n = ids.getD n 0 :: ids.drop (n + 1) := by
      rw [List.drop_eq_getElem_cons (by omega), List.getD_eq_getElem?_getD, List.getElem?_eq_getElem (by omega)]; rfl
    rw [e]; rfl
theorem txtN_cat {m : BS} {ids : List Int} (h : ∀ i ∈ ids, Has m.tk i) : txtN m ids ids.length = some (catB m ids) := by
  obtain ⟨t, h1, h2⟩ := txtN_all h ids.length (Nat.le_refl _)
  rw [List.drop_length] at h2
  have : catB m [] = ⟨#[]⟩ := rfl
  rw [this, app_bnil] at h2
  rw [h1, h2]
theorem fill_law {t : ByteArray} {m : BS} (ok : m.Ok) (h : ¬ m.size * (m.most - m.used) < t.size) : Filled m (fillN t m [] 0).1 (fillN t m [] 0).2 t := by
  obtain ⟨new, e, F⟩ := fillN_law t (t.size - 0) m [] 0 rfl (Nat.zero_le _) ok (by omega)
  rw [List.nil_append] at e
  rw [ext_full'] at F
  rw [e]; exact F
end Go.Proofs.Ytbekjbgaenjbfaa
namespace Go.Proofs.Ytbekjbgaenjbfaa
open Go Go.Fw Go.RowKit
set_option linter.unusedVariables false
set_option linter.unusedSimpArgs false
set_option maxRecDepth 100000
set_option maxHeartbeats 16000000
set_option synthInstance.maxHeartbeats 200000
set_option synthInstance.maxSize 100000
attribute [local irreducible] WPA WLA WDA WDQ WDE QQ seqQ blockQ loopQ fnQ OpP OpT Tr TrP SL SLd OwnS LitS Bk BkE Ob
attribute [local irreducible] vS keyS parL RowH CtsH
theorem CtsH.frozen {x : SV} {ms : List Ct} {R : Foot} (h : CtsH x ms R) : ∃ qs : List Pe, SlI R x Pe inferInstance qs ∧ qs.map Prod.snd = ms.map Prod.snd ∧ ∀ i : Nat, i < qs.length → SlI R (at_ qs (i : Int)).1 Int inferInstance (ms.getD i ([], 0)).1 := by
  unfold CtsH at h
  obtain ⟨qs, hq, R1, R2, h1, h2, rfl⟩ := h
  have hql : qs.length = ms.length := by have := congrArg List.length hq; simpa using this
  have s1 : SubI (R1 ++ R2) R1 := ⟨fun x hx => List.mem_append_left _ hx⟩
  have s2 : SubI (R1 ++ R2) R2 := ⟨fun x hx => List.mem_append_right _ hx⟩
  refine ⟨qs, (SlI.ofOwn h1).sub, hq, fun i hi => ?_⟩
  have h3 := RowH.frozen h2 i (by rw [List.length_map]; exact hi) (by rw [List.length_map]; omega)
  have e1 : (qs.map Prod.fst).getD i SV.nil = (at_ qs (i : Int)).1 := by rw [List.getD_eq_getElem?_getD, List.getElem?_map, List.getElem?_eq_getElem hi, at_nat qs i hi]; rfl
  have e2 : (ms.map Prod.fst).getD i [] = (ms.getD i ([], 0)).1 := by rw [List.getD_eq_getElem?_getD, List.getD_eq_getElem?_getD, List.getElem?_map, List.getElem?_eq_getElem (by omega)]; rfl
  rw [e1, e2] at h3
  exact h3.sub
def exM : List Ct := [([1, 2], 5), ([1, 3], 1)]
theorem exM_wrong : wrong 2 exM = 0 := by decide
theorem exM_size : (byS exM).size = 14 := by
  unfold exM
  rw [byS_cons, byS_cons, ByteArray.size_append, ByteArray.size_append, ByteArray.size_append, ByteArray.size_append, keyS_size, keyS_size, vS_lt (by decide), vS_lt (by decide)]; rfl
theorem live_tr19 (w0 : World) (I : Foot) (L : List HP) : Tr Try.prog 7 #[] (SL w0 I L) (fun _ : Unit => .bool true) (fun _ => SL w0 I L) := by
  refine Tr.intro Try.func7 rfl Try.ntmps7 rfl ?_
  have ok0 : (BS.mk 4 9 [] [] 0 0 0).Ok := BS.Ok.new (by decide) (by decide)
  have hroom : ¬ (BS.mk 4 9 [] [] 0 0 0).size * ((BS.mk 4 9 [] [] 0 0 0).most - (BS.mk 4 9 [] [] 0 0 0).used) < (byS exM).size := by rw [exM_size]; decide
  have F := fill_law ok0 hroom
  repeat' ((fail_if_success (guard_target =~ WPA _ _ _ (.region 3 _ _) _ _ _)); first | ((first | refine WLA.m rfl rfl ?_ ?_ | refine WLA.st rfl ?_ ?_ | refine WLA.x rfl rfl ?_ (fun x => ?_) | refine WLA.x0 rfl ?_ (fun x => ?_)); first | exact trivial | exact rfl | assumption | omega | (refine ⟨?_, ?_⟩ <;> omega) | (simp only [Room, List.length_set, List.length_append, List.length_cons, List.length_nil, List.length_replicate]; omega) | decide | skip) | (refine Stp.go ?_) | (guard_target =~ WLA _ _ _ _ _ (⟨_, .call ⟨.value (.func 8), _, _⟩, _, _, _, _⟩ :: _) _ _; first | (refine WLA.call rfl rfl (New_tr _ _ _ (by decide) (by decide)) ?_; rintro S) | (refine WLA.call0 rfl (New_tr _ _ _ (by decide) (by decide)) ?_; rintro S)) | (refine WPA.ifT ?_) | (refine WPA.ifF ?_) | ((first | refine WPA.dec ?_); first | refine .inl ⟨by first | assumption | omega | with_reducible rfl | (refine fun h => h ?_; first | assumption | with_reducible rfl) | (simp only [List.length_append, List.length_cons, List.length_nil, List.length_set] <;> omega) | decide, ?_⟩ | refine .inr ⟨by first | assumption | omega | with_reducible rfl | (refine fun h => h ?_; first | assumption | with_reducible rfl) | (simp only [List.length_append, List.length_cons, List.length_nil, List.length_set] <;> omega) | decide, ?_⟩) | ((first | refine WPA.ifBt ?_ ?_ | refine WPA.ifBnf ?_ ?_); assumption) | ((first | refine WPA.ifBnt ?_ ?_ | refine WPA.ifBf ?_ ?_); assumption) | ((first | refine WPA.ifs ?_ ?_ | refine WPA.ifB ?_ ?_) <;> intro hc))
  revert x; intro l
  revert x; intro g2
  revert x; intro g1
  refine WPA.ent (EntC.out (L' := LitS 67 l ([(g1, 5), (g2, 1)] : List Pe) :: LitS 3 g1 ([1, 2] : List Int) :: LitS 3 g2 ([1, 3] : List Int) :: StoreR S (BS.mk 4 9 [] [] 0 0 0) :: L)) ?_
  refine WPA.freeze fun R1 h1 => ?_
  refine WPA.freeze fun R2 h2 => ?_
  refine WPA.freeze fun R3 h3 => ?_
  have s1 : SlI (R3 ++ (R2 ++ (R1 ++ I))) l Pe inferInstance [(g1, 5), (g2, 1)] := by have := SlI.ofLit h1; infer_instance
  have s2 : SlI (R3 ++ (R2 ++ (R1 ++ I))) g1 Int inferInstance [1, 2] := by have := SlI.ofLit h2; infer_instance
  have s3 : SlI (R3 ++ (R2 ++ (R1 ++ I))) g2 Int inferInstance [1, 3] := by have := SlI.ofLit h3; infer_instance
  have hJ : I ⊆ R3 ++ (R2 ++ (R1 ++ I)) := fun z hz => List.mem_append_right _ (List.mem_append_right _ (List.mem_append_right _ hz))
  clear h1 h2 h3
  generalize R3 ++ (R2 ++ (R1 ++ I)) = J at s1 s2 s3 hJ
  refine WPA.rd s2 fun e1 => ?_
  refine WPA.rd s3 fun e2 => ?_
  have hms : ([(g1, 5), (g2, 1)] : List Pe).map (ctP (Go.Fw.rd Int J)) = exM := by simp only [List.map_cons, List.map_nil, ctP, e1, e2]; rfl
  have hg : GrG J (Go.Fw.rd Int J) [(g1, 5), (g2, 1)] := fun p hp => by
    rcases List.mem_cons.1 hp with rfl | hp
    · show SlI J g1 Int inferInstance (Go.Fw.rd Int J g1); rw [e1]; exact s2
    · rw [List.mem_singleton.1 hp]; show SlI J g2 Int inferInstance (Go.Fw.rd Int J g2); rw [e2]; exact s3
  have hgl : ∀ p ∈ ([(g1, 5), (g2, 1)] : List Pe), (Go.Fw.rd Int J p.1).length ≤ 1000 := fun p hp => by
    rcases List.mem_cons.1 hp with rfl | hp
    · show (Go.Fw.rd Int J g1).length ≤ 1000; rw [e1]; decide
    · rw [List.mem_singleton.1 hp]; show (Go.Fw.rd Int J g2).length ≤ 1000; rw [e2]; decide
  have he : (0 : Int) = errW 2 (([(g1, 5), (g2, 1)] : List Pe).map (ctP (Go.Fw.rd Int J))) (BS.mk 4 9 [] [] 0 0 0) := by rw [hms, errW_ok exM_wrong, if_neg hroom]
  have hx : WrX 2 (([(g1, 5), (g2, 1)] : List Pe).map (ctP (Go.Fw.rd Int J))) (BS.mk 4 9 [] [] 0 0 0) 0 2 2 (fillN (byS exM) (BS.mk 4 9 [] [] 0 0 0) [] 0).1 (fillN (byS exM) (BS.mk 4 9 [] [] 0 0 0) [] 0).2 := by rw [hms]; exact .inr ⟨rfl, rfl, rfl, rfl, rfl⟩
  generalize (fillN (byS exM) (BS.mk 4 9 [] [] 0 0 0) [] 0).1 = m' at F hx
  generalize (fillN (byS exM) (BS.mk 4 9 [] [] 0 0 0) [] 0).2 = ids at F hx
  have hnum := F.num
  rw [exM_size] at hnum
  dsimp only at hnum
  have hidl : (ids.length : Int) = 4 := by omega
  have hus : m'.used = 4 := by have := F.used; dsimp only at this; omega
  have hrs : readS 2 2 (byS exM) = some exM := readS_back exM_wrong
  have htx := txtN_cat fun i hi => (F.has i hi).1
  rw [F.cat] at htx
  repeat' ((fail_if_success (guard_target =~ WPA _ _ _ (.region 4 _ _) _ _ _)); first | ((first | refine WLA.m rfl rfl ?_ ?_ | refine WLA.st rfl ?_ ?_ | refine WLA.x rfl rfl ?_ (fun x => ?_) | refine WLA.x0 rfl ?_ (fun x => ?_)); first | exact trivial | exact rfl | assumption | omega | (refine ⟨?_, ?_⟩ <;> omega) | (simp only [Room, List.length_set, List.length_append, List.length_cons, List.length_nil, List.length_replicate]; omega) | decide | skip) | (refine Stp.go ?_) | (guard_target =~ WLA _ _ _ _ _ (⟨_, .call ⟨.value (.func 18), _, _⟩, _, _, _, _⟩ :: _) _ _; first | (refine WLA.call rfl rfl (runWrite_tr ok0 s1 hg hgl (by simp) he hx) ?_; rintro r) | (refine WLA.call0 rfl (runWrite_tr ok0 s1 hg hgl (by simp) he hx) ?_; rintro r)) | (refine WPA.ifT ?_) | (refine WPA.ifF ?_) | ((first | refine WPA.dec ?_); first | refine .inl ⟨by first | assumption | omega | with_reducible rfl | (refine fun h => h ?_; first | assumption | with_reducible rfl) | (simp only [List.length_append, List.length_cons, List.length_nil, List.length_set] <;> omega) | decide, ?_⟩ | refine .inr ⟨by first | assumption | omega | with_reducible rfl | (refine fun h => h ?_; first | assumption | with_reducible rfl) | (simp only [List.length_append, List.length_cons, List.length_nil, List.length_set] <;> omega) | decide, ?_⟩) | ((first | refine WPA.ifBt ?_ ?_ | refine WPA.ifBnf ?_ ?_); assumption) | ((first | refine WPA.ifBnt ?_ ?_ | refine WPA.ifBf ?_ ?_); assumption) | ((first | refine WPA.ifs ?_ ?_ | refine WPA.ifB ?_ ?_) <;> intro hc))
  revert x; intro X
  refine WPA.ent (EntC.out (L' := OwnS 3 r ids :: Bk X 25 [.int .i64 2, .int .i64 2, .slice r.a r.n r.cap] :: StoreR S m' :: L)) ?_
  refine WPA.freeze fun R4 h4 => ?_
  have s4 : SlI (R4 ++ J) r Int inferInstance ids := by have := SlI.ofOwn h4; infer_instance
  have hJ2 : I ⊆ R4 ++ J := fun z hz => List.mem_append_right _ (hJ hz)
  have s1 : SlI (R4 ++ J) l Pe inferInstance [(g1, 5), (g2, 1)] := inferInstance
  have s2 : SlI (R4 ++ J) g1 Int inferInstance [1, 2] := inferInstance
  have s3 : SlI (R4 ++ J) g2 Int inferInstance [1, 3] := inferInstance
  clear h4 hg hgl he hx hms
  generalize R4 ++ J = K at s1 s2 s3 s4 hJ2
  repeat' ((fail_if_success (guard_target =~ WPA _ _ _ (.region 5 _ _) _ _ _)); first | ((first | refine WLA.m rfl rfl ?_ ?_ | refine WLA.st rfl ?_ ?_ | refine WLA.x rfl rfl ?_ (fun x => ?_) | refine WLA.x0 rfl ?_ (fun x => ?_)); first | exact trivial | exact rfl | assumption | omega | (refine ⟨?_, ?_⟩ <;> omega) | (simp only [Room, List.length_set, List.length_append, List.length_cons, List.length_nil, List.length_replicate]; omega) | decide | skip) | (refine Stp.go ?_) | (guard_target =~ WLA _ _ _ _ _ (⟨_, .call ⟨.value (.func 13), _, _⟩, _, _, _, _⟩ :: _) _ _; first | (refine WLA.call rfl rfl (runRead_tr (o := 2) (n := 2) (by decide) s4 F.ok.lens (F.txb TxB.new) (by omega) htx hrs) ?_; rintro x; rw [show (some exM).getD [] = exM from rfl]) | (refine WLA.call0 rfl (runRead_tr (o := 2) (n := 2) (by decide) s4 F.ok.lens (F.txb TxB.new) (by omega) htx hrs) ?_; rintro x; rw [show (some exM).getD [] = exM from rfl])) | (refine WPA.ifT ?_) | (refine WPA.ifF ?_) | ((first | refine WPA.dec ?_); first | refine .inl ⟨by first | assumption | omega | with_reducible rfl | (refine fun h => h ?_; first | assumption | with_reducible rfl) | (simp only [List.length_append, List.length_cons, List.length_nil, List.length_set] <;> omega) | decide, ?_⟩ | refine .inr ⟨by first | assumption | omega | with_reducible rfl | (refine fun h => h ?_; first | assumption | with_reducible rfl) | (simp only [List.length_append, List.length_cons, List.length_nil, List.length_set] <;> omega) | decide, ?_⟩) | ((first | refine WPA.ifBt ?_ ?_ | refine WPA.ifBnf ?_ ?_); assumption) | ((first | refine WPA.ifBnt ?_ ?_ | refine WPA.ifBf ?_ ?_); assumption) | ((first | refine WPA.ifs ?_ ?_ | refine WPA.ifB ?_ ?_) <;> intro hc))
  refine WPA.ent (EntC.out (L' := CtsH x exM :: Bk X 25 [.int .i64 2, .int .i64 2, .slice r.a r.n r.cap] :: StoreR S m' :: L)) ?_
  refine WPA.freeze fun R5 h5 => ?_
  obtain ⟨qs, q1, q2, q3⟩ := h5.frozen
  have hJ3 : I ⊆ R5 ++ K := fun z hz => List.mem_append_right _ (hJ2 hz)
  have sx : SlI (R5 ++ K) x Pe inferInstance qs := inferInstance
  have sg : ∀ i : Nat, i < qs.length → SlI (R5 ++ K) (at_ qs (i : Int)).1 Int inferInstance (exM.getD i ([], 0)).1 := fun i hi => by have := q3 i hi; infer_instance
  have sr : SlI (R5 ++ K) r Int inferInstance ids := inferInstance
  have s1 : SlI (R5 ++ K) l Pe inferInstance [(g1, 5), (g2, 1)] := inferInstance
  have s2 : SlI (R5 ++ K) g1 Int inferInstance [1, 2] := inferInstance
  have s3 : SlI (R5 ++ K) g2 Int inferInstance [1, 3] := inferInstance
  clear h5 q1 q3
  generalize R5 ++ K = M at sx sg sr s1 s2 s3 hJ3
  have sl : ∀ i : Nat, i < ([(g1, 5), (g2, 1)] : List Pe).length → SlI M (at_ ([(g1, 5), (g2, 1)] : List Pe) (i : Int)).1 Int inferInstance (exM.getD i ([], 0)).1 := fun i hi => by
    rcases (show i = 0 ∨ i = 1 by simp at hi; omega) with rfl | rfl
    · exact s2
    · exact s3
  have hsame : ∀ {L : List HP}, TrP Try.prog 16 #[.slice x.a x.n x.cap, .slice l.a l.n l.cap] (SL w0 M L) (.bool true) := fun {L} => by
    have := Same_tr (w0 := w0) (I := M) (L := L) (a := x) (b := l) (cs := qs) (ds := [(g1, 5), (g2, 1)]) (ms := exM) (ns := exM) q2 rfl (fun i hi => by have := sg i hi; exact RdS.imm) (fun i hi => by have := sl i hi; exact RdS.imm) (by decide) (by decide)
    rw [decide_eq_true rfl] at this
    exact this
  repeat' (first | ((rw [hus])) | ((first | refine WLA.m rfl rfl ?_ ?_ | refine WLA.st rfl ?_ ?_ | refine WLA.x rfl rfl ?_ (fun x => ?_) | refine WLA.x0 rfl ?_ (fun x => ?_)); first | exact trivial | exact rfl | assumption | omega | (refine ⟨?_, ?_⟩ <;> omega) | (simp only [Room, List.length_set, List.length_append, List.length_cons, List.length_nil, List.length_replicate]; omega) | decide | skip) | (refine Stp.go ?_) | (guard_target =~ WLA _ _ _ _ _ (⟨_, .call ⟨.value (.func 22), _, _⟩, _, _, _, _⟩ :: _) _ _; refine WLA.cq rfl rfl (Used_tr) ?_) | (guard_target =~ WLA _ _ _ _ _ (⟨_, .call ⟨.value (.func 16), _, _⟩, _, _, _, _⟩ :: _) _ _; refine WLA.cq rfl rfl (hsame) ?_) | (refine WPA.ifT ?_) | (refine WPA.ifF ?_) | (refine WLA.no rfl rfl ?_) | ((first | refine WPA.dec ?_ | ((fail_if_success (guard_target =~ WLA _ _ _ _ _ _ (put1 _ _ (.bool true)) _)); (fail_if_success (guard_target =~ WLA _ _ _ _ _ _ (put1 _ _ (.bool false)) _)); refine WLA.dec rfl rfl ?_) | refine WLA.pk ?_); first | refine .inl ⟨by first | assumption | omega | with_reducible rfl | (refine fun h => h ?_; first | assumption | with_reducible rfl) | (simp only [List.length_append, List.length_cons, List.length_nil, List.length_set] <;> omega) | decide, ?_⟩ | refine .inr ⟨by first | assumption | omega | with_reducible rfl | (refine fun h => h ?_; first | assumption | with_reducible rfl) | (simp only [List.length_append, List.length_cons, List.length_nil, List.length_set] <;> omega) | decide, ?_⟩) | ((first | refine WPA.ifBt ?_ ?_ | refine WPA.ifBnf ?_ ?_); assumption) | ((first | refine WPA.ifBnt ?_ ?_ | refine WPA.ifBf ?_ ?_); assumption) | ((first | refine WPA.ifs ?_ ?_ | refine WPA.ifB ?_ ?_) <;> intro hc) | ((fail_if_success (guard_target =~ WLA _ _ _ _ _ _ (put1 _ _ (.bool true)) _)); (fail_if_success (guard_target =~ WLA _ _ _ _ _ _ (put1 _ _ (.bool false)) _)); (first | refine WLA.both rfl rfl ?_ ?_ | refine WLA.bothB rfl rfl ?_ ?_) <;> intro hg))
  exact QQ.end_ rfl () rfl fun w h => (h.to : SL w0 M L w).sub hJ3
end Go.Proofs.Ytbekjbgaenjbfaa
namespace Go.Fw
open Go Go.RowKit
set_option linter.unusedVariables false
set_option linter.unusedSimpArgs false
class NatI (i : Int) (k : outParam Nat) : Prop where
  out : i = k
instance : NatI 0 0 := ⟨rfl⟩
instance : NatI 1 1 := ⟨rfl⟩
instance : NatI 2 2 := ⟨rfl⟩
instance : NatI 3 3 := ⟨rfl⟩
instance : NatI 4 4 := ⟨rfl⟩
instance {P : Program} {ρ : Env} {A : World → Prop} {ty : TypeId} {x y : Operand} {t e : TypeId} {n : Nat} {kd : IntKind} {b o : Nat} {i : Int} {k : Nat} {z : List Value} {bytes : Nat} [h1 : Ev ρ x (.pointer (some ⟨b, o, none⟩))] [h2 : Ev ρ y (.int kd i)] [hk : NatI i k] [ht : Und P t (.array n e)] [hz : Inf P e z 1 bytes] [hn : NatLe (k + 1) n] :
    OpM P ρ A (.indexAddr t x y) ty (.pointer (some ⟨b, o + k, none⟩)) True := ⟨fun _ d pos af g w _ => by
  obtain ⟨inf, hinf, hz'⟩ := Option.map_eq_some_iff.1 hz.size
  have hi := hk.out
  have hl := hn.out
  have ea : (⟨b, o, none⟩ : Addr).add k = ⟨b, o + k, none⟩ := by
    unfold Addr.add; split
    · rename_i h; simp [h]
    · rfl
  subst hi
  have h0 : (0 : Int) ≤ (k : Int) := by omega
  have h3 : (k : Int) < (n : Int) := by omega
  simp [execOp, Instr.indexAt, Instr.sureAddr, asIntOf, h1.out, h2.out, run_underlying ht.out, h0, h3, Go.sizeOf, typeInfo, hinf, hz', ea, go_sem]
  intro h; omega⟩
instance {P : Program} {t e : TypeId} [ht : Und P t (.array 3 e)] [he : Und P e (.int .i64)] {z : List Value} {bytes : Nat} [hz : Inf P e z 1 bytes] {zt : List Value} {bt : Nat} [hzt : Inf P t zt 3 bt] : OpenT P t (Int × Int × Int) inferInstance (gPair gInt (gPair gInt gInt)) := ⟨fun {H enc w base spare held fuel cs x} h hw => by
  obtain ⟨xs, m, _, _, hl, hxl, hf⟩ := DataW.trod_array ht.out h
  have hc : P.cellsOf e = 1 := by obtain ⟨i, h1, h2⟩ := Option.map_eq_some_iff.1 hz.size; simp [Program.cellsOf, h1, h2]
  have hct : P.cellsOf t = 3 := by obtain ⟨i, h1, h2⟩ := Option.map_eq_some_iff.1 hzt.size; simp [Program.cellsOf, h1, h2]
  rw [hct] at hl
  match cs, hl with
  | [a, b, c], _ =>
    have one : ∀ i (hi : i < 3) v, ([a, b, c].drop i).take 1 = [v] → ∃ y : Int, v = .int .i64 y ∧ gInt w y := by
      intro i hi v hv
      have h1 := hf i hi
      rw [hc, Nat.mul_one, hv, List.getElem?_eq_getElem (by omega)] at h1
      obtain ⟨n, h2, _, h4⟩ := DataW.trod_int he.out h1
      injection h2 with h2 _
      refine ⟨n, h2, ?_⟩
      simp [Lit.wf, IntKind.min, IntKind.max, IntKind.bits, IntKind.signed] at h4
      unfold gInt; omega
    obtain ⟨x, rfl, gx⟩ := one 0 (by omega) a rfl
    obtain ⟨y, rfl, gy⟩ := one 1 (by omega) b rfl
    obtain ⟨z, rfl, gz⟩ := one 2 (by omega) c rfl
    exact ⟨(x, y, z), rfl, gx, gy, gz⟩⟩
instance {P : Program} {t e : TypeId} {n : Nat} {α : Type} {en : Enc α} {good : World → α → Prop} [ht : Und P t (.array n e)] [h : OpenT P t α en good] : OpenP P t α (fun x => .agg (Enc.cells x).toArray) good := ⟨fun {H enc w base spare held v d p} hv hd hw => by
  obtain ⟨y, hy, hg⟩ := h.use hd hw
  refine ⟨y, ?_, hg⟩
  unfold Value.okWide at hv
  rw [ht.out] at hv
  obtain ⟨cs, rfl, _⟩ := hv
  rw [hy]; rfl⟩
end Go.Fw
namespace Go.Proofs.Ytbekjbgaenjbfaa
open Go Go.Fw Go.RowKit
set_option linter.unusedVariables false
set_option linter.unusedSimpArgs false
set_option maxRecDepth 100000
set_option maxHeartbeats 16000000
set_option synthInstance.maxHeartbeats 200000
set_option synthInstance.maxSize 100000
attribute [local irreducible] WPA WLA WDA WDQ WDE QQ seqQ blockQ loopQ fnQ OpP OpT Tr TrP SL SLd OwnS LitS Bk BkE Ob
attribute [local irreducible] vS keyS parL RowH CtsH
instance : Und Try.prog 50 (.array 3 3) := ⟨Try.underlying50⟩
end Go.Proofs.Ytbekjbgaenjbfaa
namespace Go.Fw
open Go Go.RowKit Go.Sort
set_option linter.unusedVariables false
set_option linter.unusedSimpArgs false
set_option maxHeartbeats 2000000
theorem St.grown {w0 : World} {H : HeapP} {L : Foot} {w : World} (h : St w0 H L w) (os : Array Obj) : St w0 H L (grow w os) := by
  have hk : ∀ b u, w.heap[b]? = some u → (grow w os).heap[b]? = some u := fun b u e => by
    rw [heap_grow_old w os (Array.getElem?_eq_some_iff.1 e).1]; exact e
  refine ⟨⟨h.below.os, h.below.tape, h.below.output, ?_, fun k hk' => ?_⟩, fun b u e => hk b u (h.imm b u e), fun p hp => ?_, h.nodup, h.drw⟩
  · have := h.below.size; simp only [grow, Array.size_append]; omega
  · rw [heap_grow_old w os (by have := h.below.size; omega)]; exact h.below.block k hk'
  · obtain ⟨h1, h2, h3⟩ := h.own p hp; exact ⟨hk _ _ h1, h2, h3⟩
theorem putCells_take {F c : Array Value} (h : F.size ≤ c.size) : (putCells id 0 F c).toList.take F.size = F.toList ∧ (putCells id 0 F c).size = c.size := by
  refine ⟨List.ext_getElem? fun k => ?_, by simp [putCells]⟩
  by_cases hk : k < F.size
  · rw [List.getElem?_take_of_lt hk]
    simp [putCells, hk, show k < c.size by omega]
  · rw [List.getElem?_take_eq_none (by omega), List.getElem?_eq_none (by simpa using hk)]
theorem SL.reput {α : Type} [Enc α] {w0 : World} {I : Foot} {L : List HP} {w : World} {e : TypeId} {s : SV} {xs ys : List α} {g : Nat} (h : SL w0 I (OwnS e s xs :: L) w) (hs : s.a = some ⟨g, 0, none⟩) (hl : ys.length = xs.length) (n : Nat) (os : Array Obj) {F : Array Value} (hF : F.toList = flat ys) :
    SL w0 I (OwnS e s ys :: L) (grow (putRow id (Sort.ahead w n) g 0 F) os) := by
  obtain ⟨H, R, Rs, h1, hp, h2, h3⟩ := h.uncons
  rcases hp.2 with ⟨q1, q2, q3⟩ | ⟨gb, cap, cur, q1, q2, q3, q4, q5, q6⟩
  · simp only [Value.slice.injEq] at q1
    rw [hs] at q1; exact absurd q1.1 (by simp)
  · simp only [Value.slice.injEq] at q1
    obtain ⟨q1, -, q7⟩ := q1
    rw [hs] at q1
    cases q1
    subst q6
    have hfl := hp.1
    rw [flat_len] at hfl
    have hFs : F.size = s.n * Enc.sz α := by rw [← Array.length_toList, hF, flat_len, hl, hfl]
    have hle : F.size ≤ cur.size := by rw [hFs, q4]; exact Nat.mul_le_mul_right _ q2
    obtain ⟨c1, c2⟩ := putCells_take hle
    have hst : St w0 H ((g, .cells cur e (0, 0)) :: Rs.flatten) (Sort.ahead w n) := h3.drawn (w.drawn + n) (Nat.le_add_right _ _)
    have hput : (putRow id (Sort.ahead w n) g 0 F) = (Sort.ahead w n).setRow g (putCells id 0 F cur) := by
      unfold putRow mapBlock World.setRow
      congr 1
      refine Array.ext_getElem? fun k => ?_
      rw [Array.getElem?_modify, Array.getElem?_modify]
      by_cases hk : g = k
      · subst hk
        rw [if_pos rfl, if_pos rfl, hst.at_ (j := 0) rfl]
        rfl
      · rw [if_neg hk, if_neg hk]
    rw [hput]
    refine SL.cons (R := [(g, .cells (putCells id 0 F cur) e (0, 0))]) h1 ⟨by rw [flat_len, hl, hfl], .inr ⟨g, cap, _, ?_, q2, q3, by rw [c2, q4], ?_, rfl⟩⟩ h2 ((hst.putRow _).grown os)
    · rw [hs, q7]
    · rw [← hFs, c1, hF]
theorem SL.row {α : Type} [Enc α] {w0 : World} {I : Foot} {L : List HP} {w : World} {e : TypeId} {s : SV} {xs : List α} (h : SL w0 I (OwnS e s xs :: L) w) (hn : 0 < xs.length) : ∃ g, s.a = some ⟨g, 0, none⟩ ∧ s.n = xs.length ∧ g < w.heap.size ∧ ∀ F : Array Value, F.toList = flat xs → Holds id w g 0 F := by
  obtain ⟨H, R, Rs, h1, hp, h2, h3⟩ := h.uncons
  have hsn := OwnR.len hp
  rcases hp.2 with ⟨q1, q2, q3⟩ | ⟨gb, cap, cur, q1, q2, q3, q4, q5, q6⟩
  · omega
  · simp only [Value.slice.injEq] at q1
    subst q6
    have hat := h3.at_ (j := 0) rfl
    refine ⟨gb, q1.1, hsn, (Array.getElem?_eq_some_iff.1 hat).1, fun F hF j hj => ⟨?_, ?_⟩⟩
    · have hj' : j < (flat xs).length := by rw [← hF]; simpa using hj
      have hg : (flat xs)[j]? = some (F[j]!) := by
        rw [← hF]; simp [hj]
      rw [← q5, List.getElem?_take] at hg
      split at hg
      · simp only [World.cell?, hat, Nat.zero_add, id]
        simpa using hg
      · cases hg
    · simp only [World.frozen?, hat]
      simp
theorem SL.drw {w0 : World} {I : Foot} {L : List HP} {w : World} (h : SL w0 I L w) : w0.drawn ≤ w.drawn := by
  obtain ⟨H, Rs, _, _, h⟩ := h; exact h.drw
end Go.Fw
namespace Go.Fw
open Go Go.RowKit Go.Sort
set_option linter.unusedVariables false
set_option linter.unusedSimpArgs false
set_option maxHeartbeats 2000000
theorem putRow_id {α : Type} [Inhabited α] (enc : α → Value) (u : World) (g off : Nat) (d : Array α) : putRow enc u g off d = putRow id u g off (d.map enc) := by
  unfold putRow
  congr 1
  funext c
  unfold putCells
  congr 1
  funext k x
  simp only [Array.size_map]
  split
  · rename_i hk
    rw [getElem!_pos d _ (by omega), getElem!_pos (d.map _) _ (by simp; omega)]
    simp
  · rfl
theorem flat_ints : ∀ xs : List Int, ((xs.toArray.map (Value.int .i64)).toList) = flat xs
  | [] => by simp [flat]
  | x :: xs => by
    have := flat_ints xs
    simp only [List.toList_toArray, Array.toList_map] at this ⊢
    rw [List.map_cons, this]
    rfl
theorem holds_ints {w : World} {g : Nat} {xs : List Int} (h : ∀ F : Array Value, F.toList = flat xs → Holds id w g 0 F) : Holds (Value.int .i64) w g 0 xs.toArray := fun j hj => by
  have := h (xs.toArray.map (Value.int .i64)) (flat_ints xs) j (by simpa using hj)
  rw [getElem!_pos (xs.toArray.map (Value.int .i64)) j (by simpa using hj)] at this
  rw [getElem!_pos xs.toArray j hj]
  simpa using this
section
variable {P : Program} {ρ : Go.Shelf.Ren} {w0 : World} {I : Foot} {L : List HP}
theorem sortI_tr (Ly : Go.Proofs.Lays.n189 P ρ) {e : TypeId} {s : SV} {xs : List Int} (hn : xs.length ≤ 1000000000) :
    Tr P (ρ.f 189) #[.slice s.a s.n s.cap] (SL w0 I (OwnS e s xs :: L)) (fun _ : Unit => .tuple #[]) (fun _ => SL w0 I (OwnS e s (xs.mergeSort fun x y => decide (x ≤ y)) :: L)) := by
  intro w hw
  by_cases hx : xs = []
  · subst hx
    have hsn : s.n = 0 := hw.facts.1
    rw [hsn]
    refine (Go.Proofs.Any.slices_Sort_int_none Ly s.a s.cap w).mono ?_
    rintro e w' ⟨rfl, rfl⟩
    exact ⟨(), rfl, by rw [List.mergeSort_nil]; exact hw⟩
  · obtain ⟨g0, hs, hsn, hblk, hH⟩ := hw.row (List.length_pos_iff.2 hx)
    have key := Go.Proofs.Any.slices_Sort_int Ly g0 0 s.cap xs w (holds_ints hH) hblk (by omega)
    rw [hs, hsn]
    refine key.mono ?_
    rintro e w' ⟨rfl, n, os, rfl⟩
    refine ⟨(), rfl, ?_⟩
    rw [putRow_id]
    exact hw.reput hs (by rw [List.length_mergeSort]) n os (flat_ints _)
end
end Go.Fw
namespace Go.Proofs
open Go.Shelf
def Try.sortI_ren : Go.Shelf.Ren := ⟨fun | 189 => 67 | 125 => 78 | 257 => 77 | 128 => 90 | 129 => 91 | 294 => 81 | 295 => 82 | 296 => 83 | 297 => 84 | 298 => 85 | 299 => 86 | 216 => 87 | 300 => 88 | 301 => 89 | 328 => 93 | 329 => 94 | 330 => 95 | 331 => 96 | 332 => 97 | 215 => 92 | 343 => 98 | n => n, fun | 28 => 23 | 3 => 3 | 46 => 127 | 0 => 0 | 51 => 150 | 53 => 100 | 4 => 4 | 183 => 142 | 182 => 141 | 131 => 147 | 5 => 5 | 9 => 9 | 218 => 152 | 222 => 156 | 228 => 158 | 229 => 37 | n => n, fun | n => n⟩
theorem Try.sortI : Go.Proofs.Lays.n189 Try.prog Try.sortI_ren := {
  mixed := by kernel_rfl
  f125 := Try.func78.trans (congrArg some (by kernel_rfl))
  f128 := Try.func90.trans (congrArg some (by kernel_rfl))
  f129 := Try.func91.trans (congrArg some (by kernel_rfl))
  f189 := Try.func67.trans (congrArg some (by kernel_rfl))
  f215 := Try.func92.trans (congrArg some (by kernel_rfl))
  f216 := Try.func87.trans (congrArg some (by kernel_rfl))
  f257 := Try.func77.trans (congrArg some (by kernel_rfl))
  f294 := Try.func81.trans (congrArg some (by kernel_rfl))
  f295 := Try.func82.trans (congrArg some (by kernel_rfl))
  f296 := Try.func83.trans (congrArg some (by kernel_rfl))
  f297 := Try.func84.trans (congrArg some (by kernel_rfl))
  f298 := Try.func85.trans (congrArg some (by kernel_rfl))
  f299 := Try.func86.trans (congrArg some (by kernel_rfl))
  f300 := Try.func88.trans (congrArg some (by kernel_rfl))
  f301 := Try.func89.trans (congrArg some (by kernel_rfl))
  f328 := Try.func93.trans (congrArg some (by kernel_rfl))
  f329 := Try.func94.trans (congrArg some (by kernel_rfl))
  f330 := Try.func95.trans (congrArg some (by kernel_rfl))
  f331 := Try.func96.trans (congrArg some (by kernel_rfl))
  f332 := Try.func97.trans (congrArg some (by kernel_rfl))
  f343 := Try.func98.trans (congrArg some (by kernel_rfl))
  t0 := Try.underlying0
  a0 := Try.isAgg0
  z0 := Try.sizeOf0
  v0 := Try.zeroValue0
  t3 := Try.underlying3
  a3 := Try.isAgg3
  z3 := Try.sizeOf3
  v3 := Try.zeroValue3
  t4 := Try.underlying4
  a4 := Try.isAgg4
  z4 := Try.sizeOf4
  v4 := Try.zeroValue4
  t5 := Try.underlying5
  a5 := Try.isAgg5
  z5 := Try.sizeOf5
  v5 := Try.zeroValue5
  t9 := Try.underlying9
  a9 := Try.isAgg9
  z9 := Try.sizeOf9
  v9 := Try.zeroValue9
  t28 := Try.underlying23
  a28 := Try.isAgg23
  z28 := Try.sizeOf23
  v28 := Try.zeroValue23
  t46 := Try.underlying127
  a46 := Try.isAgg127
  z46 := Try.sizeOf127
  v46 := Try.zeroValue127
  t51 := Try.underlying150
  a51 := Try.isAgg150
  z51 := Try.sizeOf150
  v51 := Try.zeroValue150
  t53 := Try.underlying100
  a53 := Try.isAgg100
  z53 := Try.sizeOf100
  v53 := Try.zeroValue100
  t131 := Try.underlying147
  a131 := Try.isAgg147
  z131 := Try.sizeOf147
  v131 := Try.zeroValue147
  t182 := Try.underlying141
  a182 := Try.isAgg141
  z182 := Try.sizeOf141
  v182 := Try.zeroValue141
  t183 := Try.underlying142
  a183 := Try.isAgg142
  z183 := Try.sizeOf142
  v183 := Try.zeroValue142
  t218 := Try.underlying152
  a218 := Try.isAgg152
  z218 := Try.sizeOf152
  v218 := Try.zeroValue152
  t222 := Try.underlying156
  a222 := Try.isAgg156
  z222 := Try.sizeOf156
  v222 := Try.zeroValue156
  t228 := Try.underlying158
  a228 := Try.isAgg158
  z228 := Try.sizeOf158
  v228 := Try.zeroValue158
  t229 := Try.underlying37
  a229 := Try.isAgg37
  z229 := Try.sizeOf37
  v229 := Try.zeroValue37 }
end Go.Proofs
