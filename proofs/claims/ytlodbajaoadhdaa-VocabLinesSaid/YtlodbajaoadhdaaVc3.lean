/- VocabLearns: the walk. Conditions: none. -/
import Derived.Test.YtlodbajaoadhdaaVc2
namespace Go.Proofs.Ytlodbajaoadhdaa
open Go Go.Fw Go.RowKit
set_option linter.unusedVariables false
set_option linter.unusedSimpArgs false
set_option maxRecDepth 100000
set_option maxHeartbeats 16000000
set_option synthInstance.maxHeartbeats 200000
set_option synthInstance.maxSize 100000
attribute [local irreducible] WPA WLA WDA WDQ WDE QQ seqQ blockQ loopQ fnQ OpP OpT Tr TrP SL SLd OwnS LitS Bk BkE Ob
attribute [local irreducible] TblH Fz VocH RowsH
section
variable {L L' : List HP} {w0 : World} {I : Foot}
theorem Learn_ok {s : ByteArray} {most : Int} (hs : s.size ≤ 1000000) (h : ((learnL s).length : Int) ≤ min most 65536) :
    Tr Try.prog 83 #[.string s, .int .i64 most] (SL w0 I L) (fun V : Nat => .tuple #[.pointer (some ⟨V, 0, none⟩), .int .i64 0]) (fun V => SL w0 I (VocH V (learnL s) :: L)) :=
  (Learn_tr hs).conv (fun _ h => h) fun x w hb => by
    cases x with
    | none => exact absurd hb.1 (by omega)
    | some V => exact ⟨V, rfl, hb.2⟩
theorem Learn_no {s : ByteArray} {most : Int} (hs : s.size ≤ 1000000) (h : min most 65536 < ((learnL s).length : Int)) :
    Tr Try.prog 83 #[.string s, .int .i64 most] (SL w0 I L) (fun _ : Unit => .tuple #[.pointer none, .int .i64 12]) (fun _ => SL w0 I L) :=
  (Learn_tr hs).conv (fun _ h => h) fun x w hb => by
    cases x with
    | none => exact ⟨(), rfl, hb.2⟩
    | some V => exact absurd hb.1 (by omega)
theorem rows_len : ∀ (rows : List (List ByteArray)) (l : List ByteArray), l.length ≤ (rows.foldl putWs l).length
  | [], l => Nat.le_refl _
  | r :: rows, l => by have h1 := rows_len rows (putWs l r); have h2 := putWs_len r l; rw [List.foldl_cons]; omega
def szs : List ByteArray → Nat
  | [] => 0
  | p :: ps => p.size + 1 + szs ps
theorem lns_szs {s : ByteArray} : ∀ (k f : Nat), k ≤ s.size → f ≤ s.size - k → szs (lns s f k) = s.size - f + 1
  | 0, f, _, hf => by simp only [lns, szs, ByteArray.size_extract]; omega
  | k + 1, f, hk, hf => by
    unfold lns
    split
    · have := lns_szs (s := s) k (s.size - (k + 1) + 1) (by omega) (by omega)
      simp only [szs, ByteArray.size_extract, this]; omega
    · exact lns_szs k f (by omega) (by omega)
theorem putLs_max : ∀ (ps l : List ByteArray), (putLs l ps).length ≤ l.length + szs ps
  | [], l => Nat.le_refl _
  | p :: ps, l => by
    have h1 := putLs_max ps (putWs l (wordsL p))
    have h2 := putWs_len (wordsL p) l
    have h3 := wordsL_len p
    unfold putLs at h1 ⊢
    rw [List.foldl_cons]
    simp only [szs]; omega
theorem learn_max (s : ByteArray) : (learnL s).length ≤ s.size + 4 := by
  have h1 := putLs_max (linesL s) mk3
  have h2 : szs (linesL s) = s.size - 0 + 1 := lns_szs s.size 0 (Nat.le_refl _) (by omega)
  have h3 : mk3.length = 3 := rfl
  unfold learnL
  omega
theorem rLearn_tr {s : ByteArray} (hs : s.size ≤ 1000000) (hN : (learnL s).length ≤ 100000000) : Tr Try.prog 69 #[.string s] (SL w0 I L) (fun r : SV => .slice r.a r.n r.cap) (fun r => SL w0 I (OwnS 9 r (learnL s) :: L)) := by
  refine Tr.intro Try.func69 rfl Try.ntmps69 rfl ?_
  have hal := allL_len s
  rw [learn_rows] at hN ⊢
  have hw : ∀ row ∈ allL s, row.length ≤ 1000001 := fun r hr => by have := (all_right (s := s) r hr).2.1; omega
  have hB : ∀ {I' : Foot} {L : List HP}, Tr Try.prog 82 #[.string s] (SL w0 I' L) (fun x : SV × List SV => .slice x.1.a x.1.n x.1.cap) (fun x w => x.2.length = (allL s).length ∧ SL w0 I' (OwnS 22 x.1 x.2 :: RowsH 9 x.2 (allL s) :: L) w) := rAll_tr (s := s) w0 _ hs
  generalize allL s = rows at hw hal hB hN
  repeat' (first | ((first | refine WLA.m rfl rfl ?_ ?_ | refine WLA.st rfl ?_ ?_ | refine WLA.x rfl rfl ?_ (fun x => ?_) | refine WLA.x0 rfl ?_ (fun x => ?_)); first | exact trivial | exact rfl | assumption | omega | (refine ⟨?_, ?_⟩ <;> omega) | (simp only [Room, List.length_set, List.length_append, List.length_cons, List.length_nil, List.length_replicate]; omega) | decide | skip) | (refine Stp.go ?_) | (guard_target =~ WLA _ _ _ _ _ (⟨_, .call ⟨.value (.func 72), _, _⟩, _, _, _, _⟩ :: _) _ _; first | (refine WLA.call rfl rfl (Marks_tr) ?_; rintro m) | (refine WLA.call0 rfl (Marks_tr) ?_; rintro m)) | (guard_target =~ WLA _ _ _ _ _ (⟨_, .call ⟨.value (.func 82), _, _⟩, _, _, _, _⟩ :: _) _ _; first | (refine WLA.call rfl rfl (hB) ?_; rintro ⟨r, ss⟩; refine WLA.pure fun hl => ?_; dsimp only at hl ⊢; refine WLA.ent Ent.swap ?_; refine WLA.freeze fun R hR => ?_) | (refine WLA.call0 rfl (hB) ?_; rintro ⟨r, ss⟩; refine WLA.pure fun hl => ?_; dsimp only at hl ⊢; refine WLA.ent Ent.swap ?_; refine WLA.freeze fun R hR => ?_)) | (refine WPA.ifT ?_) | (refine WPA.ifF ?_) | ((first | refine WPA.dec ?_); first | refine .inl ⟨by first | assumption | omega | with_reducible rfl | (refine fun h => h ?_; first | assumption | with_reducible rfl) | (simp only [List.length_append, List.length_cons, List.length_nil, List.length_set] <;> omega) | decide, ?_⟩ | refine .inr ⟨by first | assumption | omega | with_reducible rfl | (refine fun h => h ?_; first | assumption | with_reducible rfl) | (simp only [List.length_append, List.length_cons, List.length_nil, List.length_set] <;> omega) | decide, ?_⟩) | ((first | refine WPA.ifBt ?_ ?_ | refine WPA.ifBnf ?_ ?_); assumption) | ((first | refine WPA.ifBnt ?_ ?_ | refine WPA.ifBf ?_ ?_); assumption) | ((first | refine WPA.ifs ?_ ?_ | refine WPA.ifB ?_ ?_) <;> intro hc))
  refine WPA.loopS (σ := Nat × SV × List ByteArray) (fun y => [(3, .slice y.2.1.a y.2.1.n y.2.1.cap), (4, .slice r.a r.n r.cap), (5, .int .i64 y.1)])
    (fun y => y.1 ≤ ss.length ∧ (rows.drop y.1).foldl putWs y.2.2 = rows.foldl putWs mk3) (fun y => SL w0 (R ++ I) (OwnS 22 r ss :: OwnS 9 y.2.1 y.2.2 :: L)) (fun y => ss.length - y.1) (0, m, mk3) ⟨rfl, rfl, rfl, trivial⟩ ⟨Nat.zero_le _, rfl⟩ (fun w h => h.to) ?_
  rintro ⟨i, l, ts⟩ ρ ⟨hi, hf⟩
  dsimp only at hi hf ⊢
  by_cases hlt : i < ss.length
  · have hlt' : (i : Int) < ss.length := by omega
    have g1 : SlI R (at_ ss (i : Int)) ByteArray inferInstance (rows.getD i []) := RowsH.frozen hR i hlt (by omega)
    have hri : i < rows.length := by omega
    have hrow : rows.getD i [] = rows[i] := by rw [List.getD_eq_getElem?_getD, List.getElem?_eq_getElem hri]; rfl
    rw [List.drop_eq_getElem_cons hri, List.foldl_cons, ← hrow] at hf
    have hrl : (rows.getD i []).length ≤ 1000001 := by rw [hrow]; exact hw _ (List.getElem_mem hri)
    generalize rows.getD i [] = row at g1 hf hrl
    have hn2 := rows_len (rows.drop (i + 1)) (putWs ts row)
    rw [hf] at hn2
    repeat' (first | ((first | refine WLA.m rfl rfl ?_ ?_ | refine WLA.st rfl ?_ ?_ | refine WLA.x rfl rfl ?_ (fun x => ?_) | refine WLA.x0 rfl ?_ (fun x => ?_)); first | exact trivial | exact rfl | assumption | omega | (refine ⟨?_, ?_⟩ <;> omega) | (simp only [Room, List.length_set, List.length_append, List.length_cons, List.length_nil, List.length_replicate]; omega) | decide | skip) | (refine Stp.go ?_) | (refine WPA.ifT ?_) | (refine WPA.ifF ?_) | ((first | refine WPA.dec ?_); first | refine .inl ⟨by first | assumption | omega | with_reducible rfl | (refine fun h => h ?_; first | assumption | with_reducible rfl) | (simp only [List.length_append, List.length_cons, List.length_nil, List.length_set] <;> omega) | decide, ?_⟩ | refine .inr ⟨by first | assumption | omega | with_reducible rfl | (refine fun h => h ?_; first | assumption | with_reducible rfl) | (simp only [List.length_append, List.length_cons, List.length_nil, List.length_set] <;> omega) | decide, ?_⟩) | ((first | refine WPA.ifBt ?_ ?_ | refine WPA.ifBnf ?_ ?_); assumption) | ((first | refine WPA.ifBnt ?_ ?_ | refine WPA.ifBf ?_ ?_); assumption) | ((first | refine WPA.ifs ?_ ?_ | refine WPA.ifB ?_ ?_) <;> intro hc))
    refine WPA.loopS (σ := Nat × SV × List ByteArray) (fun y => [(3, .slice y.2.1.a y.2.1.n y.2.1.cap), (4, .slice r.a r.n r.cap), (5, .int .i64 i), (6, .int .i64 y.1)])
      (fun y => y.1 ≤ row.length ∧ putWs y.2.2 (row.drop y.1) = putWs ts row) (fun y => SL w0 (R ++ I) (OwnS 22 r ss :: OwnS 9 y.2.1 y.2.2 :: L)) (fun y => row.length - y.1) (0, l, ts) ⟨rfl, rfl, rfl, rfl, trivial⟩ ⟨Nat.zero_le _, rfl⟩ (fun w h => h) ?_
    rintro ⟨k, l2, ts2⟩ ρ2 ⟨hk, hf2⟩
    dsimp only at hk hf2 ⊢
    by_cases hkl : k < row.length
    · have hkl' : (k : Int) < row.length := by omega
      rw [List.drop_eq_getElem_cons hkl, ← at_nat row k hkl] at hf2
      have hf3 : putWs (putT ts2 (at_ row (k : Int))) (row.drop (k + 1)) = putWs ts row := hf2
      have hn3 := (putWs_len (row.drop (k + 1)) (putT ts2 (at_ row (k : Int)))).1
      rw [hf3] at hn3
      have hn4 := (putT_len ts2 (at_ row (k : Int))).1
      have hn5 : ts2.length ≤ 100000000 := by omega
      repeat' (first | ((first | refine WLA.m rfl rfl ?_ ?_ | refine WLA.st rfl ?_ ?_ | refine WLA.x rfl rfl ?_ (fun x => ?_) | refine WLA.x0 rfl ?_ (fun x => ?_)); first | exact trivial | exact rfl | assumption | omega | (refine ⟨?_, ?_⟩ <;> omega) | (simp only [Room, List.length_set, List.length_append, List.length_cons, List.length_nil, List.length_replicate]; omega) | decide | skip) | (refine Stp.go ?_) | (guard_target =~ WLA _ _ _ _ _ (⟨_, .call ⟨.value (.func 110), _, _⟩, _, _, _, _⟩ :: _) _ _; first | (refine WLA.call rfl rfl (rPut_tr hn5) ?_; rintro l3) | (refine WLA.call0 rfl (rPut_tr hn5) ?_; rintro l3)) | (refine WPA.ifT ?_) | (refine WPA.ifF ?_) | ((first | refine WPA.dec ?_); first | refine .inl ⟨by first | assumption | omega | with_reducible rfl | (refine fun h => h ?_; first | assumption | with_reducible rfl) | (simp only [List.length_append, List.length_cons, List.length_nil, List.length_set] <;> omega) | decide, ?_⟩ | refine .inr ⟨by first | assumption | omega | with_reducible rfl | (refine fun h => h ?_; first | assumption | with_reducible rfl) | (simp only [List.length_append, List.length_cons, List.length_nil, List.length_set] <;> omega) | decide, ?_⟩) | ((first | refine WPA.ifBt ?_ ?_ | refine WPA.ifBnf ?_ ?_); assumption) | ((first | refine WPA.ifBnt ?_ ?_ | refine WPA.ifBf ?_ ?_); assumption) | ((first | refine WPA.ifs ?_ ?_ | refine WPA.ifB ?_ ?_) <;> intro hc))
      exact QQ.loopS (k + 1, l3, putT ts2 (at_ row (k : Int))) ⟨rfl, rfl, rfl, rfl, trivial⟩ ⟨hkl, hf3⟩ (by dsimp only; omega) (fun w h => by dsimp only; exact h.to)
    · have hkl' : ¬ (k : Int) < row.length := by omega
      rw [List.drop_of_length_le (by omega)] at hf2
      have hf2 : ts2 = putWs ts row := hf2
      repeat' (first | ((first | refine WLA.m rfl rfl ?_ ?_ | refine WLA.st rfl ?_ ?_ | refine WLA.x rfl rfl ?_ (fun x => ?_) | refine WLA.x0 rfl ?_ (fun x => ?_)); first | exact trivial | exact rfl | assumption | omega | (refine ⟨?_, ?_⟩ <;> omega) | (simp only [Room, List.length_set, List.length_append, List.length_cons, List.length_nil, List.length_replicate]; omega) | decide | skip) | (refine Stp.go ?_) | (refine WPA.ifT ?_) | (refine WPA.ifF ?_) | ((first | refine WPA.dec ?_); first | refine .inl ⟨by first | assumption | omega | with_reducible rfl | (refine fun h => h ?_; first | assumption | with_reducible rfl) | (simp only [List.length_append, List.length_cons, List.length_nil, List.length_set] <;> omega) | decide, ?_⟩ | refine .inr ⟨by first | assumption | omega | with_reducible rfl | (refine fun h => h ?_; first | assumption | with_reducible rfl) | (simp only [List.length_append, List.length_cons, List.length_nil, List.length_set] <;> omega) | decide, ?_⟩) | ((first | refine WPA.ifBt ?_ ?_ | refine WPA.ifBnf ?_ ?_); assumption) | ((first | refine WPA.ifBnt ?_ ?_ | refine WPA.ifBf ?_ ?_); assumption) | ((first | refine WPA.ifs ?_ ?_ | refine WPA.ifB ?_ ?_) <;> intro hc))
      exact QQ.loopS (i + 1, l2, ts2) ⟨rfl, rfl, rfl, trivial⟩ ⟨hlt, by rw [hf2]; exact hf⟩ (by dsimp only; omega) (fun w h => by dsimp only; exact h.to)
  · have hlt' : ¬ (i : Int) < ss.length := by omega
    rw [List.drop_of_length_le (by omega)] at hf
    have hf : ts = rows.foldl putWs mk3 := hf
    subst hf
    repeat' (first | ((first | refine WLA.m rfl rfl ?_ ?_ | refine WLA.st rfl ?_ ?_ | refine WLA.x rfl rfl ?_ (fun x => ?_) | refine WLA.x0 rfl ?_ (fun x => ?_)); first | exact trivial | exact rfl | assumption | omega | (refine ⟨?_, ?_⟩ <;> omega) | (simp only [Room, List.length_set, List.length_append, List.length_cons, List.length_nil, List.length_replicate]; omega) | decide | skip) | (refine Stp.go ?_) | (refine WPA.ifT ?_) | (refine WPA.ifF ?_) | ((first | refine WPA.dec ?_); first | refine .inl ⟨by first | assumption | omega | with_reducible rfl | (refine fun h => h ?_; first | assumption | with_reducible rfl) | (simp only [List.length_append, List.length_cons, List.length_nil, List.length_set] <;> omega) | decide, ?_⟩ | refine .inr ⟨by first | assumption | omega | with_reducible rfl | (refine fun h => h ?_; first | assumption | with_reducible rfl) | (simp only [List.length_append, List.length_cons, List.length_nil, List.length_set] <;> omega) | decide, ?_⟩) | ((first | refine WPA.ifBt ?_ ?_ | refine WPA.ifBnf ?_ ?_); assumption) | ((first | refine WPA.ifBnt ?_ ?_ | refine WPA.ifBf ?_ ?_); assumption) | ((first | refine WPA.ifs ?_ ?_ | refine WPA.ifB ?_ ?_) <;> intro hc))
    exact QQ.end_ rfl l rfl fun w h => h.unI.to
def liveV : ByteArray := ⟨#[98, 32, 97, 10, 98]⟩
theorem live_learn : learnL liveV = [⟨#[60, 117, 110, 107, 62]⟩, ⟨#[60, 115, 62]⟩, ⟨#[60, 47, 115, 62]⟩, ⟨#[98]⟩, ⟨#[97]⟩] := by decide +kernel
theorem live_tr15 (w0 : World) (I : Foot) (L : List HP) : Tr Try.prog 24 #[] (SL w0 I L) (fun _ : Unit => .bool true) (fun _ => SL w0 I L) := by
  refine Tr.intro Try.func24 rfl Try.ntmps24 rfl ?_
  have h5 : ∀ {L : List HP}, Tr Try.prog 83 #[.string ⟨#[98, 32, 97, 10, 98]⟩, .int .i64 5] (SL w0 I L) (fun V : Nat => .tuple #[.pointer (some ⟨V, 0, none⟩), .int .i64 0]) (fun V => SL w0 I (VocH V [⟨#[60, 117, 110, 107, 62]⟩, ⟨#[60, 115, 62]⟩, ⟨#[60, 47, 115, 62]⟩, ⟨#[98]⟩, ⟨#[97]⟩] :: L)) := by
    intro L
    have := Learn_ok (s := liveV) (most := 5) (L := L) (w0 := w0) (I := I) (by decide) (by rw [live_learn]; decide)
    rw [live_learn] at this
    exact this
  have h4 : ∀ {L : List HP}, Tr Try.prog 83 #[.string ⟨#[98, 32, 97, 10, 98]⟩, .int .i64 4] (SL w0 I L) (fun _ : Unit => .tuple #[.pointer none, .int .i64 12]) (fun _ => SL w0 I L) := by
    intro L
    exact Learn_no (s := liveV) (most := 4) (L := L) (w0 := w0) (I := I) (by decide) (by rw [live_learn]; decide)
  repeat' ((fail_if_success (guard_target =~ WPA _ _ _ (.region 2 _ _) _ _ _)); first | ((first | refine WLA.m rfl rfl ?_ ?_ | refine WLA.st rfl ?_ ?_ | refine WLA.x rfl rfl ?_ (fun x => ?_) | refine WLA.x0 rfl ?_ (fun x => ?_)); first | exact trivial | exact rfl | assumption | omega | (refine ⟨?_, ?_⟩ <;> omega) | (simp only [Room, List.length_set, List.length_append, List.length_cons, List.length_nil, List.length_replicate]; omega) | decide | skip) | (refine Stp.go ?_) | (guard_target =~ WLA _ _ _ _ _ (⟨_, .call ⟨.value (.func 83), _, _⟩, _, _, _, _⟩ :: _) _ _; first | (refine WLA.call rfl rfl (h5) ?_; rintro V) | (refine WLA.call0 rfl (h5) ?_; rintro V)) | (refine WPA.ifT ?_) | (refine WPA.ifF ?_) | ((first | refine WPA.dec ?_); first | refine .inl ⟨by first | assumption | omega | with_reducible rfl | (refine fun h => h ?_; first | assumption | with_reducible rfl) | (simp only [List.length_append, List.length_cons, List.length_nil, List.length_set] <;> omega) | decide, ?_⟩ | refine .inr ⟨by first | assumption | omega | with_reducible rfl | (refine fun h => h ?_; first | assumption | with_reducible rfl) | (simp only [List.length_append, List.length_cons, List.length_nil, List.length_set] <;> omega) | decide, ?_⟩) | ((first | refine WPA.ifBt ?_ ?_ | refine WPA.ifBnf ?_ ?_); assumption) | ((first | refine WPA.ifBnt ?_ ?_ | refine WPA.ifBf ?_ ?_); assumption) | ((first | refine WPA.ifs ?_ ?_ | refine WPA.ifB ?_ ?_) <;> intro hc))
  repeat' (first | (guard_target =~ WLA _ _ _ _ _ (⟨_, .pick _ _ _, _, _, _, _⟩ :: _) _ _; first | refine WLA.pickT (by decide) ?_ | refine WLA.pickF (by decide) ?_) | ((first | refine WLA.m rfl rfl ?_ ?_ | refine WLA.st rfl ?_ ?_ | refine WLA.x rfl rfl ?_ (fun x => ?_) | refine WLA.x0 rfl ?_ (fun x => ?_)); first | exact trivial | exact rfl | assumption | omega | (refine ⟨?_, ?_⟩ <;> omega) | (simp only [Room, List.length_set, List.length_append, List.length_cons, List.length_nil, List.length_replicate]; omega) | decide | skip) | (refine Stp.go ?_) | (guard_target =~ WLA _ _ _ _ _ (⟨_, .call ⟨.value (.func 83), _, _⟩, _, _, _, _⟩ :: _) _ _; first | (refine WLA.call rfl rfl (h4) ?_; rintro ⟨⟩) | (refine WLA.call0 rfl (h4) ?_; rintro ⟨⟩)) | (guard_target =~ WLA _ _ _ _ _ (⟨_, .call ⟨.value (.func 78), _, _⟩, _, _, _, _⟩ :: _) _ _; first | (refine WLA.call rfl rfl (Words_trV (by decide)) ?_; rintro ws) | (refine WLA.call0 rfl (Words_trV (by decide)) ?_; rintro ws)) | (guard_target =~ WLA _ _ _ _ _ (⟨_, .call ⟨.value (.func 71), _, _⟩, _, _, _, _⟩ :: _) _ _; refine WLA.cq rfl rfl (Same_tr (by decide)) ?_) | (refine WPA.ifT ?_) | (refine WPA.ifF ?_) | (refine WLA.no rfl rfl ?_) | ((first | refine WPA.dec ?_ | ((fail_if_success (guard_target =~ WLA _ _ _ _ _ _ (put1 _ _ (.bool true)) _)); (fail_if_success (guard_target =~ WLA _ _ _ _ _ _ (put1 _ _ (.bool false)) _)); refine WLA.dec rfl rfl ?_) | refine WLA.pk ?_); first | refine .inl ⟨by first | assumption | omega | with_reducible rfl | (refine fun h => h ?_; first | assumption | with_reducible rfl) | (simp only [List.length_append, List.length_cons, List.length_nil, List.length_set] <;> omega) | decide, ?_⟩ | refine .inr ⟨by first | assumption | omega | with_reducible rfl | (refine fun h => h ?_; first | assumption | with_reducible rfl) | (simp only [List.length_append, List.length_cons, List.length_nil, List.length_set] <;> omega) | decide, ?_⟩) | ((first | refine WPA.ifBt ?_ ?_ | refine WPA.ifBnf ?_ ?_); assumption) | ((first | refine WPA.ifBnt ?_ ?_ | refine WPA.ifBf ?_ ?_); assumption) | ((first | refine WPA.ifs ?_ ?_ | refine WPA.ifB ?_ ?_) <;> intro hc) | ((fail_if_success (guard_target =~ WLA _ _ _ _ _ _ (put1 _ _ (.bool true)) _)); (fail_if_success (guard_target =~ WLA _ _ _ _ _ _ (put1 _ _ (.bool false)) _)); (first | refine WLA.both rfl rfl ?_ ?_ | refine WLA.bothB rfl rfl ?_ ?_) <;> intro hg))
  exact QQ.end_ rfl () (congrArg Value.bool (by decide)) fun w h => h.to
end
end Go.Proofs.Ytlodbajaoadhdaa
