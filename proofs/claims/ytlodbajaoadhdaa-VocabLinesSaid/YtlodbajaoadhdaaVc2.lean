/- A text learned. Conditions: none. -/
import Derived.Test.YtlodbajaoadhdaaVc1
import Derived.Test.YtlodbajaoadhdaaTk12
namespace Go.Proofs.Ytlodbajaoadhdaa
open Go Go.Fw Go.RowKit
set_option linter.unusedVariables false
set_option linter.unusedSimpArgs false
set_option maxRecDepth 100000
set_option maxHeartbeats 16000000
set_option synthInstance.maxHeartbeats 200000
set_option synthInstance.maxSize 100000
attribute [local irreducible] WPA WLA WDA WDQ WDE QQ seqQ blockQ loopQ fnQ OpP OpT Tr TrP SL SLd OwnS LitS Bk BkE Ob
attribute [local irreducible] TblH Fz VocH RowsH

/-- The words of a line, learned. -/
def putWs (l ws : List ByteArray) : List ByteArray := ws.foldl putT l
def putLs (l : List ByteArray) (ps : List ByteArray) : List ByteArray := ps.foldl (fun l p => putWs l (wordsL p)) l
/-- What is learned of a text. -/
def learnL (s : ByteArray) : List ByteArray := putLs mk3 (linesL s)
theorem putWs_len : ∀ (ws l : List ByteArray), l.length ≤ (putWs l ws).length ∧ (putWs l ws).length ≤ l.length + ws.length
  | [], l => by simp [putWs]
  | w :: ws, l => by
    have h1 := putWs_len ws (putT l w)
    have h2 := putT_len l w
    unfold putWs at h1 ⊢
    rw [List.foldl_cons, List.length_cons]; omega
theorem putLs_len : ∀ (ps l : List ByteArray), l.length ≤ (putLs l ps).length
  | [], l => Nat.le_refl _
  | p :: ps, l => by
    have h1 := putLs_len ps (putWs l (wordsL p))
    have h2 := putWs_len (wordsL p) l
    unfold putLs at h1 ⊢
    rw [List.foldl_cons]; omega
theorem putLs_rows : ∀ (ps l : List ByteArray), putLs l ps = (ps.flatMap sent).foldl putWs l
  | [], l => rfl
  | p :: ps, l => by
    have ih := putLs_rows ps (putWs l (wordsL p))
    unfold putLs at ih ⊢
    rw [List.foldl_cons, ih, List.flatMap_cons, List.foldl_append]
    congr 1
    unfold sent
    split
    · rename_i h; rw [h]; rfl
    · rfl
theorem learn_rows (s : ByteArray) : learnL s = (allL s).foldl putWs mk3 := putLs_rows _ _
theorem line_words {s : ByteArray} : ∀ p ∈ linesL s, ∀ q ∈ wordsL p, q.size ≤ 255 := by
  intro p hp q hq
  have hne : wordsL p ≠ [] := fun e => by rw [e] at hq; simp at hq
  have hm : wordsL p ∈ allL s := List.mem_flatMap.2 ⟨p, hp, by unfold sent; rw [if_neg hne]; exact List.mem_singleton.2 rfl⟩
  exact ((all_right _ hm).2.2 q hq).2.1.2
structure LS where
  rest : List ByteArray
  l : List ByteArray
  ix : Int
section
variable {L L' : List HP} {w0 : World} {I : Foot}
theorem Learn_tr {s : ByteArray} {most : Int} (hs : s.size ≤ 1000000) :
    Tr Try.prog 83 #[.string s, .int .i64 most] (SL w0 I L) (fun x : Option Nat => .tuple #[.pointer (x.map fun V => ⟨V, 0, none⟩), .int .i64 (match x with | some _ => 0 | none => 12)])
      (fun x w => match x with | some V => ((learnL s).length : Int) ≤ min most 65536 ∧ SL w0 I (VocH V (learnL s) :: L) w | none => min most 65536 < ((learnL s).length : Int) ∧ SL w0 I L w) := by
  refine Tr.intro Try.func83 rfl Try.ntmps83 rfl ?_
  repeat' (first | ((first | refine WLA.m rfl rfl ?_ ?_ | refine WLA.st rfl ?_ ?_ | refine WLA.x rfl rfl ?_ (fun x => ?_) | refine WLA.x0 rfl ?_ (fun x => ?_)); first | exact trivial | exact rfl | assumption | omega | (refine ⟨?_, ?_⟩ <;> omega) | (simp only [Room, List.length_set, List.length_append, List.length_cons, List.length_nil, List.length_replicate]; omega) | decide | skip) | (refine Stp.go ?_) | (guard_target =~ WLA _ _ _ _ _ (⟨_, .call ⟨.value (.func 77), _, _⟩, _, _, _, _⟩ :: _) _ _; first | (refine WLA.call rfl rfl (New_trV) ?_; rintro V) | (refine WLA.call0 rfl (New_trV) ?_; rintro V)) | (guard_target =~ WLA _ _ _ _ _ (⟨_, .call ⟨.value (.func 121), _, _⟩, _, _, _, _⟩ :: _) _ _; first | (refine WLA.call rfl rfl (Lines_tr _ _) ?_; rintro bx) | (refine WLA.call0 rfl (Lines_tr _ _) ?_; rintro bx)) | (refine WPA.ifT ?_) | (refine WPA.ifF ?_) | ((first | refine WPA.dec ?_); first | refine .inl ⟨by first | assumption | omega | with_reducible rfl | (refine fun h => h ?_; first | assumption | with_reducible rfl) | (simp only [List.length_append, List.length_cons, List.length_nil, List.length_set] <;> omega) | decide, ?_⟩ | refine .inr ⟨by first | assumption | omega | with_reducible rfl | (refine fun h => h ?_; first | assumption | with_reducible rfl) | (simp only [List.length_append, List.length_cons, List.length_nil, List.length_set] <;> omega) | decide, ?_⟩) | ((first | refine WPA.ifBt ?_ ?_ | refine WPA.ifBnf ?_ ?_); assumption) | ((first | refine WPA.ifBnt ?_ ?_ | refine WPA.ifBf ?_ ?_); assumption) | ((first | refine WPA.ifs ?_ ?_ | refine WPA.ifB ?_ ?_) <;> intro hc))
  rename_i t3 t4 t5
  revert x; intro t6
  have hm : min most 65536 ≤ 65536 := by omega
  generalize min most 65536 = m at hm
  have hw := line_words (s := s)
  have hz := linesL_size hs
  have hll := linesL_len s
  have hfull : learnL s = putLs mk3 (linesL s) := rfl
  refine WPA.rangeS fun D rc hrc => ?_
  let C : LS → Prop := fun x => (putLs x.l x.rest = learnL s ∧ x.l.length ≤ 65536) ∧ (∀ p ∈ x.rest, p ∈ linesL s) ∧ (0 ≤ x.ix ∧ x.ix + x.rest.length ≤ 1000002)
  let Le : List ByteArray → Value → Int → List HP := fun l v e => Ob D (.deferred (some [])) :: Bk t3 3 [.int .i64 m] :: Bk t6 25 [.pointer (some ⟨V, 0, none⟩)] :: VocH V l :: Bk t5 26 [.int .i64 e] :: Bk t4 25 [v] :: L
  let Lk : LS → List HP := fun x => Ob (D + 1) (rc .ready none) :: Le x.l (.pointer none) 0
  refine ⟨Unit ⊕ { l : List ByteArray // m < ((learnL s).length : Int) }, fun _ => .tuple #[], fun y => match y with | .inl _ => .ready | .inr _ => .done, fun y => match y with | .inl _ => none | .inr _ => some .ret, fun y => match y with | .inl _ => Le (learnL s) (.pointer none) 0 | .inr l => Le l.1 (.pointer none) 12, ?_, ?_⟩
  · refine (Lines1_tr (w0 := w0) (I := I) (Bx := bx) (s := s) (ω := { l : List ByteArray // m < ((learnL s).length : Int) }) Lk LS.rest LS.ix C (fun l w => SL w0 I (Ob (D + 1) (rc .done (some .ret)) :: Le l.1 (.pointer none) 12) w) hs ?_ ?_ ⟨linesL s, mk3, 0⟩ ?_ rfl rfl).conv (fun w h => by dsimp only [Lk, Le]; exact h.to) ?_
    · rintro ⟨rest, l, ix⟩ ⟨-, -, h1, h2⟩
      dsimp only at h1 h2 ⊢
      omega
    · rintro ⟨rest, l, ix⟩ p tl ⟨⟨h1, h2⟩, h3, h4, h5⟩ hl
      dsimp only at hl h1 h2 h3 h4 h5
      subst hl
      rw [List.length_cons] at h5
      have hpm := h3 p (List.mem_cons_self ..)
      have hps := hz p hpm
      have hpw := hw p hpm
      have hwl := wordsL_len p
      have h1' : putLs (putWs l (wordsL p)) tl = learnL s := h1
      have hlen2 := putLs_len tl (putWs l (wordsL p))
      rw [h1'] at hlen2
      have hW : ∀ {L : List HP}, Tr Try.prog 122 #[.string p] (SL w0 I L) (fun r : SV => .slice r.a r.n r.cap) (fun r => SL w0 I (OwnS 9 r (wordsL p) :: L)) := Words_tr _ _ hps
      generalize wordsL p = ws at hpw hwl h1' hlen2 hW
      dsimp only [Lk, Le]
      refine (YTr.ofS (val := fun y : LS ⊕ { l : List ByteArray // m < ((learnL s).length : Int) } => y.isLeft) hrc (agreeP2 rfl rfl) rfl ?_)
      repeat' (first | ((first | refine WLA.m rfl rfl ?_ ?_ | refine WLA.st rfl ?_ ?_ | refine WLA.x rfl rfl ?_ (fun x => ?_) | refine WLA.x0 rfl ?_ (fun x => ?_)); first | exact trivial | exact rfl | assumption | omega | (refine ⟨?_, ?_⟩ <;> omega) | (simp only [Room, List.length_set, List.length_append, List.length_cons, List.length_nil, List.length_replicate]; omega) | decide | skip) | (refine Stp.go ?_) | (refine WPA.ifT ?_) | (refine WPA.ifF ?_) | ((first | refine WPA.dec ?_); first | refine .inl ⟨by first | assumption | omega | with_reducible rfl | (refine fun h => h ?_; first | assumption | with_reducible rfl) | (simp only [List.length_append, List.length_cons, List.length_nil, List.length_set] <;> omega) | decide, ?_⟩ | refine .inr ⟨by first | assumption | omega | with_reducible rfl | (refine fun h => h ?_; first | assumption | with_reducible rfl) | (simp only [List.length_append, List.length_cons, List.length_nil, List.length_set] <;> omega) | decide, ?_⟩) | ((first | refine WPA.ifBt ?_ ?_ | refine WPA.ifBnf ?_ ?_); assumption) | ((first | refine WPA.ifBnt ?_ ?_ | refine WPA.ifBf ?_ ?_); assumption) | ((first | refine WPA.ifs ?_ ?_ | refine WPA.ifB ?_ ?_) <;> intro hc))
      refine QQ.midS ?_
      repeat' (first | ((first | refine WLA.m rfl rfl ?_ ?_ | refine WLA.st rfl ?_ ?_ | refine WLA.x rfl rfl ?_ (fun x => ?_) | refine WLA.x0 rfl ?_ (fun x => ?_)); first | exact trivial | exact rfl | assumption | omega | (refine ⟨?_, ?_⟩ <;> omega) | (simp only [Room, List.length_set, List.length_append, List.length_cons, List.length_nil, List.length_replicate]; omega) | decide | skip) | (refine Stp.go ?_) | (guard_target =~ WLA _ _ _ _ _ (⟨_, .call ⟨.value (.func 122), _, _⟩, _, _, _, _⟩ :: _) _ _; first | (refine WLA.call rfl rfl (hW) ?_; rintro wr) | (refine WLA.call0 rfl (hW) ?_; rintro wr)) | (refine WPA.ifT ?_) | (refine WPA.ifF ?_) | ((first | refine WPA.dec ?_); first | refine .inl ⟨by first | assumption | omega | with_reducible rfl | (refine fun h => h ?_; first | assumption | with_reducible rfl) | (simp only [List.length_append, List.length_cons, List.length_nil, List.length_set] <;> omega) | decide, ?_⟩ | refine .inr ⟨by first | assumption | omega | with_reducible rfl | (refine fun h => h ?_; first | assumption | with_reducible rfl) | (simp only [List.length_append, List.length_cons, List.length_nil, List.length_set] <;> omega) | decide, ?_⟩) | ((first | refine WPA.ifBt ?_ ?_ | refine WPA.ifBnf ?_ ?_); assumption) | ((first | refine WPA.ifBnt ?_ ?_ | refine WPA.ifBf ?_ ?_); assumption) | ((first | refine WPA.ifs ?_ ?_ | refine WPA.ifB ?_ ?_) <;> intro hc))
      refine WPA.loopS (σ := Nat × List ByteArray) (fun y => [(3, .pointer (some ⟨t3, 0, none⟩)), (4, .pointer (some ⟨t4, 0, none⟩)), (5, .pointer (some ⟨t5, 0, none⟩)), (6, .pointer (some ⟨t6, 0, none⟩)), (19, .slice wr.a wr.n wr.cap), (20, .int .i64 ws.length), (21, .int .i64 y.1)])
        (fun y => y.1 ≤ ws.length ∧ putWs y.2 (ws.drop y.1) = putWs l ws ∧ y.2.length ≤ 65536)
        (fun y => SL w0 I (OwnS 9 wr ws :: Ob (D + 1) (rc .busy none) :: Bk bx 9 [.string s] :: Le y.2 (.pointer none) 0)) (fun y => ws.length - y.1) (0, l) ⟨rfl, rfl, rfl, rfl, rfl, rfl, rfl, trivial⟩ ⟨Nat.zero_le _, rfl, h2⟩ (fun w h => by dsimp only [Le]; exact h.to) ?_
      rintro ⟨j, l2⟩ ρ ⟨hj, hp2, hl2⟩
      dsimp only at hj hp2 hl2 ⊢
      dsimp only [Le]
      by_cases hlt : j < ws.length
      · have hlt' : (j : Int) < ws.length := by omega
        have hwj := hpw _ (List.getElem_mem hlt)
        rw [← at_nat ws j hlt] at hwj
        have hwj' : (at_ ws (j : Int)).size ≤ 140737488355328 := by omega
        have hfew : l2.length < 1000000000 := by omega
        rw [List.drop_eq_getElem_cons hlt, ← at_nat ws j hlt] at hp2
        have hp3 : putWs (putT l2 (at_ ws (j : Int))) (ws.drop (j + 1)) = putWs l ws := hp2
        have hlen3 := (putWs_len (ws.drop (j + 1)) (putT l2 (at_ ws (j : Int)))).1
        rw [hp3] at hlen3
        have hpl := putT_len l2 (at_ ws (j : Int))
        refine WPA.mono (fun w h => (EntC.out (L' := VocH V l2 :: OwnS 9 wr ws :: Ob (D + 1) (rc .busy none) :: Bk bx 9 [.string s] :: Ob D (.deferred (some [])) :: Bk t3 3 [.int .i64 m] :: Bk t6 25 [.pointer (some ⟨V, 0, none⟩)] :: Bk t5 26 [.int .i64 0] :: Bk t4 25 [.pointer none] :: L)).sl h) ?_
        refine WPA.opn fun T => ?_
        by_cases hbig : m < ((putT l2 (at_ ws (j : Int))).length : Int)
        · skip
          repeat' (first | ((first | refine WLA.m rfl rfl ?_ ?_ | refine WDQ.m rfl rfl ?_ ?_ | refine WLA.st rfl ?_ ?_ | refine WLA.x rfl rfl ?_ (fun x => ?_) | refine WLA.x0 rfl ?_ (fun x => ?_)); first | exact trivial | exact rfl | assumption | omega | (refine ⟨?_, ?_⟩ <;> omega) | (simp only [Room, List.length_set, List.length_append, List.length_cons, List.length_nil, List.length_replicate]; omega) | decide | skip) | (refine Stp.go ?_) | (guard_target =~ WLA _ _ _ _ _ (⟨_, .call ⟨.value (.func 80), _, _⟩, _, _, _, _⟩ :: _) _ _; first | (refine WLA.call rfl rfl (TPut_tr hwj' hfew) ?_; rintro ⟨⟩) | (refine WLA.call0 rfl (TPut_tr hwj' hfew) ?_; rintro ⟨⟩)) | (guard_target =~ WLA _ _ _ _ _ (⟨_, .call ⟨.value (.func 125), _, _⟩, _, _, _, _⟩ :: _) _ _; refine WLA.cq rfl rfl (Len_trV) ?_) | (refine WPA.ifT ?_) | (refine WPA.ifF ?_) | ((first | refine WPA.dec ?_); first | refine .inl ⟨by first | assumption | omega | with_reducible rfl | (refine fun h => h ?_; first | assumption | with_reducible rfl) | (simp only [List.length_append, List.length_cons, List.length_nil, List.length_set] <;> omega) | decide, ?_⟩ | refine .inr ⟨by first | assumption | omega | with_reducible rfl | (refine fun h => h ?_; first | assumption | with_reducible rfl) | (simp only [List.length_append, List.length_cons, List.length_nil, List.length_set] <;> omega) | decide, ?_⟩) | ((first | refine WPA.ifBt ?_ ?_ | refine WPA.ifBnf ?_ ?_); assumption) | ((first | refine WPA.ifBnt ?_ ?_ | refine WPA.ifBf ?_ ?_); assumption) | ((first | refine WPA.ifs ?_ ?_ | refine WPA.ifB ?_ ?_) <;> intro hc) | (guard_target =~ WPA _ _ _ (.region 9 _ true) _ _ _; refine WPA.drawT 3 (.q 0 (.q 1 (.q 2 .fin))) mixed ?_ ?_; kernel_rfl) | (refine WDA.finish (tl := [⟨_, _, _, _, _, _⟩]) rfl ?_) | (refine WDQ.see rfl ?_) | (guard_target =~ WDE _ _ _ _ _ _ _ ⟨_, .call ⟨.value (.func 80), _, _⟩, _, _, _, _⟩ _ _ _; refine WDE.call rfl rfl (TPut_tr hwj' hfew) ?_ ?_; (intro x w h; first | exact h | exact Ent.drop1.sl h | exact SL.unI h | exact SL.to h); rintro ⟨⟩) | (guard_target =~ WDW _ _ _ _ _ _ _ ⟨_, .call ⟨.value (.func 80), _, _⟩, _, _, _, _⟩ _ _ _; refine WDW.call rfl rfl (TPut_tr hwj' hfew) ?_; rintro ⟨⟩) | (guard_target =~ WDQ _ _ _ _ _ _ _ ⟨_, .call ⟨.value (.func 125), _, _⟩, _, _, _, _⟩ _ _ _; refine WDQ.cq rfl rfl (Len_trV) ?_))
          exact QQ.rndR (fun w h => ⟨.inr ⟨putT l2 (at_ ws (j : Int)), by omega⟩, rfl, by dsimp only [Le]; exact h.to⟩)
        · skip
          repeat' (first | ((first | refine WLA.m rfl rfl ?_ ?_ | refine WDQ.m rfl rfl ?_ ?_ | refine WLA.st rfl ?_ ?_ | refine WLA.x rfl rfl ?_ (fun x => ?_) | refine WLA.x0 rfl ?_ (fun x => ?_)); first | exact trivial | exact rfl | assumption | omega | (refine ⟨?_, ?_⟩ <;> omega) | (simp only [Room, List.length_set, List.length_append, List.length_cons, List.length_nil, List.length_replicate]; omega) | decide | skip) | (refine Stp.go ?_) | (guard_target =~ WLA _ _ _ _ _ (⟨_, .call ⟨.value (.func 80), _, _⟩, _, _, _, _⟩ :: _) _ _; first | (refine WLA.call rfl rfl (TPut_tr hwj' hfew) ?_; rintro ⟨⟩) | (refine WLA.call0 rfl (TPut_tr hwj' hfew) ?_; rintro ⟨⟩)) | (guard_target =~ WLA _ _ _ _ _ (⟨_, .call ⟨.value (.func 125), _, _⟩, _, _, _, _⟩ :: _) _ _; refine WLA.cq rfl rfl (Len_trV) ?_) | (refine WPA.ifT ?_) | (refine WPA.ifF ?_) | ((first | refine WPA.dec ?_); first | refine .inl ⟨by first | assumption | omega | with_reducible rfl | (refine fun h => h ?_; first | assumption | with_reducible rfl) | (simp only [List.length_append, List.length_cons, List.length_nil, List.length_set] <;> omega) | decide, ?_⟩ | refine .inr ⟨by first | assumption | omega | with_reducible rfl | (refine fun h => h ?_; first | assumption | with_reducible rfl) | (simp only [List.length_append, List.length_cons, List.length_nil, List.length_set] <;> omega) | decide, ?_⟩) | ((first | refine WPA.ifBt ?_ ?_ | refine WPA.ifBnf ?_ ?_); assumption) | ((first | refine WPA.ifBnt ?_ ?_ | refine WPA.ifBf ?_ ?_); assumption) | ((first | refine WPA.ifs ?_ ?_ | refine WPA.ifB ?_ ?_) <;> intro hc) | (guard_target =~ WPA _ _ _ (.region 9 _ true) _ _ _; refine WPA.drawT 3 (.q 0 (.q 1 (.q 2 .fin))) mixed ?_ ?_; kernel_rfl) | (refine WDA.finish (tl := [⟨_, _, _, _, _, _⟩]) rfl ?_) | (refine WDQ.see rfl ?_) | (guard_target =~ WDE _ _ _ _ _ _ _ ⟨_, .call ⟨.value (.func 80), _, _⟩, _, _, _, _⟩ _ _ _; refine WDE.call rfl rfl (TPut_tr hwj' hfew) ?_ ?_; (intro x w h; first | exact h | exact Ent.drop1.sl h | exact SL.unI h | exact SL.to h); rintro ⟨⟩) | (guard_target =~ WDW _ _ _ _ _ _ _ ⟨_, .call ⟨.value (.func 80), _, _⟩, _, _, _, _⟩ _ _ _; refine WDW.call rfl rfl (TPut_tr hwj' hfew) ?_; rintro ⟨⟩) | (guard_target =~ WDQ _ _ _ _ _ _ _ ⟨_, .call ⟨.value (.func 125), _, _⟩, _, _, _, _⟩ _ _ _; refine WDQ.cq rfl rfl (Len_trV) ?_))
          exact QQ.loopS (j + 1, putT l2 (at_ ws (j : Int))) ⟨rfl, rfl, rfl, rfl, rfl, rfl, rfl, trivial⟩ ⟨hlt, hp3, by dsimp only; omega⟩ (by dsimp only; omega) (fun w h => by dsimp only; exact h.to)
      · have hlt' : ¬ (j : Int) < ws.length := by omega
        rw [List.drop_of_length_le (by omega)] at hp2
        have hp2 : l2 = putWs l ws := hp2
        subst hp2
        repeat' (first | ((first | refine WLA.m rfl rfl ?_ ?_ | refine WDQ.m rfl rfl ?_ ?_ | refine WDP.m rfl rfl ?_ ?_ | refine WLA.st rfl ?_ ?_ | refine WLA.x rfl rfl ?_ (fun x => ?_) | refine WLA.x0 rfl ?_ (fun x => ?_) | refine WDW.x rfl rfl ?_ (fun x => ?_) | refine WDW.st rfl ?_ ?_); first | exact trivial | exact rfl | assumption | omega | (refine ⟨?_, ?_⟩ <;> omega) | (simp only [Room, List.length_set, List.length_append, List.length_cons, List.length_nil, List.length_replicate]; omega) | decide | skip) | (refine Stp.go ?_) | (refine WPA.ifT ?_) | (refine WPA.ifF ?_) | ((first | refine WPA.dec ?_); first | refine .inl ⟨by first | assumption | omega | with_reducible rfl | (refine fun h => h ?_; first | assumption | with_reducible rfl) | (simp only [List.length_append, List.length_cons, List.length_nil, List.length_set] <;> omega) | decide, ?_⟩ | refine .inr ⟨by first | assumption | omega | with_reducible rfl | (refine fun h => h ?_; first | assumption | with_reducible rfl) | (simp only [List.length_append, List.length_cons, List.length_nil, List.length_set] <;> omega) | decide, ?_⟩) | ((first | refine WPA.ifBt ?_ ?_ | refine WPA.ifBnf ?_ ?_); assumption) | ((first | refine WPA.ifBnt ?_ ?_ | refine WPA.ifBf ?_ ?_); assumption) | ((first | refine WPA.ifs ?_ ?_ | refine WPA.ifB ?_ ?_) <;> intro hc) | (guard_target =~ WPA _ _ _ (.region 9 _ true) _ _ _; refine WPA.drawT 3 (.q 0 (.p 2 (.w 1 .fin))) mixed ?_ ?_; kernel_rfl) | (refine WDA.finish (tl := [⟨_, _, _, _, _, _⟩]) rfl ?_) | (refine WDQ.see rfl ?_) | (refine WDP.see rfl ?_) | (refine WDW.see rfl ?_))
        exact QQ.rndN (fun w h => ⟨.inl ⟨tl, putWs l ws, ix + 1⟩, rfl, ⟨⟨⟨h1', hl2⟩, fun q hq => h3 q (List.mem_cons_of_mem _ hq), by dsimp only; omega, by dsimp only; omega⟩, rfl, rfl⟩, by dsimp only [Lk, Le]; exact h.to⟩)
    · exact ⟨⟨hfull.symm, by show mk3.length ≤ 65536; decide⟩, fun p hp => hp, by dsimp only; omega⟩
    · rintro (⟨rest, l, ix⟩ | l) w hb
      · refine ⟨.inl (), rfl, ?_⟩
        obtain ⟨⟨⟨⟨h1, h2⟩, h3⟩, hl⟩, h⟩ := hb
        dsimp only at h1 hl
        subst hl
        have h1 : l = learnL s := h1
        subst h1
        dsimp only [Lk, Le] at h ⊢
        exact h.to
      · exact ⟨.inr l, rfl, hb⟩
  · rintro (⟨⟩ | ⟨l, hl⟩) <;> refine ⟨by simp, ?_⟩
    · show QQ _ _ _ _
      dsimp only [Le]
      by_cases hbig : m < ((learnL s).length : Int)
      · skip
        repeat' (first | ((first | refine WLA.m rfl rfl ?_ ?_ | refine WDQ.m rfl rfl ?_ ?_ | refine WLA.st rfl ?_ ?_ | refine WLA.x rfl rfl ?_ (fun x => ?_) | refine WLA.x0 rfl ?_ (fun x => ?_)); first | exact trivial | exact rfl | assumption | omega | (refine ⟨?_, ?_⟩ <;> omega) | (simp only [Room, List.length_set, List.length_append, List.length_cons, List.length_nil, List.length_replicate]; omega) | decide | skip) | (refine Stp.go ?_) | (guard_target =~ WLA _ _ _ _ _ (⟨_, .call ⟨.value (.func 125), _, _⟩, _, _, _, _⟩ :: _) _ _; refine WLA.cq rfl rfl (Len_trV) ?_) | (refine WPA.ifT ?_) | (refine WPA.ifF ?_) | ((first | refine WPA.dec ?_); first | refine .inl ⟨by first | assumption | omega | with_reducible rfl | (refine fun h => h ?_; first | assumption | with_reducible rfl) | (simp only [List.length_append, List.length_cons, List.length_nil, List.length_set] <;> omega) | decide, ?_⟩ | refine .inr ⟨by first | assumption | omega | with_reducible rfl | (refine fun h => h ?_; first | assumption | with_reducible rfl) | (simp only [List.length_append, List.length_cons, List.length_nil, List.length_set] <;> omega) | decide, ?_⟩) | ((first | refine WPA.ifBt ?_ ?_ | refine WPA.ifBnf ?_ ?_); assumption) | ((first | refine WPA.ifBnt ?_ ?_ | refine WPA.ifBf ?_ ?_); assumption) | ((first | refine WPA.ifs ?_ ?_ | refine WPA.ifB ?_ ?_) <;> intro hc) | (guard_target =~ WPA _ _ _ (.region 12 _ true) _ _ _; refine WPA.drawT 3 (.q 0 (.q 1 (.q 2 .fin))) mixed ?_ ?_; kernel_rfl) | (refine WDA.finish (tl := [⟨_, _, _, _, _, _⟩]) rfl ?_) | (refine WDQ.see rfl ?_) | (guard_target =~ WDQ _ _ _ _ _ _ _ ⟨_, .call ⟨.value (.func 125), _, _⟩, _, _, _, _⟩ _ _ _; refine WDQ.cq rfl rfl (Len_trV) ?_))
        exact QQ.fin [D] (L' := Bk t5 26 [.int .i64 12] :: Bk t4 25 [.pointer none] :: L) rfl (EntC.out (L' := Ob D (.deferred (some [])) :: Bk t5 26 [.int .i64 12] :: Bk t4 25 [.pointer none] :: L)) rfl none rfl fun w h => ⟨hbig, h.to⟩
      · skip
        repeat' (first | ((first | refine WLA.m rfl rfl ?_ ?_ | refine WDQ.m rfl rfl ?_ ?_ | refine WLA.st rfl ?_ ?_ | refine WLA.x rfl rfl ?_ (fun x => ?_) | refine WLA.x0 rfl ?_ (fun x => ?_)); first | exact trivial | exact rfl | assumption | omega | (refine ⟨?_, ?_⟩ <;> omega) | (simp only [Room, List.length_set, List.length_append, List.length_cons, List.length_nil, List.length_replicate]; omega) | decide | skip) | (refine Stp.go ?_) | (guard_target =~ WLA _ _ _ _ _ (⟨_, .call ⟨.value (.func 125), _, _⟩, _, _, _, _⟩ :: _) _ _; refine WLA.cq rfl rfl (Len_trV) ?_) | (refine WPA.ifT ?_) | (refine WPA.ifF ?_) | ((first | refine WPA.dec ?_); first | refine .inl ⟨by first | assumption | omega | with_reducible rfl | (refine fun h => h ?_; first | assumption | with_reducible rfl) | (simp only [List.length_append, List.length_cons, List.length_nil, List.length_set] <;> omega) | decide, ?_⟩ | refine .inr ⟨by first | assumption | omega | with_reducible rfl | (refine fun h => h ?_; first | assumption | with_reducible rfl) | (simp only [List.length_append, List.length_cons, List.length_nil, List.length_set] <;> omega) | decide, ?_⟩) | ((first | refine WPA.ifBt ?_ ?_ | refine WPA.ifBnf ?_ ?_); assumption) | ((first | refine WPA.ifBnt ?_ ?_ | refine WPA.ifBf ?_ ?_); assumption) | ((first | refine WPA.ifs ?_ ?_ | refine WPA.ifB ?_ ?_) <;> intro hc) | (guard_target =~ WPA _ _ _ (.region 12 _ true) _ _ _; refine WPA.drawT 3 (.q 0 (.q 1 (.q 2 .fin))) mixed ?_ ?_; kernel_rfl) | (refine WDA.finish (tl := [⟨_, _, _, _, _, _⟩]) rfl ?_) | (refine WDQ.see rfl ?_) | (guard_target =~ WDQ _ _ _ _ _ _ _ ⟨_, .call ⟨.value (.func 125), _, _⟩, _, _, _, _⟩ _ _ _; refine WDQ.cq rfl rfl (Len_trV) ?_))
        exact QQ.fin [D] (L' := Bk t5 26 [.int .i64 0] :: Bk t4 25 [.pointer (some ⟨V, 0, none⟩)] :: VocH V (learnL s) :: L) rfl (EntC.out (L' := Ob D (.deferred (some [])) :: Bk t5 26 [.int .i64 0] :: Bk t4 25 [.pointer (some ⟨V, 0, none⟩)] :: VocH V (learnL s) :: L)) rfl (some V) rfl fun w h => ⟨by omega, h.to⟩
    · show QQ _ _ _ _
      dsimp only [Le]
      repeat' (first | ((first | refine WLA.m rfl rfl ?_ ?_ | refine WDQ.m rfl rfl ?_ ?_ | refine WDP.m rfl rfl ?_ ?_ | refine WLA.st rfl ?_ ?_ | refine WLA.x rfl rfl ?_ (fun x => ?_) | refine WLA.x0 rfl ?_ (fun x => ?_) | refine WDW.x rfl rfl ?_ (fun x => ?_) | refine WDW.st rfl ?_ ?_); first | exact trivial | exact rfl | assumption | omega | (refine ⟨?_, ?_⟩ <;> omega) | (simp only [Room, List.length_set, List.length_append, List.length_cons, List.length_nil, List.length_replicate]; omega) | decide | skip) | (refine Stp.go ?_) | (refine WPA.ifT ?_) | (refine WPA.ifF ?_) | ((first | refine WPA.dec ?_); first | refine .inl ⟨by first | assumption | omega | with_reducible rfl | (refine fun h => h ?_; first | assumption | with_reducible rfl) | (simp only [List.length_append, List.length_cons, List.length_nil, List.length_set] <;> omega) | decide, ?_⟩ | refine .inr ⟨by first | assumption | omega | with_reducible rfl | (refine fun h => h ?_; first | assumption | with_reducible rfl) | (simp only [List.length_append, List.length_cons, List.length_nil, List.length_set] <;> omega) | decide, ?_⟩) | ((first | refine WPA.ifBt ?_ ?_ | refine WPA.ifBnf ?_ ?_); assumption) | ((first | refine WPA.ifBnt ?_ ?_ | refine WPA.ifBf ?_ ?_); assumption) | ((first | refine WPA.ifs ?_ ?_ | refine WPA.ifB ?_ ?_) <;> intro hc) | (guard_target =~ WPA _ _ _ (.region 12 _ true) _ _ _; refine WPA.drawT 3 (.q 0 (.p 2 (.w 1 .fin))) mixed ?_ ?_; kernel_rfl) | (refine WDA.finish (tl := [⟨_, _, _, _, _, _⟩]) rfl ?_) | (refine WDQ.see rfl ?_) | (refine WDP.see rfl ?_) | (refine WDW.see rfl ?_))
      exact QQ.fin [D] (L' := Bk t5 26 [.int .i64 12] :: Bk t4 25 [.pointer none] :: L) rfl (EntC.out (L' := Ob D (.deferred (some [])) :: Bk t5 26 [.int .i64 12] :: Bk t4 25 [.pointer none] :: L)) rfl none rfl fun w h => ⟨hl, h.to⟩
end
end Go.Proofs.Ytlodbajaoadhdaa
