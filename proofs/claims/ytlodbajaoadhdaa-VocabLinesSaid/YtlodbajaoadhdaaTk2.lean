/- Words: the program's. Conditions: none. -/
import Derived.Test.YtlodbajaoadhdaaTk1
namespace Go.Proofs.Ytlodbajaoadhdaa
open Go Go.Fw Go.RowKit
set_option linter.unusedVariables false
set_option linter.unusedSimpArgs false
set_option maxRecDepth 100000
set_option maxHeartbeats 16000000
set_option synthInstance.maxHeartbeats 200000
set_option synthInstance.maxSize 100000
attribute [local irreducible] WPA WLA WDA WDQ WDE QQ seqQ blockQ loopQ fnQ OpP OpT Tr TrP SL SLd OwnS LitS Bk BkE Ob

/-- What becomes of a piece. -/
def unk : ByteArray := ⟨#[60, 117, 110, 107, 62]⟩
def wd (p : ByteArray) : List ByteArray := if MarkP p then [] else if 255 < p.size then [⟨#[60, 117, 110, 107, 62]⟩] else [p]
def wordsL (s : ByteArray) : List ByteArray := (pcs s 0 (s.size + 1)).flatMap wd
theorem pcs_len (s : ByteArray) : ∀ (k f : Nat), (pcs s f k).length ≤ k
  | 0, f => Nat.le_refl _
  | k + 1, f => by
    unfold pcs
    have h1 := pcs_len s k f
    have h2 := pcs_len s k (s.size - k + 1)
    split
    · omega
    · split
      · rw [List.length_cons]; omega
      · omega
theorem wd_len (p : ByteArray) : (wd p).length ≤ 1 := by
  unfold wd; split
  · simp
  · split <;> simp
/-- The pieces to come, the words so far, their slice. -/
structure WS where
  rest : List ByteArray
  out : List ByteArray
  r : SV
theorem Words_tr {s : ByteArray} {L : List HP} (w0 : World) (I : Foot) (hs : s.size ≤ 1000000) : Tr Try.prog 122 #[.string s] (SL w0 I L) (fun r : SV => .slice r.a r.n r.cap) (fun r => SL w0 I (OwnS 9 r (wordsL s) :: L)) := by
  refine Tr.intro Try.func122 rfl Try.ntmps122 rfl ?_
  repeat' (first | ((first | refine WLA.m rfl rfl ?_ ?_ | refine WLA.st rfl ?_ ?_ | refine WLA.x rfl rfl ?_ (fun x => ?_) | refine WLA.x0 rfl ?_ (fun x => ?_)); first | exact trivial | exact rfl | assumption | omega | (refine ⟨?_, ?_⟩ <;> omega) | (simp only [Room, List.length_set, List.length_append, List.length_cons, List.length_nil, List.length_replicate]; omega) | decide | skip) | (refine Stp.go ?_) | (guard_target =~ WLA _ _ _ _ _ (⟨_, .call ⟨.value (.func 148), _, _⟩, _, _, _, _⟩ :: _) _ _; first | (refine WLA.call rfl rfl (pieces_tr _ _) ?_; rintro bx) | (refine WLA.call0 rfl (pieces_tr _ _) ?_; rintro bx)) | (refine WPA.ifT ?_) | (refine WPA.ifF ?_) | ((first | refine WPA.dec ?_); first | refine .inl ⟨by first | assumption | omega | with_reducible rfl | (refine fun h => h ?_; first | assumption | with_reducible rfl) | (simp only [List.length_append, List.length_cons, List.length_nil, List.length_set] <;> omega) | decide, ?_⟩ | refine .inr ⟨by first | assumption | omega | with_reducible rfl | (refine fun h => h ?_; first | assumption | with_reducible rfl) | (simp only [List.length_append, List.length_cons, List.length_nil, List.length_set] <;> omega) | decide, ?_⟩) | ((first | refine WPA.ifBt ?_ ?_ | refine WPA.ifBnf ?_ ?_); assumption) | ((first | refine WPA.ifBnt ?_ ?_ | refine WPA.ifBf ?_ ?_); assumption) | ((first | refine WPA.ifs ?_ ?_ | refine WPA.ifB ?_ ?_) <;> intro hc))
  revert x; intro t3
  refine WPA.rangeS fun D rc hrc => ?_
  let C : WS → Prop := fun x => x.out ++ x.rest.flatMap wd = wordsL s ∧ x.out.length + x.rest.length ≤ s.size + 1
  let Lk : WS → List HP := fun x => Ob (D + 1) (rc .ready none) :: Ob D (.deferred (some [])) :: Bk t3 22 [.slice x.r.a x.r.n x.r.cap] :: OwnS 9 x.r x.out :: L
  refine ⟨{x : WS // C x ∧ x.rest = []}, fun _ => .tuple #[], fun _ => .ready, fun _ => none, fun x => Ob D (.deferred (some [])) :: Bk t3 22 [.slice x.1.r.a x.1.r.n x.1.r.cap] :: OwnS 9 x.1.r x.1.out :: L, ?_, ?_⟩
  · refine (pieces1_tr (w0 := w0) (I := I) (Bx := bx) (s := s) (ω := Empty) Lk WS.rest C (fun z _ => z.elim) (by omega) ?_ ⟨pcs s 0 (s.size + 1), [], SV.nil⟩ ⟨by simp [wordsL], by have := pcs_len s (s.size + 1) 0; simpa using this⟩ rfl).conv (fun w h => ?_) ?_
    · rintro ⟨rest, out, r⟩ p tl ⟨hC1, hC2⟩ hl
      dsimp only at hl hC1 hC2
      subst hl
      dsimp only [Lk]
      rw [List.length_cons] at hC2
      rw [List.flatMap_cons] at hC1
      refine (YTr.ofS (val := fun y : WS ⊕ Empty => y.isLeft) hrc (agreeP rfl) rfl ?_)
      repeat' (first | ((first | refine WLA.m rfl rfl ?_ ?_ | refine WLA.st rfl ?_ ?_ | refine WLA.x rfl rfl ?_ (fun x => ?_) | refine WLA.x0 rfl ?_ (fun x => ?_)); first | exact trivial | exact rfl | assumption | omega | (refine ⟨?_, ?_⟩ <;> omega) | (simp only [Room, List.length_set, List.length_append, List.length_cons, List.length_nil, List.length_replicate]; omega) | decide | skip) | (refine Stp.go ?_) | (refine WPA.ifT ?_) | (refine WPA.ifF ?_) | ((first | refine WPA.dec ?_); first | refine .inl ⟨by first | assumption | omega | with_reducible rfl | (refine fun h => h ?_; first | assumption | with_reducible rfl) | (simp only [List.length_append, List.length_cons, List.length_nil, List.length_set] <;> omega) | decide, ?_⟩ | refine .inr ⟨by first | assumption | omega | with_reducible rfl | (refine fun h => h ?_; first | assumption | with_reducible rfl) | (simp only [List.length_append, List.length_cons, List.length_nil, List.length_set] <;> omega) | decide, ?_⟩) | ((first | refine WPA.ifBt ?_ ?_ | refine WPA.ifBnf ?_ ?_); assumption) | ((first | refine WPA.ifBnt ?_ ?_ | refine WPA.ifBf ?_ ?_); assumption) | ((first | refine WPA.ifs ?_ ?_ | refine WPA.ifB ?_ ?_) <;> intro hc))
      refine QQ.midS ?_
      by_cases hm : MarkP p
      · have hw : wd p = [] := if_pos hm
        have hd : decide (MarkP p) = true := decide_eq_true hm
        repeat' (first | ((first | refine WLA.m rfl rfl ?_ ?_ | refine WLA.st rfl ?_ ?_ | refine WLA.x rfl rfl ?_ (fun x => ?_) | refine WLA.x0 rfl ?_ (fun x => ?_)); first | exact trivial | exact rfl | assumption | omega | (refine ⟨?_, ?_⟩ <;> omega) | (simp only [Room, List.length_set, List.length_append, List.length_cons, List.length_nil, List.length_replicate]; omega) | decide | skip) | (refine Stp.go ?_) | (guard_target =~ WLA _ _ _ _ _ (⟨_, .call ⟨.value (.func 118), _, _⟩, _, _, _, _⟩ :: _) _ _; refine WLA.cq rfl rfl (Mark_tr) ?_) | (refine WPA.ifT ?_) | (refine WPA.ifF ?_) | ((first | refine WPA.dec ?_); first | refine .inl ⟨by first | assumption | omega | with_reducible rfl | (refine fun h => h ?_; first | assumption | with_reducible rfl) | (simp only [List.length_append, List.length_cons, List.length_nil, List.length_set] <;> omega) | decide, ?_⟩ | refine .inr ⟨by first | assumption | omega | with_reducible rfl | (refine fun h => h ?_; first | assumption | with_reducible rfl) | (simp only [List.length_append, List.length_cons, List.length_nil, List.length_set] <;> omega) | decide, ?_⟩) | ((first | refine WPA.ifBt ?_ ?_ | refine WPA.ifBnf ?_ ?_); assumption) | ((first | refine WPA.ifBnt ?_ ?_ | refine WPA.ifBf ?_ ?_); assumption) | ((first | refine WPA.ifs ?_ ?_ | refine WPA.ifB ?_ ?_) <;> intro hc))
        exact QQ.rndN (fun w h => ⟨.inl ⟨tl, out, r⟩, rfl, ⟨⟨by rw [hw] at hC1; simpa using hC1, by dsimp only; (try simp only [List.length_append, List.length_singleton]); omega⟩, rfl⟩, h.to⟩)
      · by_cases hb : (255 : Int) < p.size
        · have hw : wd p = [⟨#[60, 117, 110, 107, 62]⟩] := by unfold wd; rw [if_neg hm, if_pos (by omega)]
          have hd : decide (MarkP p) = false := decide_eq_false hm
          repeat' (first | ((first | refine WLA.m rfl rfl ?_ ?_ | refine WLA.st rfl ?_ ?_ | refine WLA.x rfl rfl ?_ (fun x => ?_) | refine WLA.x0 rfl ?_ (fun x => ?_)); first | exact trivial | exact rfl | assumption | omega | (refine ⟨?_, ?_⟩ <;> omega) | (simp only [Room, List.length_set, List.length_append, List.length_cons, List.length_nil, List.length_replicate]; omega) | decide | skip) | (refine Stp.go ?_) | (guard_target =~ WLA _ _ _ _ _ (⟨_, .call ⟨.value (.func 118), _, _⟩, _, _, _, _⟩ :: _) _ _; refine WLA.cq rfl rfl (Mark_tr) ?_) | (refine WPA.ifT ?_) | (refine WPA.ifF ?_) | ((first | refine WPA.dec ?_); first | refine .inl ⟨by first | assumption | omega | with_reducible rfl | (refine fun h => h ?_; first | assumption | with_reducible rfl) | (simp only [List.length_append, List.length_cons, List.length_nil, List.length_set] <;> omega) | decide, ?_⟩ | refine .inr ⟨by first | assumption | omega | with_reducible rfl | (refine fun h => h ?_; first | assumption | with_reducible rfl) | (simp only [List.length_append, List.length_cons, List.length_nil, List.length_set] <;> omega) | decide, ?_⟩) | ((first | refine WPA.ifBt ?_ ?_ | refine WPA.ifBnf ?_ ?_); assumption) | ((first | refine WPA.ifBnt ?_ ?_ | refine WPA.ifBf ?_ ?_); assumption) | ((first | refine WPA.ifs ?_ ?_ | refine WPA.ifB ?_ ?_) <;> intro hc))
          exact QQ.rndN (fun w h => ⟨.inl ⟨tl, out ++ [⟨#[60, 117, 110, 107, 62]⟩], x⟩, rfl, ⟨⟨by rw [hw] at hC1; simpa using hC1, by dsimp only; (try simp only [List.length_append, List.length_singleton]); omega⟩, rfl⟩, h.to⟩)
        · have hw : wd p = [p] := by unfold wd; rw [if_neg hm, if_neg (by omega)]
          have hd : decide (MarkP p) = false := decide_eq_false hm
          repeat' (first | ((first | refine WLA.m rfl rfl ?_ ?_ | refine WLA.st rfl ?_ ?_ | refine WLA.x rfl rfl ?_ (fun x => ?_) | refine WLA.x0 rfl ?_ (fun x => ?_)); first | exact trivial | exact rfl | assumption | omega | (refine ⟨?_, ?_⟩ <;> omega) | (simp only [Room, List.length_set, List.length_append, List.length_cons, List.length_nil, List.length_replicate]; omega) | decide | skip) | (refine Stp.go ?_) | (guard_target =~ WLA _ _ _ _ _ (⟨_, .call ⟨.value (.func 118), _, _⟩, _, _, _, _⟩ :: _) _ _; refine WLA.cq rfl rfl (Mark_tr) ?_) | (refine WPA.ifT ?_) | (refine WPA.ifF ?_) | ((first | refine WPA.dec ?_); first | refine .inl ⟨by first | assumption | omega | with_reducible rfl | (refine fun h => h ?_; first | assumption | with_reducible rfl) | (simp only [List.length_append, List.length_cons, List.length_nil, List.length_set] <;> omega) | decide, ?_⟩ | refine .inr ⟨by first | assumption | omega | with_reducible rfl | (refine fun h => h ?_; first | assumption | with_reducible rfl) | (simp only [List.length_append, List.length_cons, List.length_nil, List.length_set] <;> omega) | decide, ?_⟩) | ((first | refine WPA.ifBt ?_ ?_ | refine WPA.ifBnf ?_ ?_); assumption) | ((first | refine WPA.ifBnt ?_ ?_ | refine WPA.ifBf ?_ ?_); assumption) | ((first | refine WPA.ifs ?_ ?_ | refine WPA.ifB ?_ ?_) <;> intro hc))
          exact QQ.rndN (fun w h => ⟨.inl ⟨tl, out ++ [p], x⟩, rfl, ⟨⟨by rw [hw] at hC1; simpa using hC1, by dsimp only; (try simp only [List.length_append, List.length_singleton]); omega⟩, rfl⟩, h.to⟩)
    · dsimp only [Lk]
      have h2 : SL w0 I (Ob (D + 1) (rc .ready none) :: Ob D (.deferred (some [])) :: Bk bx 9 [.string s] :: Bk t3 22 [.slice SV.nil.a SV.nil.n SV.nil.cap] :: L) w := h
      exact h2.to
    · rintro (x | x) w hb
      · refine ⟨⟨x, hb.1⟩, rfl, ?_⟩
        have h := hb.2
        dsimp only [Lk] at h ⊢
        exact h.to
      · exact x.elim
  · rintro ⟨⟨rest, out, r⟩, ⟨hC1, hC2⟩, hl⟩
    dsimp only at hC1 hC2 hl ⊢
    subst hl
    refine ⟨by simp, ?_⟩
    show QQ _ _ _ _
    repeat' (first | ((first | refine WLA.m rfl rfl ?_ ?_ | refine WLA.st rfl ?_ ?_ | refine WLA.x rfl rfl ?_ (fun x => ?_) | refine WLA.x0 rfl ?_ (fun x => ?_)); first | exact trivial | exact rfl | assumption | omega | (refine ⟨?_, ?_⟩ <;> omega) | (simp only [Room, List.length_set, List.length_append, List.length_cons, List.length_nil, List.length_replicate]; omega) | decide | skip) | (refine Stp.go ?_) | (refine WPA.ifT ?_) | (refine WPA.ifF ?_) | ((first | refine WPA.dec ?_); first | refine .inl ⟨by first | assumption | omega | with_reducible rfl | (refine fun h => h ?_; first | assumption | with_reducible rfl) | (simp only [List.length_append, List.length_cons, List.length_nil, List.length_set] <;> omega) | decide, ?_⟩ | refine .inr ⟨by first | assumption | omega | with_reducible rfl | (refine fun h => h ?_; first | assumption | with_reducible rfl) | (simp only [List.length_append, List.length_cons, List.length_nil, List.length_set] <;> omega) | decide, ?_⟩) | ((first | refine WPA.ifBt ?_ ?_ | refine WPA.ifBnf ?_ ?_); assumption) | ((first | refine WPA.ifBnt ?_ ?_ | refine WPA.ifBf ?_ ?_); assumption) | ((first | refine WPA.ifs ?_ ?_ | refine WPA.ifB ?_ ?_) <;> intro hc))
    rw [List.flatMap_nil, List.append_nil] at hC1
    rw [hC1]
    exact QQ.fin [D] (L' := OwnS 9 r (wordsL s) :: L) rfl (EntC.out (L' := Ob D (.deferred (some [])) :: OwnS 9 r (wordsL s) :: L)) rfl r rfl fun w h => h
end Go.Proofs.Ytlodbajaoadhdaa
