/- Sentences: All. Conditions: none. -/
import Derived.Test.YtlodbajaoadhdaaTk5
namespace Go.Fw
open Go Go.RowKit
/-- A row of slices of texts, each held alone. -/
def RowsH (e : TypeId) : List SV → List (List ByteArray) → HP
  | s :: ss, t :: ts => star (OwnS e s t) (RowsH e ss ts)
  | _, _ => fun R => R = []
theorem RowsH.snoc {e : TypeId} {s : SV} {t : List ByteArray} : ∀ {ss : List SV} {ts : List (List ByteArray)} {L : List HP}, ss.length = ts.length → Ent (OwnS e s t :: RowsH e ss ts :: L) (RowsH e (ss ++ [s]) (ts ++ [t]) :: L)
  | [], [], L, _ => Ent.star (Ent.cons Ent.drop1 |>.trans (Ent.cons (Ent.intro1 (p := RowsH e [] []) rfl)))
  | s1 :: ss, t1 :: ts, L, h => by
    simp only [List.cons_append, RowsH]
    refine (Ent.cons Ent.unstar).trans (Ent.swap.trans ?_)
    refine (Ent.cons (RowsH.snoc (by simpa using h))).trans ?_
    exact Ent.star Ent.refl
  | [], t1 :: ts, L, h => by simp at h
  | s1 :: ss, [], L, h => by simp at h
theorem RowsH.nil {e : TypeId} {L : List HP} : Ent L (RowsH e [] [] :: L) := Ent.intro1 rfl
theorem RowsH.frozen {e : TypeId} : ∀ {ss : List SV} {ts : List (List ByteArray)} {R : Foot}, RowsH e ss ts R → ∀ i, i < ss.length → i < ts.length → SlI R (ss.getD i SV.nil) ByteArray inferInstance (ts.getD i [])
  | s :: ss, t :: ts, R, h, 0, _, _ => by
    obtain ⟨R1, R2, h1, h2, rfl⟩ := h
    have := SlI.ofOwn h1
    simp only [List.getD_cons_zero]
    exact SlI.left
  | s :: ss, t :: ts, R, h, i + 1, hi, hj => by
    obtain ⟨R1, R2, h1, h2, rfl⟩ := h
    have := RowsH.frozen h2 i (by simpa using hi) (by simpa using hj)
    simp only [List.getD_cons_succ]
    exact SlI.right
end Go.Fw
namespace Go.Proofs.Ytlodbajaoadhdaa
open Go Go.Fw Go.RowKit
set_option linter.unusedVariables false
set_option linter.unusedSimpArgs false
set_option maxRecDepth 100000
set_option maxHeartbeats 16000000
set_option synthInstance.maxHeartbeats 200000
set_option synthInstance.maxSize 100000
attribute [local irreducible] WPA WLA WDA WDQ WDE QQ seqQ blockQ loopQ fnQ OpP OpT Tr TrP SL SLd OwnS LitS Bk BkE Ob
attribute [local irreducible] RowsH

def sent (p : ByteArray) : List (List ByteArray) := if wordsL p = [] then [] else [wordsL p]
def allL (s : ByteArray) : List (List ByteArray) := (linesL s).flatMap sent
theorem lns_size {s : ByteArray} : ∀ (k f : Nat), ∀ p ∈ lns s f k, p.size ≤ s.size
  | 0, f, p, h => by simp only [lns, List.mem_singleton] at h; subst h; simp
  | k + 1, f, p, h => by
    unfold lns at h
    split at h
    · rcases List.mem_cons.1 h with rfl | h
      · simp; omega
      · exact lns_size k _ p h
    · exact lns_size k _ p h
theorem lns_len {s : ByteArray} : ∀ (k f : Nat), (lns s f k).length ≤ k + 1
  | 0, f => by simp [lns]
  | k + 1, f => by
    unfold lns
    have h1 := lns_len (s := s) k f
    have h2 := lns_len (s := s) k (s.size - (k + 1) + 1)
    split
    · rw [List.length_cons]; omega
    · omega
theorem sent_len (p : ByteArray) : (sent p).length ≤ 1 := by unfold sent; split <;> simp
theorem linesL_size {s : ByteArray} {n : Nat} (h : s.size ≤ n) : ∀ p ∈ linesL s, p.size ≤ n := fun p hp => Nat.le_trans (lns_size s.size 0 p hp) h
theorem linesL_len (s : ByteArray) : (linesL s).length ≤ s.size + 1 := lns_len s.size 0
structure AS where
  rest : List ByteArray
  rows : List (List ByteArray)
  ss : List SV
  r : SV
  ix : Int
theorem All_tr {s : ByteArray} {L : List HP} (w0 : World) (I : Foot) (hs : s.size ≤ 1000000) : Tr Try.prog 81 #[.string s] (SL w0 I L) (fun x : SV × List SV => .slice x.1.a x.1.n x.1.cap) (fun x w => x.2.length = (allL s).length ∧ SL w0 I (OwnS 22 x.1 x.2 :: RowsH 9 x.2 (allL s) :: L) w) := by
  refine Tr.intro Try.func81 rfl Try.ntmps81 rfl ?_
  repeat' (first | ((first | refine WLA.m rfl rfl ?_ ?_ | refine WLA.st rfl ?_ ?_ | refine WLA.x rfl rfl ?_ (fun x => ?_) | refine WLA.x0 rfl ?_ (fun x => ?_)); first | exact trivial | exact rfl | assumption | omega | (refine ⟨?_, ?_⟩ <;> omega) | (simp only [Room, List.length_set, List.length_append, List.length_cons, List.length_nil, List.length_replicate]; omega) | decide | skip) | (refine Stp.go ?_) | (guard_target =~ WLA _ _ _ _ _ (⟨_, .call ⟨.value (.func 121), _, _⟩, _, _, _, _⟩ :: _) _ _; first | (refine WLA.call rfl rfl (Lines_tr _ _) ?_; rintro bx) | (refine WLA.call0 rfl (Lines_tr _ _) ?_; rintro bx)) | (refine WPA.ifT ?_) | (refine WPA.ifF ?_) | ((first | refine WPA.dec ?_); first | refine .inl ⟨by first | assumption | omega | with_reducible rfl | (refine fun h => h ?_; first | assumption | with_reducible rfl) | (simp only [List.length_append, List.length_cons, List.length_nil, List.length_set] <;> omega) | decide, ?_⟩ | refine .inr ⟨by first | assumption | omega | with_reducible rfl | (refine fun h => h ?_; first | assumption | with_reducible rfl) | (simp only [List.length_append, List.length_cons, List.length_nil, List.length_set] <;> omega) | decide, ?_⟩) | ((first | refine WPA.ifBt ?_ ?_ | refine WPA.ifBnf ?_ ?_); assumption) | ((first | refine WPA.ifBnt ?_ ?_ | refine WPA.ifBf ?_ ?_); assumption) | ((first | refine WPA.ifs ?_ ?_ | refine WPA.ifB ?_ ?_) <;> intro hc))
  revert x; intro t3
  refine WPA.rangeS fun D rc hrc => ?_
  let C : AS → Prop := fun x => x.rows ++ x.rest.flatMap sent = allL s ∧ (∀ p ∈ x.rest, p.size ≤ 1000000) ∧ x.ss.length = x.rows.length ∧ ((x.ss.length : Int) + x.rest.length ≤ 1000002 ∧ 0 ≤ x.ix ∧ x.ix + x.rest.length ≤ 1000002)
  let Lk : AS → List HP := fun x => Ob (D + 1) (rc .ready none) :: Ob D (.deferred (some [])) :: Bk t3 96 [.slice x.r.a x.r.n x.r.cap] :: OwnS 22 x.r x.ss :: RowsH 9 x.ss x.rows :: L
  refine ⟨{x : AS // C x ∧ x.rest = []}, fun _ => .tuple #[], fun _ => .ready, fun _ => none, fun x => Ob D (.deferred (some [])) :: Bk t3 96 [.slice x.1.r.a x.1.r.n x.1.r.cap] :: OwnS 22 x.1.r x.1.ss :: RowsH 9 x.1.ss x.1.rows :: L, ?_, ?_⟩
  · have hlen : ((([] : List SV).length : Nat) : Int) + (linesL s).length ≤ 1000002 ∧ (0 : Int) ≤ 0 ∧ (0 : Int) + (linesL s).length ≤ 1000002 := by have := linesL_len s; simp only [List.length_nil]; omega
    have hix : ∀ x : AS, C x → 0 ≤ x.ix ∧ x.ix ≤ 10000000 := by
      rintro ⟨rest, rows, ss, r, ix⟩ ⟨-, -, -, -, h5, h6⟩
      dsimp only at h5 h6 ⊢
      exact ⟨h5, by omega⟩
    refine (Lines1_tr (w0 := w0) (I := I) (Bx := bx) (s := s) (ω := Empty) Lk AS.rest AS.ix C (fun z _ => z.elim) hs hix ?_ ⟨linesL s, [], [], SV.nil, 0⟩ ⟨rfl, linesL_size hs, rfl, hlen⟩ rfl rfl).conv (fun w h => ?_) ?_
    · rintro ⟨rest, rows, ss, r, ix⟩ p tl ⟨hC1, hC2, hC3, hC4, hC5, hC6⟩ hl
      dsimp only at hl hC1 hC2 hC3 hC4 hC5 hC6
      subst hl
      dsimp only [Lk]
      rw [List.length_cons] at hC4 hC6
      rw [List.flatMap_cons] at hC1
      have hps : p.size ≤ 1000000 := hC2 p (List.mem_cons_self ..)
      refine (YTr.ofS (val := fun y : AS ⊕ Empty => y.isLeft) hrc (agreeP2 rfl rfl) rfl ?_)
      repeat' (first | ((first | refine WLA.m rfl rfl ?_ ?_ | refine WLA.st rfl ?_ ?_ | refine WLA.x rfl rfl ?_ (fun x => ?_) | refine WLA.x0 rfl ?_ (fun x => ?_)); first | exact trivial | exact rfl | assumption | omega | (refine ⟨?_, ?_⟩ <;> omega) | (simp only [Room, List.length_set, List.length_append, List.length_cons, List.length_nil, List.length_replicate]; omega) | decide | skip) | (refine Stp.go ?_) | (refine WPA.ifT ?_) | (refine WPA.ifF ?_) | ((first | refine WPA.dec ?_); first | refine .inl ⟨by first | assumption | omega | with_reducible rfl | (refine fun h => h ?_; first | assumption | with_reducible rfl) | (simp only [List.length_append, List.length_cons, List.length_nil, List.length_set] <;> omega) | decide, ?_⟩ | refine .inr ⟨by first | assumption | omega | with_reducible rfl | (refine fun h => h ?_; first | assumption | with_reducible rfl) | (simp only [List.length_append, List.length_cons, List.length_nil, List.length_set] <;> omega) | decide, ?_⟩) | ((first | refine WPA.ifBt ?_ ?_ | refine WPA.ifBnf ?_ ?_); assumption) | ((first | refine WPA.ifBnt ?_ ?_ | refine WPA.ifBf ?_ ?_); assumption) | ((first | refine WPA.ifs ?_ ?_ | refine WPA.ifB ?_ ?_) <;> intro hc))
      refine QQ.midS ?_
      by_cases hw : wordsL p = []
      · have hsn : sent p = [] := if_pos hw
        have h0 : ¬ (0 : Int) < (wordsL p).length := by rw [hw]; simp
        repeat' (first | (guard_target =~ WPA _ _ _ (.cond _ _ _) _ _ _; refine WPA.ifNo h0 ?_) | ((first | refine WLA.m rfl rfl ?_ ?_ | refine WLA.st rfl ?_ ?_ | refine WLA.x rfl rfl ?_ (fun x => ?_) | refine WLA.x0 rfl ?_ (fun x => ?_)); first | exact trivial | exact rfl | assumption | omega | (refine ⟨?_, ?_⟩ <;> omega) | (simp only [Room, List.length_set, List.length_append, List.length_cons, List.length_nil, List.length_replicate]; omega) | decide | skip) | (refine Stp.go ?_) | (guard_target =~ WLA _ _ _ _ _ (⟨_, .call ⟨.value (.func 122), _, _⟩, _, _, _, _⟩ :: _) _ _; first | (refine WLA.call rfl rfl (Words_tr _ _ hps) ?_; rintro w) | (refine WLA.call0 rfl (Words_tr _ _ hps) ?_; rintro w)) | (refine WPA.ifT ?_) | (refine WPA.ifF ?_) | ((first | refine WPA.dec ?_); first | refine .inl ⟨by first | assumption | omega | with_reducible rfl | (refine fun h => h ?_; first | assumption | with_reducible rfl) | (simp only [List.length_append, List.length_cons, List.length_nil, List.length_set] <;> omega) | decide, ?_⟩ | refine .inr ⟨by first | assumption | omega | with_reducible rfl | (refine fun h => h ?_; first | assumption | with_reducible rfl) | (simp only [List.length_append, List.length_cons, List.length_nil, List.length_set] <;> omega) | decide, ?_⟩) | ((first | refine WPA.ifBt ?_ ?_ | refine WPA.ifBnf ?_ ?_); assumption) | ((first | refine WPA.ifBnt ?_ ?_ | refine WPA.ifBf ?_ ?_); assumption) | ((first | refine WPA.ifs ?_ ?_ | refine WPA.ifB ?_ ?_) <;> intro hc))
        rw [hsn, List.nil_append] at hC1
        exact QQ.rndN (fun w h => ⟨.inl ⟨tl, rows, ss, r, ix + 1⟩, rfl, ⟨⟨hC1, fun q hq => hC2 q (List.mem_cons_of_mem _ hq), hC3, by dsimp only; omega⟩, rfl, rfl⟩, h.to⟩)
      · have hsn : sent p = [wordsL p] := if_neg hw
        have h0 : (0 : Int) < (wordsL p).length := by have := List.length_pos_iff.2 hw; omega
        repeat' (first | ((first | refine WLA.m rfl rfl ?_ ?_ | refine WLA.st rfl ?_ ?_ | refine WLA.x rfl rfl ?_ (fun x => ?_) | refine WLA.x0 rfl ?_ (fun x => ?_)); first | exact trivial | exact rfl | assumption | omega | (refine ⟨?_, ?_⟩ <;> omega) | (simp only [Room, List.length_set, List.length_append, List.length_cons, List.length_nil, List.length_replicate]; omega) | decide | skip) | (refine Stp.go ?_) | (guard_target =~ WLA _ _ _ _ _ (⟨_, .call ⟨.value (.func 122), _, _⟩, _, _, _, _⟩ :: _) _ _; first | (refine WLA.call rfl rfl (Words_tr _ _ hps) ?_; rintro w) | (refine WLA.call0 rfl (Words_tr _ _ hps) ?_; rintro w)) | (refine WPA.ifT ?_) | (refine WPA.ifF ?_) | ((first | refine WPA.dec ?_); first | refine .inl ⟨by first | assumption | omega | with_reducible rfl | (refine fun h => h ?_; first | assumption | with_reducible rfl) | (simp only [List.length_append, List.length_cons, List.length_nil, List.length_set] <;> omega) | decide, ?_⟩ | refine .inr ⟨by first | assumption | omega | with_reducible rfl | (refine fun h => h ?_; first | assumption | with_reducible rfl) | (simp only [List.length_append, List.length_cons, List.length_nil, List.length_set] <;> omega) | decide, ?_⟩) | ((first | refine WPA.ifBt ?_ ?_ | refine WPA.ifBnf ?_ ?_); assumption) | ((first | refine WPA.ifBnt ?_ ?_ | refine WPA.ifBf ?_ ?_); assumption) | ((first | refine WPA.ifs ?_ ?_ | refine WPA.ifB ?_ ?_) <;> intro hc))
        rw [hsn, ← List.append_assoc] at hC1
        refine QQ.rndN (fun u h => ⟨.inl ⟨tl, rows ++ [wordsL p], ss ++ [w], x, ix + 1⟩, rfl, ⟨⟨hC1, fun q hq => hC2 q (List.mem_cons_of_mem _ hq), by dsimp only; rw [List.length_append, List.length_append, hC3]; rfl, by dsimp only; rw [List.length_append, List.length_singleton]; omega⟩, rfl, rfl⟩, ?_⟩)
        have h2 := (RowsH.snoc hC3).sl ((EntC.out (L' := OwnS 9 w (wordsL p) :: RowsH 9 ss rows :: Bk bx 9 [.string s] :: Ob (D + 1) (rc .ready none) :: Ob D (.deferred (some [])) :: Bk t3 96 [.slice x.a x.n x.cap] :: OwnS 22 x (ss ++ [w]) :: L)).sl h)
        exact h2.to
    · dsimp only [Lk]
      have h2 : SL w0 I (Ob (D + 1) (rc .ready none) :: Ob D (.deferred (some [])) :: Bk bx 9 [.string s] :: Bk t3 96 [.slice SV.nil.a SV.nil.n SV.nil.cap] :: L) w := h
      have h3 := RowsH.nil (e := 9).sl h2
      exact h3.to
    · rintro (x | x) w hb
      · refine ⟨⟨x, hb.1⟩, rfl, ?_⟩
        have h := hb.2
        dsimp only [Lk] at h ⊢
        exact h.to
      · exact x.elim
  · rintro ⟨⟨rest, rows, ss, r, ix⟩, ⟨hC1, hC2, hC3, hC4⟩, hl⟩
    dsimp only at hC1 hC2 hC3 hC4 hl ⊢
    subst hl
    refine ⟨by simp, ?_⟩
    show QQ _ _ _ _
    repeat' (first | ((first | refine WLA.m rfl rfl ?_ ?_ | refine WLA.st rfl ?_ ?_ | refine WLA.x rfl rfl ?_ (fun x => ?_) | refine WLA.x0 rfl ?_ (fun x => ?_)); first | exact trivial | exact rfl | assumption | omega | (refine ⟨?_, ?_⟩ <;> omega) | (simp only [Room, List.length_set, List.length_append, List.length_cons, List.length_nil, List.length_replicate]; omega) | decide | skip) | (refine Stp.go ?_) | (refine WPA.ifT ?_) | (refine WPA.ifF ?_) | ((first | refine WPA.dec ?_); first | refine .inl ⟨by first | assumption | omega | with_reducible rfl | (refine fun h => h ?_; first | assumption | with_reducible rfl) | (simp only [List.length_append, List.length_cons, List.length_nil, List.length_set] <;> omega) | decide, ?_⟩ | refine .inr ⟨by first | assumption | omega | with_reducible rfl | (refine fun h => h ?_; first | assumption | with_reducible rfl) | (simp only [List.length_append, List.length_cons, List.length_nil, List.length_set] <;> omega) | decide, ?_⟩) | ((first | refine WPA.ifBt ?_ ?_ | refine WPA.ifBnf ?_ ?_); assumption) | ((first | refine WPA.ifBnt ?_ ?_ | refine WPA.ifBf ?_ ?_); assumption) | ((first | refine WPA.ifs ?_ ?_ | refine WPA.ifB ?_ ?_) <;> intro hc))
    rw [List.flatMap_nil, List.append_nil] at hC1
    subst hC1
    exact QQ.fin [D] (L' := OwnS 22 r ss :: RowsH 9 ss (allL s) :: L) rfl (EntC.out (L' := Ob D (.deferred (some [])) :: OwnS 22 r ss :: RowsH 9 ss (allL s) :: L)) rfl (r, ss) rfl fun w h => ⟨hC3, h⟩
end Go.Proofs.Ytlodbajaoadhdaa
