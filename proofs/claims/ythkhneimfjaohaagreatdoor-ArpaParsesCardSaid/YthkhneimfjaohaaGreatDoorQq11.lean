/- Texts that ArpaParses_law leans on, part 11. Conditions: none. -/
import Derived.Test.YthkhneimfjaohaaGreatDoorQq10
namespace Go.Proofs.YthkhneimfjaohaaGreatDoor
open Go Go.Fw Go.RowKit
set_option linter.unusedVariables false
set_option linter.unusedSimpArgs false
set_option maxRecDepth 100000
set_option maxHeartbeats 16000000
set_option synthInstance.maxHeartbeats 200000
set_option synthInstance.maxSize 100000
attribute [local irreducible] WPA WLA WDA WDQ WDE QQ seqQ blockQ loopQ fnQ OpP OpT Tr TrP SL SLd OwnS LitS Bk BkE Ob
attribute [local irreducible] fnX TrX
theorem TrX.ofTr {P : Program} {f : FuncId} {args : Array Value} {A : World → Prop} {τ τ' ε : Type} {val : τ → Value} {val' : τ' → Value} {B : τ → World → Prop} {B' : τ' → World → Prop} {pv : ε → Value} {E : ε → World → Prop} (h : Tr P f args A val B) (hB : ∀ x w, B x w → ∃ x', val x = val' x' ∧ B' x' w) : TrX P f args A val' B' pv E := by
  unfold Tr at h; unfold TrX
  exact fun w hw => (h w hw).mono fun e w' ⟨x, he, hb⟩ => by obtain ⟨x', h1, h2⟩ := hB x w' hb; exact .inl ⟨x', by rw [he, h1], h2⟩
theorem TrX.ofNo {P : Program} {f : FuncId} {args : Array Value} {A : World → Prop} {τ ε ε' : Type} {val : Empty → Value} {val' : τ → Value} {B' : τ → World → Prop} {pv : ε → Value} {pv' : ε' → Value} {E : ε → World → Prop} {E' : ε' → World → Prop} (h : TrX P f args A val (fun _ _ => False) pv E) (hE : ∀ x w, E x w → ∃ x', pv x = pv' x' ∧ E' x' w) : TrX P f args A val' B' pv' E' := by
  unfold TrX at h ⊢
  exact fun w hw => (h w hw).mono fun e w' he => by
    rcases he with ⟨x, he, hb⟩ | ⟨y, he, hb⟩
    · exact hb.elim
    · obtain ⟨x', h1, h2⟩ := hE y w' hb; exact .inr ⟨x', by rw [he, h1], h2⟩
section
variable {L L' : List HP} {w0 : World} {I : Foot} {s : ByteArray} {P : Nat} {n : Int}
theorem must_trX {b : Bool} [h : FindK L PsH P (s, n) L'] : TrX Tryz.prog 50 #[.pointer (some ⟨P, 0, none⟩), .bool b] (SL w0 I L) (fun _ : { _u : Unit // b = true } => .tuple #[]) (fun _ => SL w0 I (PsH P (s, n) :: L')) (fun y : { y : Int × Int // b = false ∧ y = (n, 3) } => wrV y.1) (fun _ => SL w0 I L') := by
  cases b with
  | true => exact TrX.ofTr must_ok fun x w hw => ⟨⟨(), rfl⟩, rfl, h.out.sl hw⟩
  | false => exact TrX.ofNo must_no fun x w hw => ⟨⟨x.1, rfl, x.2⟩, rfl, hw.to⟩
theorem next_trX [h : FindK L PsH P (s, n) L'] (hsz : s.size ≤ 1000000) (hn : 0 ≤ n ∧ n ≤ 1000000) : TrX Tryz.prog 51 #[.pointer (some ⟨P, 0, none⟩)] (SL w0 I L) (fun _ : { _u : Unit // 0 ≤ atB s 10 } => .string (befB s 10)) (fun _ => SL w0 I (PsH P (aftB s 10, n + 1) :: L')) (fun y : { y : Int × Int // ¬ 0 ≤ atB s 10 ∧ y = (n + 1, 2) } => wrV y.1) (fun _ => SL w0 I L') := by
  by_cases h0 : 0 ≤ atB s 10
  · exact TrX.ofTr (next_ok h0 hsz hn) fun x w hw => ⟨⟨(), h0⟩, rfl, hw⟩
  · exact TrX.ofNo (next_no h0 hsz hn) fun x w hw => ⟨⟨x.1, h0, x.2⟩, rfl, hw.to⟩
theorem after_trX {l b : ByteArray} [h : FindK L PsH P (s, n) L'] : TrX Tryz.prog 52 #[.pointer (some ⟨P, 0, none⟩), .string l, .string b] (SL w0 I L) (fun v : { v : Int // (hasP l b ∧ NumOk (cutP l b)) ∧ v = numV (cutP l b) } => .int .i64 v.1) (fun _ => SL w0 I (PsH P (s, n) :: L')) (fun y : { y : Int × Int // ¬ (hasP l b ∧ NumOk (cutP l b)) ∧ y = (n, 3) } => wrV y.1) (fun _ => SL w0 I L') := by
  by_cases h1 : hasP l b ∧ NumOk (cutP l b)
  · exact TrX.ofTr (after_ok h1.1 h1.2) fun x w hw => ⟨⟨_, h1, rfl⟩, rfl, h.out.sl hw⟩
  · exact TrX.ofNo (after_no h1) fun x w hw => ⟨⟨x.1, h1, x.2⟩, rfl, hw.to⟩
structure GrL where
  line : Int
  words : List ByteArray
  prob : Int
  back : Int
def PieceP (w : ByteArray) : Prop := w ≠ ⟨#[]⟩ ∧ ∀ j : Nat, j < w.size → ¬ BlankP (bt w (j : Int))
instance (w : ByteArray) : Decidable (PieceP w) := inferInstanceAs (Decidable (_ ∧ _))
def nthB (l : List ByteArray) (i : Nat) : ByteArray := l.getD i ⟨#[]⟩
def EntOk (o : Int) (last : Bool) (l : ByteArray) : Prop :=
  ((splB l 9).length : Int) = (if last then 2 else 3) ∧ (NumOk (nthB (splB l 9) 0) ∧ ((splB (nthB (splB l 9) 1) 32).length : Int) = o) ∧ (∀ w ∈ splB (nthB (splB l 9) 1) 32, PieceP w) ∧ (last = false → NumOk (nthB (splB l 9) 2))
theorem splF_mem (c : UInt8) : ∀ (n : Nat) (s : ByteArray), ∀ w ∈ splF c n s, w.size ≤ s.size
  | 0, s, w, h => by rw [List.mem_singleton.1 h]; exact Nat.le_refl _
  | n + 1, s, w, h => by
    rcases List.mem_cons.1 h with h | h
    · rw [h]; unfold befB; rw [ByteArray.size_extract]; omega
    · have := splF_mem c n (aftB s c) w h
      have e : (aftB s c).size ≤ s.size := by unfold aftB; rw [ByteArray.size_extract]; omega
      omega
theorem spl_mem {s w : ByteArray} {c : UInt8} (h : w ∈ splB s c) : w.size ≤ s.size := splF_mem c _ s w h
theorem nth_at (l : List ByteArray) (i : Nat) : at_ l (i : Int) = nthB l i := by
  unfold at_ nthB; rw [Int.toNat_natCast]; rfl
theorem nth_sz {s : ByteArray} {c : UInt8} (i : Nat) : (nthB (splB s c) i).size ≤ s.size := by
  unfold nthB
  rw [List.getD_eq_getElem?_getD]
  by_cases h : i < (splB s c).length
  · rw [List.getElem?_eq_getElem h]; exact spl_mem (List.getElem_mem h)
  · rw [List.getElem?_eq_none (by omega)]; exact Nat.zero_le _
instance psN {ρ : Env} {A : World → Prop} {ty t : TypeId} {x : Operand} {y : ByteArray × Int} {S : Nat} {w0 : World} {I : Foot} {L L' : List HP} [hx : Ev ρ x (.pointer (some ⟨S, 0 + 1, none⟩))] [ht : One Tryz.prog t] [hA : InSL A w0 I L] [hb : FindK L PsH S y L'] : OpM Tryz.prog ρ A (.load t x) ty (.int .i64 y.2) True :=
  ⟨fun _ => P_load ht.out hx.out fun w hw => cell_of_heap (by have := hb.out.sl (hA.out w hw); unfold PsH at this; exact this.bk) (by simp)⟩
theorem Split_trS {c : UInt8} (hsz : s.size ≤ 1000000) : Tr Tryz.prog 76 #[.string s, .string (oneB c)] (SL w0 I L) (fun x : { x : SV × Foot // SlI (x.2 ++ I) x.1 ByteArray inferInstance (splB s c) } => .slice x.1.1.a x.1.1.n x.1.1.cap) (fun x w => SL w0 (x.1.2 ++ I) L w) :=
  (Split_tr hsz).conv (fun _ h => h) fun x w h => ⟨⟨x, haveI := h.1.2; inferInstance⟩, rfl, h.2.sub fun z hz => (List.mem_append.1 hz).elim id fun hz => h.1.1.out hz⟩
theorem entry_trX {o : Int} {last : Bool} [h : FindK L PsH P (s, n) L'] (hsz : s.size ≤ 1000000) (hn : 0 ≤ n ∧ n ≤ 1000000) :
    TrX Tryz.prog 53 #[.pointer (some ⟨P, 0, none⟩), .int .i64 o, .bool last] (SL w0 I L)
      (fun x : { x : SV × Foot // 0 ≤ atB s 10 ∧ EntOk o last (befB s 10) ∧ SubI x.2 I ∧ SlI x.2 x.1 ByteArray inferInstance (splB (nthB (splB (befB s 10) 9) 1) 32) } =>
        .agg #[.int .i64 (n + 1), .slice x.1.1.a x.1.1.n x.1.1.cap, .int .i64 (numV (nthB (splB (befB s 10) 9) 0)), .int .i64 (if last then 0 else numV (nthB (splB (befB s 10) 9) 2))])
      (fun x => SL w0 x.1.2 (PsH P (aftB s 10, n + 1) :: L'))
      (fun y : { y : Int × Int // (¬ 0 ≤ atB s 10 ∧ y = (n + 1, 2)) ∨ (0 ≤ atB s 10 ∧ ¬ EntOk o last (befB s 10) ∧ y = (n + 1, 3)) } => wrV y.1) (fun _ => SL w0 I L') := by
  refine TrX.at h.out ?_
  refine TrX.intro Tryz.func53 rfl Tryz.ntmps53 rfl ?_
  have hbz : (befB s 10).size ≤ 1000000 := by unfold befB; rw [ByteArray.size_extract]; omega
  cases last with
  | false =>
    repeat' ((fail_if_success (guard_target =~ WPA _ _ _ (.region 5 _ _) _ _ _)); first | ((first | refine WLA.m rfl rfl ?_ ?_ | refine WLA.st rfl ?_ ?_ | refine WLA.x rfl rfl ?_ (fun x => ?_) | refine WLA.x0 rfl ?_ (fun x => ?_)); first | exact sdT | skip) | (refine Stp.go ?_) | (guard_target =~ WLA _ _ _ _ _ (⟨_, .call ⟨.value (.func 51), _, _⟩, _, _, _, _⟩ :: _) _ _; first | (refine WLA.callX rfl rfl (next_trX hsz ⟨hn.1, by omega⟩) (by intro y; refine QQ.thrw ?_; exact QQ.thrown ⟨y.1, .inl y.2⟩ rfl fun w h => h.to) ?_; rintro ⟨⟨⟩, h0⟩) | (refine WLA.callX0 rfl (next_trX hsz ⟨hn.1, by omega⟩) (by intro y; refine QQ.thrw ?_; exact QQ.thrown ⟨y.1, .inl y.2⟩ rfl fun w h => h.to) ?_; rintro ⟨⟨⟩, h0⟩)) | (guard_target =~ WLA _ _ _ _ _ (⟨_, .call ⟨.value (.func 76), _, _⟩, _, _, _, _⟩ :: _) _ _; refine WLA.call rfl rfl (Split_tr hbz) ?_; rintro ⟨v, J⟩; dsimp only; refine WLA.pure fun hv => ?_) | (refine WPA.ifT ?_) | (refine WPA.ifF ?_) | ((first | refine WPA.dec ?_); first | refine orL ?_ | refine orR ?_) | ((first | refine WPA.ifBt ?_ ?_ | refine WPA.ifBnf ?_ ?_); assumption) | ((first | refine WPA.ifBnt ?_ ?_ | refine WPA.ifBf ?_ ?_); assumption) | ((first | refine WPA.ifs ?_ ?_ | refine WPA.ifB ?_ ?_) <;> intro hc))
    obtain ⟨hJ, hv⟩ := hv
    have hpz := fun i => nth_sz (s := befB s 10) (c := 9) i
    have hm5 : ∀ k : EntOk o false (befB s 10), ((splB (befB s 10) 9).length : Int) = 3 := fun k => by simpa using k.1
    repeat' ((fail_if_success (guard_target =~ WPA _ _ _ (.region 6 _ _) _ _ _)); first | ((first | refine WLA.m rfl rfl ?_ ?_ | refine WLA.st rfl ?_ ?_ | refine WLA.x rfl rfl ?_ (fun x => ?_) | refine WLA.x0 rfl ?_ (fun x => ?_)); first | exact sdT | skip) | (refine Stp.go ?_) | (guard_target =~ WLA _ _ _ _ _ (⟨_, .call ⟨.value (.func 50), _, _⟩, _, _, _, _⟩ :: _) _ _; first | (refine WLA.callX rfl rfl (must_trX) (by intro y; refine QQ.thrw ?_; exact QQ.thrown ⟨y.1, .inr ⟨h0, fun k => of_decide_eq_false y.2.1 (hm5 k), y.2.2⟩⟩ rfl fun w h => (SL.to (L' := L') h).sub hJ.out) ?_; rintro ⟨⟨⟩, hl⟩) | (refine WLA.callX0 rfl (must_trX) (by intro y; refine QQ.thrw ?_; exact QQ.thrown ⟨y.1, .inr ⟨h0, fun k => of_decide_eq_false y.2.1 (hm5 k), y.2.2⟩⟩ rfl fun w h => (SL.to (L' := L') h).sub hJ.out) ?_; rintro ⟨⟨⟩, hl⟩)) | (refine WPA.ifT ?_) | (refine WPA.ifF ?_) | ((first | refine WPA.dec ?_); first | refine orL ?_ | refine orR ?_) | ((first | refine WPA.ifBt ?_ ?_ | refine WPA.ifBnf ?_ ?_); assumption) | ((first | refine WPA.ifBnt ?_ ?_ | refine WPA.ifBf ?_ ?_); assumption) | ((first | refine WPA.ifs ?_ ?_ | refine WPA.ifB ?_ ?_) <;> intro hc))
    replace hl := of_decide_eq_true hl
    have hent : ∀ k : EntOk o false (befB s 10), _ := fun k => k.2
    have hent2 : (NumOk (nthB (splB (befB s 10) 9) 0) ∧ ((splB (nthB (splB (befB s 10) 9) 1) 32).length : Int) = o) ∧ (∀ w ∈ splB (nthB (splB (befB s 10) 9) 1) 32, PieceP w) ∧ (false = false → NumOk (nthB (splB (befB s 10) 9) 2)) → EntOk o false (befB s 10) := fun k => ⟨by simpa using hl, k⟩
    clear hm5
    generalize hPs : splB (befB s 10) 9 = ps at hv hl hpz hent hent2 ⊢
    have e0 : at_ ps 0 = nthB ps 0 := nth_at ps 0
    have e1 : at_ ps 1 = nthB ps 1 := nth_at ps 1
    have e2 : at_ ps 2 = nthB ps 2 := nth_at ps 2
    have z0 := hpz 0
    have z1 := hpz 1
    have z2 := hpz 2
    have hi0 : (0 : Int) ≤ 0 ∧ (0 : Int) < ps.length := by omega
    have hi1 : (0 : Int) ≤ 1 ∧ (1 : Int) < ps.length := by omega
    generalize nthB ps 0 = p0 at e0 z0 hent hent2 ⊢
    generalize nthB ps 1 = p1 at e1 z1 hent hent2 ⊢
    generalize nthB ps 2 = p2 at e2 z2 hent hent2 ⊢
    have hS := fun {L : List HP} => Split_trS (s := p1) (c := 32) (w0 := w0) (I := J) (L := L) (by omega)
    repeat' ((fail_if_success (guard_target =~ WPA _ _ _ (.region 7 _ _) _ _ _)); first | ((rw [e1])) | ((first | refine WLA.m rfl rfl ?_ ?_ | refine WDQ.m rfl rfl ?_ ?_ | refine WLA.st rfl ?_ ?_ | refine WLA.x rfl rfl ?_ (fun x => ?_) | refine WLA.x0 rfl ?_ (fun x => ?_)); first | exact sdT | skip) | (refine Stp.go ?_) | (guard_target =~ WLA _ _ _ _ _ (⟨_, .call ⟨.value (.func 76), _, _⟩, _, _, _, _⟩ :: _) _ _; refine WLA.call rfl rfl (hS) ?_; rintro ⟨⟨v2, R⟩, hv2⟩) | (refine WPA.ifT ?_) | (refine WPA.ifF ?_) | ((first | refine WPA.dec ?_); first | refine orL ?_ | refine orR ?_) | ((first | refine WPA.ifBt ?_ ?_ | refine WPA.ifBnf ?_ ?_); assumption) | ((first | refine WPA.ifBnt ?_ ?_ | refine WPA.ifBf ?_ ?_); assumption) | ((first | refine WPA.ifs ?_ ?_ | refine WPA.ifB ?_ ?_) <;> intro hc) | (guard_target =~ WPA _ _ _ (.region 6 _ true) _ _ _; refine WPA.drawT 10 (.q 0 (.q 1 (.q 2 (.q 3 (.q 4 (.q 5 (.q 6 (.b false 7 (.q 8 (.e 9 .fin)) false 9 (.e 7 (.q 8 .fin)))))))))) mixed ?_ ?_; kernel_rfl) | (refine WDA.finish (tl := [⟨_, _, _, _, _, _⟩]) rfl ?_) | (refine WDQ.see rfl ?_) | (first | (refine WDA.two rfl rfl ?_ ?_) | (refine WDA.twoL rfl rfl ?_ ?_) | (refine WDA.twoR rfl rfl ?_ ?_) | (refine WDA.twoW rfl rfl ?_ ?_)) | (refine WDE.see rfl ?_) | (refine WDE.alloc rfl rfl (fun w h => h) (fun x => ?_)) | (refine WDE.stE rfl ?_) | (refine WDE.x rfl rfl ?_ ?_ (fun x => ?_); rotate_left 1; (intro x w h; first | exact h | exact Ent.drop1.sl h | exact SL.unI h | exact SL.to h); rotate_left 1; first | exact sdT | skip) | (guard_target =~ WDE _ _ _ _ _ _ _ ⟨_, .call ⟨.value (.func 76), _, _⟩, _, _, _, _⟩ _ _ _; refine WDE.call rfl rfl (hS) ?_ ?_; (intro x w h; first | exact h | exact Ent.drop1.sl h | exact SL.unI h | exact SL.to h); rintro ⟨⟨v2, R⟩, hv2⟩) | (guard_target =~ WDW _ _ _ _ _ _ _ ⟨_, .call ⟨.value (.func 76), _, _⟩, _, _, _, _⟩ _ _ _; refine WDW.call rfl rfl (hS) ?_; rintro ⟨⟨v2, R⟩, hv2⟩))
    all_goals
      dsimp only at hv2 ⊢
      revert x; intro X9
      revert x; intro X6
      have hKJ : SubI (R ++ J) J := inferInstance
      have hvK : SlI (R ++ J) v ByteArray inferInstance ps := hv.sub
      generalize R ++ J = K at hv2 hKJ hvK ⊢
      have hKI : SubI K I := ⟨fun z hz => hKJ.out (hJ.out hz)⟩
      refine WPA.ent (EntC.out (L' := Bk X9 107 [.int .i64 (n + 1), .slice v2.a v2.n v2.cap, .int .i64 0, .int .i64 0] :: PsH P (aftB s 10, n + 1) :: Bk X6 107 [.int .i64 0, .slice none 0 0, .int .i64 0, .int .i64 0] :: L')) ?_
      have hN := fun {L : List HP} => Number_tr (s := p0) (w0 := w0) (I := K) (L := L)
      by_cases hN0 : NumOk p0
      case neg =>
        rw [(num_no hN0).2] at hN
        repeat' (first | ((rw [e0])) | ((first | refine WLA.m rfl rfl ?_ ?_ | refine WLA.st rfl ?_ ?_ | refine WLA.x rfl rfl ?_ (fun x => ?_) | refine WLA.x0 rfl ?_ (fun x => ?_)); first | exact sdT | skip) | (refine Stp.go ?_) | (guard_target =~ WLA _ _ _ _ _ (⟨_, .call ⟨.value (.func 75), _, _⟩, _, _, _, _⟩ :: _) _ _; refine WLA.cq rfl rfl (hN) ?_) | (guard_target =~ WLA _ _ _ _ _ (⟨_, .call ⟨.value (.func 50), _, _⟩, _, _, _, _⟩ :: _) _ _; first | (refine WLA.callX rfl rfl (must_trX) (by intro y; refine QQ.thrw ?_; exact QQ.thrown ⟨y.1, .inr ⟨h0, fun k => hN0 (hent k).1.1, y.2.2⟩⟩ rfl fun w h => (SL.to (L' := L') h).sub hKI.out) ?_; rintro ⟨⟨⟩, ⟨⟩⟩) | (refine WLA.callX0 rfl (must_trX) (by intro y; refine QQ.thrw ?_; exact QQ.thrown ⟨y.1, .inr ⟨h0, fun k => hN0 (hent k).1.1, y.2.2⟩⟩ rfl fun w h => (SL.to (L' := L') h).sub hKI.out) ?_; rintro ⟨⟨⟩, ⟨⟩⟩)) | (refine WPA.ifT ?_) | (refine WPA.ifF ?_) | (refine WLA.no rfl rfl ?_) | ((first | refine WPA.dec ?_ | ((fail_if_success (guard_target =~ WLA _ _ _ _ _ _ (put1 _ _ (.bool true)) _)); (fail_if_success (guard_target =~ WLA _ _ _ _ _ _ (put1 _ _ (.bool false)) _)); refine WLA.dec rfl rfl ?_) | refine WLA.pk ?_); first | refine orL ?_ | refine orR ?_) | ((first | refine WPA.ifBt ?_ ?_ | refine WPA.ifBnf ?_ ?_); assumption) | ((first | refine WPA.ifBnt ?_ ?_ | refine WPA.ifBf ?_ ?_); assumption) | ((first | refine WPA.ifs ?_ ?_ | refine WPA.ifB ?_ ?_) <;> intro hc) | ((fail_if_success (guard_target =~ WLA _ _ _ _ _ _ (put1 _ _ (.bool true)) _)); (fail_if_success (guard_target =~ WLA _ _ _ _ _ _ (put1 _ _ (.bool false)) _)); (first | refine WLA.both rfl rfl ?_ ?_ | refine WLA.bothB rfl rfl ?_ ?_) <;> intro hg))
      rw [(num_yes hN0).2] at hN
      generalize numV p0 = N0 at hN ⊢
      generalize hWs : splB p1 32 = ws at hv2 hent hent2 ⊢
      have hwl : ws.length ≤ 1000001 := by rw [← hWs]; unfold splB; rw [splF_len]; have := cnt_le p1 32; omega
      have hwz : ∀ w ∈ ws, w.size ≤ 1000000 := fun w hw => by rw [← hWs] at hw; have := spl_mem hw; omega
      repeat' ((fail_if_success (guard_target =~ WPA _ _ _ (.region 10 _ _) _ _ _)); first | ((rw [e0])) | ((first | refine WLA.m rfl rfl ?_ ?_ | refine WLA.st rfl ?_ ?_ | refine WLA.x rfl rfl ?_ (fun x => ?_) | refine WLA.x0 rfl ?_ (fun x => ?_)); first | exact sdT | skip) | (refine Stp.go ?_) | (guard_target =~ WLA _ _ _ _ _ (⟨_, .call ⟨.value (.func 75), _, _⟩, _, _, _, _⟩ :: _) _ _; refine WLA.cq rfl rfl (hN) ?_) | (guard_target =~ WLA _ _ _ _ _ (⟨_, .call ⟨.value (.func 50), _, _⟩, _, _, _, _⟩ :: _) _ _; first | (refine WLA.callX rfl rfl (must_trX) (by intro y; refine QQ.thrw ?_; exact QQ.thrown ⟨y.1, .inr ⟨h0, fun k => of_decide_eq_false y.2.1 (hent k).1.2, y.2.2⟩⟩ rfl fun w h => (SL.to (L' := L') h).sub hKI.out) ?_; rintro ⟨⟨⟩, hlo⟩) | (refine WLA.callX0 rfl (must_trX) (by intro y; refine QQ.thrw ?_; exact QQ.thrown ⟨y.1, .inr ⟨h0, fun k => of_decide_eq_false y.2.1 (hent k).1.2, y.2.2⟩⟩ rfl fun w h => (SL.to (L' := L') h).sub hKI.out) ?_; rintro ⟨⟨⟩, hlo⟩)) | (refine WPA.ifT ?_) | (refine WPA.ifF ?_) | (refine WLA.no rfl rfl ?_) | ((first | refine WPA.dec ?_ | ((fail_if_success (guard_target =~ WLA _ _ _ _ _ _ (put1 _ _ (.bool true)) _)); (fail_if_success (guard_target =~ WLA _ _ _ _ _ _ (put1 _ _ (.bool false)) _)); refine WLA.dec rfl rfl ?_) | refine WLA.pk ?_); first | refine orL ?_ | refine orR ?_) | ((first | refine WPA.ifBt ?_ ?_ | refine WPA.ifBnf ?_ ?_); assumption) | ((first | refine WPA.ifBnt ?_ ?_ | refine WPA.ifBf ?_ ?_); assumption) | ((first | refine WPA.ifs ?_ ?_ | refine WPA.ifB ?_ ?_) <;> intro hc) | ((fail_if_success (guard_target =~ WLA _ _ _ _ _ _ (put1 _ _ (.bool true)) _)); (fail_if_success (guard_target =~ WLA _ _ _ _ _ _ (put1 _ _ (.bool false)) _)); (first | refine WLA.both rfl rfl ?_ ?_ | refine WLA.bothB rfl rfl ?_ ?_) <;> intro hg))
      replace hlo := of_decide_eq_true hlo
      repeat' (first | ((first | refine WLA.m rfl rfl ?_ ?_ | refine WLA.st rfl ?_ ?_ | refine WLA.x rfl rfl ?_ (fun x => ?_) | refine WLA.x0 rfl ?_ (fun x => ?_)); first | exact sdT | skip) | (refine Stp.go ?_) | (refine WPA.ifT ?_) | (refine WPA.ifF ?_) | ((first | refine WPA.dec ?_); first | refine orL ?_ | refine orR ?_) | ((first | refine WPA.ifBt ?_ ?_ | refine WPA.ifBnf ?_ ?_); assumption) | ((first | refine WPA.ifBnt ?_ ?_ | refine WPA.ifBf ?_ ?_); assumption) | ((first | refine WPA.ifs ?_ ?_ | refine WPA.ifB ?_ ?_) <;> intro hc))
      refine WPA.loopS (σ := Nat) (fun j => [(0, .pointer (some ⟨P, 0, none⟩)), (2, .bool false), (6, .pointer (some ⟨X6, 0, none⟩)), (7, .slice v.a v.n v.cap), (9, .pointer (some ⟨X9, 0, none⟩)), (51, .slice v2.a v2.n v2.cap), (52, .int .i64 ws.length), (53, .int .i64 j)]) (fun j => j ≤ ws.length ∧ ∀ i : Nat, i < j → PieceP (nthB ws i))
        (fun _ => SL w0 K (Bk X9 107 [.int .i64 (n + 1), .slice v2.a v2.n v2.cap, .int .i64 N0, .int .i64 0] :: PsH P (aftB s 10, n + 1) :: Bk X6 107 [.int .i64 0, .slice none 0 0, .int .i64 0, .int .i64 0] :: L')) (fun j => ws.length - j) 0 ⟨rfl, rfl, rfl, rfl, rfl, rfl, rfl, rfl, trivial⟩ ⟨Nat.zero_le _, fun i hi => absurd hi (Nat.not_lt_zero i)⟩ (fun w h => h.to) ?_
      rintro j ρ ⟨hj, hD⟩
      by_cases hlt : j < ws.length
      · have hlt' : (j : Int) < ws.length := by omega
        have hir : (0 : Int) ≤ j ∧ (j : Int) < ws.length := by omega
        have ew : at_ ws (j : Int) = nthB ws j := nth_at ws j
        have hwm : nthB ws j ∈ ws := by unfold nthB; rw [List.getD_eq_getElem?_getD, List.getElem?_eq_getElem hlt]; exact List.getElem_mem _
        have hz := hwz _ hwm
        obtain ⟨wj, hwj⟩ : ∃ q, nthB ws j = q := ⟨_, rfl⟩
        rw [hwj] at ew hwm hz
        have hp := fun {L : List HP} => piece_tr (s := wj) (w0 := w0) (I := K) (L := L) hz
        repeat' (first | ((rw [ew])) | ((first | refine WLA.m rfl rfl ?_ ?_ | refine WLA.st rfl ?_ ?_ | refine WLA.x rfl rfl ?_ (fun x => ?_) | refine WLA.x0 rfl ?_ (fun x => ?_)); first | exact sdT | skip) | (refine Stp.go ?_) | (guard_target =~ WLA _ _ _ _ _ (⟨_, .call ⟨.value (.func 77), _, _⟩, _, _, _, _⟩ :: _) _ _; refine WLA.cq rfl rfl (hp) ?_) | (guard_target =~ WLA _ _ _ _ _ (⟨_, .call ⟨.value (.func 50), _, _⟩, _, _, _, _⟩ :: _) _ _; first | (refine WLA.callX rfl rfl (must_trX) (by intro y; refine QQ.thrw ?_; exact QQ.thrown ⟨y.1, .inr ⟨h0, fun k => of_decide_eq_false y.2.1 ((hent k).2.1 wj hwm), y.2.2⟩⟩ rfl fun w h => (SL.to (L' := L') h).sub hKI.out) ?_; rintro ⟨⟨⟩, hpc⟩) | (refine WLA.callX0 rfl (must_trX) (by intro y; refine QQ.thrw ?_; exact QQ.thrown ⟨y.1, .inr ⟨h0, fun k => of_decide_eq_false y.2.1 ((hent k).2.1 wj hwm), y.2.2⟩⟩ rfl fun w h => (SL.to (L' := L') h).sub hKI.out) ?_; rintro ⟨⟨⟩, hpc⟩)) | (refine WPA.ifT ?_) | (refine WPA.ifF ?_) | ((first | refine WPA.dec ?_); first | refine orL ?_ | refine orR ?_) | ((first | refine WPA.ifBt ?_ ?_ | refine WPA.ifBnf ?_ ?_); assumption) | ((first | refine WPA.ifBnt ?_ ?_ | refine WPA.ifBf ?_ ?_); assumption) | ((first | refine WPA.ifs ?_ ?_ | refine WPA.ifB ?_ ?_) <;> intro hc))
        refine QQ.loopS (j + 1) ⟨rfl, rfl, rfl, rfl, rfl, rfl, rfl, rfl, trivial⟩ ⟨hlt, fun i hi => ?_⟩ (by omega) (fun w h => h.to)
        by_cases e : i = j
        · subst e; rw [hwj]; exact of_decide_eq_true hpc
        · exact hD i (by omega)
      · have hlt' : ¬ (j : Int) < ws.length := by omega
        have hall : ∀ w ∈ ws, PieceP w := fun w hw => by
          obtain ⟨i, hi, rfl⟩ := List.getElem_of_mem hw
          have := hD i (by omega)
          unfold nthB at this
          rw [List.getD_eq_getElem?_getD, List.getElem?_eq_getElem hi] at this
          exact this
        have hi2 : (0 : Int) ≤ 2 ∧ (2 : Int) < ps.length := by omega
        have hbt : (!true) = false := rfl
        have hbf : (!false) = true := rfl
        have hN2 := fun {L : List HP} => Number_tr (s := p2) (w0 := w0) (I := K) (L := L)
        by_cases hk2 : NumOk p2
        · rw [(num_yes hk2).2] at hN2
          repeat' (first | ((rw [e2])) | ((rw [hbf])) | ((first | refine WLA.m rfl rfl ?_ ?_ | refine WLA.st rfl ?_ ?_ | refine WLA.x rfl rfl ?_ (fun x => ?_) | refine WLA.x0 rfl ?_ (fun x => ?_)); first | exact sdT | skip) | (refine Stp.go ?_) | (guard_target =~ WLA _ _ _ _ _ (⟨_, .call ⟨.value (.func 75), _, _⟩, _, _, _, _⟩ :: _) _ _; refine WLA.cq rfl rfl (hN2) ?_) | (guard_target =~ WLA _ _ _ _ _ (⟨_, .call ⟨.value (.func 50), _, _⟩, _, _, _, _⟩ :: _) _ _; refine WLA.call rfl rfl (must_ok) ?_; rintro ⟨⟩) | (refine WPA.ifT ?_) | (refine WPA.ifF ?_) | ((first | refine WPA.dec ?_); first | refine orL ?_ | refine orR ?_) | ((first | refine WPA.ifBt ?_ ?_ | refine WPA.ifBnf ?_ ?_); assumption) | ((first | refine WPA.ifBnt ?_ ?_ | refine WPA.ifBf ?_ ?_); assumption) | ((first | refine WPA.ifs ?_ ?_ | refine WPA.ifB ?_ ?_) <;> intro hc))
          exact QQ.fnX_ret (QQ.endc rfl ⟨(v2, K), h0, hent2 ⟨⟨hN0, hlo⟩, hall, fun _ => hk2⟩, hKI, hv2⟩ rfl fun w h => h.to)
        · rw [(num_no hk2).2] at hN2
          repeat' (first | ((rw [e2])) | ((rw [hbf])) | ((first | refine WLA.m rfl rfl ?_ ?_ | refine WLA.st rfl ?_ ?_ | refine WLA.x rfl rfl ?_ (fun x => ?_) | refine WLA.x0 rfl ?_ (fun x => ?_)); first | exact sdT | skip) | (refine Stp.go ?_) | (guard_target =~ WLA _ _ _ _ _ (⟨_, .call ⟨.value (.func 75), _, _⟩, _, _, _, _⟩ :: _) _ _; refine WLA.cq rfl rfl (hN2) ?_) | (guard_target =~ WLA _ _ _ _ _ (⟨_, .call ⟨.value (.func 50), _, _⟩, _, _, _, _⟩ :: _) _ _; first | (refine WLA.callX rfl rfl (must_trX) (by intro y; refine QQ.thrw ?_; exact QQ.thrown ⟨y.1, .inr ⟨h0, fun k => hk2 ((hent k).2.2 rfl), y.2.2⟩⟩ rfl fun w h => (SL.to (L' := L') h).sub hKI.out) ?_; rintro ⟨⟨⟩, ⟨⟩⟩) | (refine WLA.callX0 rfl (must_trX) (by intro y; refine QQ.thrw ?_; exact QQ.thrown ⟨y.1, .inr ⟨h0, fun k => hk2 ((hent k).2.2 rfl), y.2.2⟩⟩ rfl fun w h => (SL.to (L' := L') h).sub hKI.out) ?_; rintro ⟨⟨⟩, ⟨⟩⟩)) | (refine WPA.ifT ?_) | (refine WPA.ifF ?_) | ((first | refine WPA.dec ?_); first | refine orL ?_ | refine orR ?_) | ((first | refine WPA.ifBt ?_ ?_ | refine WPA.ifBnf ?_ ?_); assumption) | ((first | refine WPA.ifBnt ?_ ?_ | refine WPA.ifBf ?_ ?_); assumption) | ((first | refine WPA.ifs ?_ ?_ | refine WPA.ifB ?_ ?_) <;> intro hc))
  | true =>
    repeat' ((fail_if_success (guard_target =~ WPA _ _ _ (.region 5 _ _) _ _ _)); first | ((first | refine WLA.m rfl rfl ?_ ?_ | refine WLA.st rfl ?_ ?_ | refine WLA.x rfl rfl ?_ (fun x => ?_) | refine WLA.x0 rfl ?_ (fun x => ?_)); first | exact sdT | skip) | (refine Stp.go ?_) | (guard_target =~ WLA _ _ _ _ _ (⟨_, .call ⟨.value (.func 51), _, _⟩, _, _, _, _⟩ :: _) _ _; first | (refine WLA.callX rfl rfl (next_trX hsz ⟨hn.1, by omega⟩) (by intro y; refine QQ.thrw ?_; exact QQ.thrown ⟨y.1, .inl y.2⟩ rfl fun w h => h.to) ?_; rintro ⟨⟨⟩, h0⟩) | (refine WLA.callX0 rfl (next_trX hsz ⟨hn.1, by omega⟩) (by intro y; refine QQ.thrw ?_; exact QQ.thrown ⟨y.1, .inl y.2⟩ rfl fun w h => h.to) ?_; rintro ⟨⟨⟩, h0⟩)) | (guard_target =~ WLA _ _ _ _ _ (⟨_, .call ⟨.value (.func 76), _, _⟩, _, _, _, _⟩ :: _) _ _; refine WLA.call rfl rfl (Split_tr hbz) ?_; rintro ⟨v, J⟩; dsimp only; refine WLA.pure fun hv => ?_) | (refine WPA.ifT ?_) | (refine WPA.ifF ?_) | ((first | refine WPA.dec ?_); first | refine orL ?_ | refine orR ?_) | ((first | refine WPA.ifBt ?_ ?_ | refine WPA.ifBnf ?_ ?_); assumption) | ((first | refine WPA.ifBnt ?_ ?_ | refine WPA.ifBf ?_ ?_); assumption) | ((first | refine WPA.ifs ?_ ?_ | refine WPA.ifB ?_ ?_) <;> intro hc))
    obtain ⟨hJ, hv⟩ := hv
    have hpz := fun i => nth_sz (s := befB s 10) (c := 9) i
    have hm5 : ∀ k : EntOk o true (befB s 10), ((splB (befB s 10) 9).length : Int) = 2 := fun k => by simpa using k.1
    repeat' ((fail_if_success (guard_target =~ WPA _ _ _ (.region 6 _ _) _ _ _)); first | ((first | refine WLA.m rfl rfl ?_ ?_ | refine WLA.st rfl ?_ ?_ | refine WLA.x rfl rfl ?_ (fun x => ?_) | refine WLA.x0 rfl ?_ (fun x => ?_)); first | exact sdT | skip) | (refine Stp.go ?_) | (guard_target =~ WLA _ _ _ _ _ (⟨_, .call ⟨.value (.func 50), _, _⟩, _, _, _, _⟩ :: _) _ _; first | (refine WLA.callX rfl rfl (must_trX) (by intro y; refine QQ.thrw ?_; exact QQ.thrown ⟨y.1, .inr ⟨h0, fun k => of_decide_eq_false y.2.1 (hm5 k), y.2.2⟩⟩ rfl fun w h => (SL.to (L' := L') h).sub hJ.out) ?_; rintro ⟨⟨⟩, hl⟩) | (refine WLA.callX0 rfl (must_trX) (by intro y; refine QQ.thrw ?_; exact QQ.thrown ⟨y.1, .inr ⟨h0, fun k => of_decide_eq_false y.2.1 (hm5 k), y.2.2⟩⟩ rfl fun w h => (SL.to (L' := L') h).sub hJ.out) ?_; rintro ⟨⟨⟩, hl⟩)) | (refine WPA.ifT ?_) | (refine WPA.ifF ?_) | ((first | refine WPA.dec ?_); first | refine orL ?_ | refine orR ?_) | ((first | refine WPA.ifBt ?_ ?_ | refine WPA.ifBnf ?_ ?_); assumption) | ((first | refine WPA.ifBnt ?_ ?_ | refine WPA.ifBf ?_ ?_); assumption) | ((first | refine WPA.ifs ?_ ?_ | refine WPA.ifB ?_ ?_) <;> intro hc))
    replace hl := of_decide_eq_true hl
    have hent : ∀ k : EntOk o true (befB s 10), _ := fun k => k.2
    have hent2 : (NumOk (nthB (splB (befB s 10) 9) 0) ∧ ((splB (nthB (splB (befB s 10) 9) 1) 32).length : Int) = o) ∧ (∀ w ∈ splB (nthB (splB (befB s 10) 9) 1) 32, PieceP w) ∧ (true = false → NumOk (nthB (splB (befB s 10) 9) 2)) → EntOk o true (befB s 10) := fun k => ⟨by simpa using hl, k⟩
    clear hm5
    generalize hPs : splB (befB s 10) 9 = ps at hv hl hpz hent hent2 ⊢
    have e0 : at_ ps 0 = nthB ps 0 := nth_at ps 0
    have e1 : at_ ps 1 = nthB ps 1 := nth_at ps 1
    have e2 : at_ ps 2 = nthB ps 2 := nth_at ps 2
    have z0 := hpz 0
    have z1 := hpz 1
    have z2 := hpz 2
    have hi0 : (0 : Int) ≤ 0 ∧ (0 : Int) < ps.length := by omega
    have hi1 : (0 : Int) ≤ 1 ∧ (1 : Int) < ps.length := by omega
    generalize nthB ps 0 = p0 at e0 z0 hent hent2 ⊢
    generalize nthB ps 1 = p1 at e1 z1 hent hent2 ⊢
    generalize nthB ps 2 = p2 at e2 z2 hent hent2 ⊢
    have hS := fun {L : List HP} => Split_trS (s := p1) (c := 32) (w0 := w0) (I := J) (L := L) (by omega)
    repeat' ((fail_if_success (guard_target =~ WPA _ _ _ (.region 7 _ _) _ _ _)); first | ((rw [e1])) | ((first | refine WLA.m rfl rfl ?_ ?_ | refine WDQ.m rfl rfl ?_ ?_ | refine WLA.st rfl ?_ ?_ | refine WLA.x rfl rfl ?_ (fun x => ?_) | refine WLA.x0 rfl ?_ (fun x => ?_)); first | exact sdT | skip) | (refine Stp.go ?_) | (guard_target =~ WLA _ _ _ _ _ (⟨_, .call ⟨.value (.func 76), _, _⟩, _, _, _, _⟩ :: _) _ _; refine WLA.call rfl rfl (hS) ?_; rintro ⟨⟨v2, R⟩, hv2⟩) | (refine WPA.ifT ?_) | (refine WPA.ifF ?_) | ((first | refine WPA.dec ?_); first | refine orL ?_ | refine orR ?_) | ((first | refine WPA.ifBt ?_ ?_ | refine WPA.ifBnf ?_ ?_); assumption) | ((first | refine WPA.ifBnt ?_ ?_ | refine WPA.ifBf ?_ ?_); assumption) | ((first | refine WPA.ifs ?_ ?_ | refine WPA.ifB ?_ ?_) <;> intro hc) | (guard_target =~ WPA _ _ _ (.region 6 _ true) _ _ _; refine WPA.drawT 10 (.q 0 (.q 1 (.q 2 (.q 3 (.q 4 (.q 5 (.q 6 (.b false 7 (.q 8 (.e 9 .fin)) false 9 (.e 7 (.q 8 .fin)))))))))) mixed ?_ ?_; kernel_rfl) | (refine WDA.finish (tl := [⟨_, _, _, _, _, _⟩]) rfl ?_) | (refine WDQ.see rfl ?_) | (first | (refine WDA.two rfl rfl ?_ ?_) | (refine WDA.twoL rfl rfl ?_ ?_) | (refine WDA.twoR rfl rfl ?_ ?_) | (refine WDA.twoW rfl rfl ?_ ?_)) | (refine WDE.see rfl ?_) | (refine WDE.alloc rfl rfl (fun w h => h) (fun x => ?_)) | (refine WDE.stE rfl ?_) | (refine WDE.x rfl rfl ?_ ?_ (fun x => ?_); rotate_left 1; (intro x w h; first | exact h | exact Ent.drop1.sl h | exact SL.unI h | exact SL.to h); rotate_left 1; first | exact sdT | skip) | (guard_target =~ WDE _ _ _ _ _ _ _ ⟨_, .call ⟨.value (.func 76), _, _⟩, _, _, _, _⟩ _ _ _; refine WDE.call rfl rfl (hS) ?_ ?_; (intro x w h; first | exact h | exact Ent.drop1.sl h | exact SL.unI h | exact SL.to h); rintro ⟨⟨v2, R⟩, hv2⟩) | (guard_target =~ WDW _ _ _ _ _ _ _ ⟨_, .call ⟨.value (.func 76), _, _⟩, _, _, _, _⟩ _ _ _; refine WDW.call rfl rfl (hS) ?_; rintro ⟨⟨v2, R⟩, hv2⟩))
    all_goals
      dsimp only at hv2 ⊢
      revert x; intro X9
      revert x; intro X6
      have hKJ : SubI (R ++ J) J := inferInstance
      have hvK : SlI (R ++ J) v ByteArray inferInstance ps := hv.sub
      generalize R ++ J = K at hv2 hKJ hvK ⊢
      have hKI : SubI K I := ⟨fun z hz => hKJ.out (hJ.out hz)⟩
      refine WPA.ent (EntC.out (L' := Bk X9 107 [.int .i64 (n + 1), .slice v2.a v2.n v2.cap, .int .i64 0, .int .i64 0] :: PsH P (aftB s 10, n + 1) :: Bk X6 107 [.int .i64 0, .slice none 0 0, .int .i64 0, .int .i64 0] :: L')) ?_
      have hN := fun {L : List HP} => Number_tr (s := p0) (w0 := w0) (I := K) (L := L)
      by_cases hN0 : NumOk p0
      case neg =>
        rw [(num_no hN0).2] at hN
        repeat' (first | ((rw [e0])) | ((first | refine WLA.m rfl rfl ?_ ?_ | refine WLA.st rfl ?_ ?_ | refine WLA.x rfl rfl ?_ (fun x => ?_) | refine WLA.x0 rfl ?_ (fun x => ?_)); first | exact sdT | skip) | (refine Stp.go ?_) | (guard_target =~ WLA _ _ _ _ _ (⟨_, .call ⟨.value (.func 75), _, _⟩, _, _, _, _⟩ :: _) _ _; refine WLA.cq rfl rfl (hN) ?_) | (guard_target =~ WLA _ _ _ _ _ (⟨_, .call ⟨.value (.func 50), _, _⟩, _, _, _, _⟩ :: _) _ _; first | (refine WLA.callX rfl rfl (must_trX) (by intro y; refine QQ.thrw ?_; exact QQ.thrown ⟨y.1, .inr ⟨h0, fun k => hN0 (hent k).1.1, y.2.2⟩⟩ rfl fun w h => (SL.to (L' := L') h).sub hKI.out) ?_; rintro ⟨⟨⟩, ⟨⟩⟩) | (refine WLA.callX0 rfl (must_trX) (by intro y; refine QQ.thrw ?_; exact QQ.thrown ⟨y.1, .inr ⟨h0, fun k => hN0 (hent k).1.1, y.2.2⟩⟩ rfl fun w h => (SL.to (L' := L') h).sub hKI.out) ?_; rintro ⟨⟨⟩, ⟨⟩⟩)) | (refine WPA.ifT ?_) | (refine WPA.ifF ?_) | (refine WLA.no rfl rfl ?_) | ((first | refine WPA.dec ?_ | ((fail_if_success (guard_target =~ WLA _ _ _ _ _ _ (put1 _ _ (.bool true)) _)); (fail_if_success (guard_target =~ WLA _ _ _ _ _ _ (put1 _ _ (.bool false)) _)); refine WLA.dec rfl rfl ?_) | refine WLA.pk ?_); first | refine orL ?_ | refine orR ?_) | ((first | refine WPA.ifBt ?_ ?_ | refine WPA.ifBnf ?_ ?_); assumption) | ((first | refine WPA.ifBnt ?_ ?_ | refine WPA.ifBf ?_ ?_); assumption) | ((first | refine WPA.ifs ?_ ?_ | refine WPA.ifB ?_ ?_) <;> intro hc) | ((fail_if_success (guard_target =~ WLA _ _ _ _ _ _ (put1 _ _ (.bool true)) _)); (fail_if_success (guard_target =~ WLA _ _ _ _ _ _ (put1 _ _ (.bool false)) _)); (first | refine WLA.both rfl rfl ?_ ?_ | refine WLA.bothB rfl rfl ?_ ?_) <;> intro hg))
      rw [(num_yes hN0).2] at hN
      generalize numV p0 = N0 at hN ⊢
      generalize hWs : splB p1 32 = ws at hv2 hent hent2 ⊢
      have hwl : ws.length ≤ 1000001 := by rw [← hWs]; unfold splB; rw [splF_len]; have := cnt_le p1 32; omega
      have hwz : ∀ w ∈ ws, w.size ≤ 1000000 := fun w hw => by rw [← hWs] at hw; have := spl_mem hw; omega
      repeat' ((fail_if_success (guard_target =~ WPA _ _ _ (.region 10 _ _) _ _ _)); first | ((rw [e0])) | ((first | refine WLA.m rfl rfl ?_ ?_ | refine WLA.st rfl ?_ ?_ | refine WLA.x rfl rfl ?_ (fun x => ?_) | refine WLA.x0 rfl ?_ (fun x => ?_)); first | exact sdT | skip) | (refine Stp.go ?_) | (guard_target =~ WLA _ _ _ _ _ (⟨_, .call ⟨.value (.func 75), _, _⟩, _, _, _, _⟩ :: _) _ _; refine WLA.cq rfl rfl (hN) ?_) | (guard_target =~ WLA _ _ _ _ _ (⟨_, .call ⟨.value (.func 50), _, _⟩, _, _, _, _⟩ :: _) _ _; first | (refine WLA.callX rfl rfl (must_trX) (by intro y; refine QQ.thrw ?_; exact QQ.thrown ⟨y.1, .inr ⟨h0, fun k => of_decide_eq_false y.2.1 (hent k).1.2, y.2.2⟩⟩ rfl fun w h => (SL.to (L' := L') h).sub hKI.out) ?_; rintro ⟨⟨⟩, hlo⟩) | (refine WLA.callX0 rfl (must_trX) (by intro y; refine QQ.thrw ?_; exact QQ.thrown ⟨y.1, .inr ⟨h0, fun k => of_decide_eq_false y.2.1 (hent k).1.2, y.2.2⟩⟩ rfl fun w h => (SL.to (L' := L') h).sub hKI.out) ?_; rintro ⟨⟨⟩, hlo⟩)) | (refine WPA.ifT ?_) | (refine WPA.ifF ?_) | (refine WLA.no rfl rfl ?_) | ((first | refine WPA.dec ?_ | ((fail_if_success (guard_target =~ WLA _ _ _ _ _ _ (put1 _ _ (.bool true)) _)); (fail_if_success (guard_target =~ WLA _ _ _ _ _ _ (put1 _ _ (.bool false)) _)); refine WLA.dec rfl rfl ?_) | refine WLA.pk ?_); first | refine orL ?_ | refine orR ?_) | ((first | refine WPA.ifBt ?_ ?_ | refine WPA.ifBnf ?_ ?_); assumption) | ((first | refine WPA.ifBnt ?_ ?_ | refine WPA.ifBf ?_ ?_); assumption) | ((first | refine WPA.ifs ?_ ?_ | refine WPA.ifB ?_ ?_) <;> intro hc) | ((fail_if_success (guard_target =~ WLA _ _ _ _ _ _ (put1 _ _ (.bool true)) _)); (fail_if_success (guard_target =~ WLA _ _ _ _ _ _ (put1 _ _ (.bool false)) _)); (first | refine WLA.both rfl rfl ?_ ?_ | refine WLA.bothB rfl rfl ?_ ?_) <;> intro hg))
      replace hlo := of_decide_eq_true hlo
      repeat' (first | ((first | refine WLA.m rfl rfl ?_ ?_ | refine WLA.st rfl ?_ ?_ | refine WLA.x rfl rfl ?_ (fun x => ?_) | refine WLA.x0 rfl ?_ (fun x => ?_)); first | exact sdT | skip) | (refine Stp.go ?_) | (refine WPA.ifT ?_) | (refine WPA.ifF ?_) | ((first | refine WPA.dec ?_); first | refine orL ?_ | refine orR ?_) | ((first | refine WPA.ifBt ?_ ?_ | refine WPA.ifBnf ?_ ?_); assumption) | ((first | refine WPA.ifBnt ?_ ?_ | refine WPA.ifBf ?_ ?_); assumption) | ((first | refine WPA.ifs ?_ ?_ | refine WPA.ifB ?_ ?_) <;> intro hc))
      refine WPA.loopS (σ := Nat) (fun j => [(0, .pointer (some ⟨P, 0, none⟩)), (2, .bool true), (6, .pointer (some ⟨X6, 0, none⟩)), (7, .slice v.a v.n v.cap), (9, .pointer (some ⟨X9, 0, none⟩)), (51, .slice v2.a v2.n v2.cap), (52, .int .i64 ws.length), (53, .int .i64 j)]) (fun j => j ≤ ws.length ∧ ∀ i : Nat, i < j → PieceP (nthB ws i))
        (fun _ => SL w0 K (Bk X9 107 [.int .i64 (n + 1), .slice v2.a v2.n v2.cap, .int .i64 N0, .int .i64 0] :: PsH P (aftB s 10, n + 1) :: Bk X6 107 [.int .i64 0, .slice none 0 0, .int .i64 0, .int .i64 0] :: L')) (fun j => ws.length - j) 0 ⟨rfl, rfl, rfl, rfl, rfl, rfl, rfl, rfl, trivial⟩ ⟨Nat.zero_le _, fun i hi => absurd hi (Nat.not_lt_zero i)⟩ (fun w h => h.to) ?_
      rintro j ρ ⟨hj, hD⟩
      by_cases hlt : j < ws.length
      · have hlt' : (j : Int) < ws.length := by omega
        have hir : (0 : Int) ≤ j ∧ (j : Int) < ws.length := by omega
        have ew : at_ ws (j : Int) = nthB ws j := nth_at ws j
        have hwm : nthB ws j ∈ ws := by unfold nthB; rw [List.getD_eq_getElem?_getD, List.getElem?_eq_getElem hlt]; exact List.getElem_mem _
        have hz := hwz _ hwm
        obtain ⟨wj, hwj⟩ : ∃ q, nthB ws j = q := ⟨_, rfl⟩
        rw [hwj] at ew hwm hz
        have hp := fun {L : List HP} => piece_tr (s := wj) (w0 := w0) (I := K) (L := L) hz
        repeat' (first | ((rw [ew])) | ((first | refine WLA.m rfl rfl ?_ ?_ | refine WLA.st rfl ?_ ?_ | refine WLA.x rfl rfl ?_ (fun x => ?_) | refine WLA.x0 rfl ?_ (fun x => ?_)); first | exact sdT | skip) | (refine Stp.go ?_) | (guard_target =~ WLA _ _ _ _ _ (⟨_, .call ⟨.value (.func 77), _, _⟩, _, _, _, _⟩ :: _) _ _; refine WLA.cq rfl rfl (hp) ?_) | (guard_target =~ WLA _ _ _ _ _ (⟨_, .call ⟨.value (.func 50), _, _⟩, _, _, _, _⟩ :: _) _ _; first | (refine WLA.callX rfl rfl (must_trX) (by intro y; refine QQ.thrw ?_; exact QQ.thrown ⟨y.1, .inr ⟨h0, fun k => of_decide_eq_false y.2.1 ((hent k).2.1 wj hwm), y.2.2⟩⟩ rfl fun w h => (SL.to (L' := L') h).sub hKI.out) ?_; rintro ⟨⟨⟩, hpc⟩) | (refine WLA.callX0 rfl (must_trX) (by intro y; refine QQ.thrw ?_; exact QQ.thrown ⟨y.1, .inr ⟨h0, fun k => of_decide_eq_false y.2.1 ((hent k).2.1 wj hwm), y.2.2⟩⟩ rfl fun w h => (SL.to (L' := L') h).sub hKI.out) ?_; rintro ⟨⟨⟩, hpc⟩)) | (refine WPA.ifT ?_) | (refine WPA.ifF ?_) | ((first | refine WPA.dec ?_); first | refine orL ?_ | refine orR ?_) | ((first | refine WPA.ifBt ?_ ?_ | refine WPA.ifBnf ?_ ?_); assumption) | ((first | refine WPA.ifBnt ?_ ?_ | refine WPA.ifBf ?_ ?_); assumption) | ((first | refine WPA.ifs ?_ ?_ | refine WPA.ifB ?_ ?_) <;> intro hc))
        refine QQ.loopS (j + 1) ⟨rfl, rfl, rfl, rfl, rfl, rfl, rfl, rfl, trivial⟩ ⟨hlt, fun i hi => ?_⟩ (by omega) (fun w h => h.to)
        by_cases e : i = j
        · subst e; rw [hwj]; exact of_decide_eq_true hpc
        · exact hD i (by omega)
      · have hlt' : ¬ (j : Int) < ws.length := by omega
        have hall : ∀ w ∈ ws, PieceP w := fun w hw => by
          obtain ⟨i, hi, rfl⟩ := List.getElem_of_mem hw
          have := hD i (by omega)
          unfold nthB at this
          rw [List.getD_eq_getElem?_getD, List.getElem?_eq_getElem hi] at this
          exact this
        have hbt : (!true) = false := rfl
        repeat' (first | ((rw [hbt])) | ((first | refine WLA.m rfl rfl ?_ ?_ | refine WLA.st rfl ?_ ?_ | refine WLA.x rfl rfl ?_ (fun x => ?_) | refine WLA.x0 rfl ?_ (fun x => ?_)); first | exact sdT | skip) | (refine Stp.go ?_) | (refine WPA.ifT ?_) | (refine WPA.ifF ?_) | ((first | refine WPA.dec ?_); first | refine orL ?_ | refine orR ?_) | ((first | refine WPA.ifBt ?_ ?_ | refine WPA.ifBnf ?_ ?_); assumption) | ((first | refine WPA.ifBnt ?_ ?_ | refine WPA.ifBf ?_ ?_); assumption) | ((first | refine WPA.ifs ?_ ?_ | refine WPA.ifB ?_ ?_) <;> intro hc))
        exact QQ.fnX_ret (QQ.endc rfl ⟨(v2, K), h0, hent2 ⟨⟨hN0, hlo⟩, hall, fun h => by cases h⟩, hKI, hv2⟩ rfl fun w h => h.to)
end
end Go.Proofs.YthkhneimfjaohaaGreatDoor
namespace Go.Proofs.YthkhneimfjaohaaGreatDoor
open Go Go.Fw Go.RowKit
set_option linter.unusedVariables false
set_option linter.unusedSimpArgs false
set_option maxRecDepth 100000
set_option maxHeartbeats 16000000
set_option synthInstance.maxHeartbeats 200000
set_option synthInstance.maxSize 100000
attribute [local irreducible] WPA WLA WDA WDQ WDE QQ seqQ blockQ loopQ fnQ OpP OpT Tr TrP SL SLd OwnS LitS Bk BkE Ob
section
variable {L L' : List HP} {w0 : World} {I : Foot} {s p : ByteArray}
theorem rNumber_tr : TrP Tryz.prog 56 #[.string s] (SL w0 I L) (.tuple #[.int .i64 (numV s), .bool (numB s)]) := by
  refine TrP.ofD fun u => Tr.intro Tryz.func56 rfl Tryz.ntmps56 rfl ?_
  by_cases he : s = ⟨#[]⟩
  · have hh : ¬ hasP s mnB := fun h => by have := (hasP_mn.1 h).1; rw [he] at this; exact absurd this (by decide)
    have hd : digS s = s := if_neg hh
    have hno := num_no (s := s) fun h => h.1.1 (by rw [hd]; exact he)
    rw [hno.1, hno.2]
    repeat' (first | ((first | refine WLA.m rfl rfl ?_ ?_ | refine WLA.st rfl ?_ ?_ | refine WLA.x rfl rfl ?_ (fun x => ?_) | refine WLA.x0 rfl ?_ (fun x => ?_)); first | exact sdT | skip) | (refine Stp.go ?_) | (refine WPA.ifT ?_) | (refine WPA.ifF ?_) | (refine WLA.no rfl rfl ?_) | ((first | refine WPA.dec ?_ | ((fail_if_success (guard_target =~ WLA _ _ _ _ _ _ (put1 _ _ (.bool true)) _)); (fail_if_success (guard_target =~ WLA _ _ _ _ _ _ (put1 _ _ (.bool false)) _)); refine WLA.dec rfl rfl ?_) | refine WLA.pk ?_); first | refine orL ?_ | refine orR ?_) | ((first | refine WPA.ifBt ?_ ?_ | refine WPA.ifBnf ?_ ?_); assumption) | ((first | refine WPA.ifBnt ?_ ?_ | refine WPA.ifBf ?_ ?_); assumption) | ((first | refine WPA.ifs ?_ ?_ | refine WPA.ifB ?_ ?_) <;> intro hc) | ((fail_if_success (guard_target =~ WLA _ _ _ _ _ _ (put1 _ _ (.bool true)) _)); (fail_if_success (guard_target =~ WLA _ _ _ _ _ _ (put1 _ _ (.bool false)) _)); (first | refine WLA.both rfl rfl ?_ ?_ | refine WLA.bothB rfl rfl ?_ ?_) <;> intro hg))
    exact QQ.end_ rfl () rfl fun w h => h
  have hs0 : 0 < s.size := by
    rcases Nat.eq_zero_or_pos s.size with e | e
    · exact absurd (ext_same (t := ⟨#[]⟩) (by rw [e]; rfl) fun j hj => by omega) he
    · exact e
  have hs1 : (0 : Int) ≤ 0 ∧ (0 : Int) < s.size := by omega
  have hs2 : (0 : Int) ≤ 1 ∧ (1 : Int) ≤ s.size := by omega
  obtain ⟨d, hd2⟩ : ∃ d, digS s = d := ⟨_, rfl⟩
  have hb : (hasP s mnB ∧ bt s 0 = 45 ∧ s.extract (1 : Int).toNat (s.size : Int).toNat = d) ∨ (¬ hasP s mnB ∧ ¬ bt s 0 = 45 ∧ s = d) := by
    by_cases h : hasP s mnB
    · refine .inl ⟨h, (hasP_mn.1 h).2, ?_⟩
      rw [← hd2]; unfold digS cutP; rw [if_pos h]; rfl
    · refine .inr ⟨h, fun k => h (hasP_mn.2 ⟨hs0, k⟩), ?_⟩
      rw [← hd2]; unfold digS cutP; rw [if_neg h]
  obtain ⟨mb, hmb⟩ : ∃ mb, mb = decide (hasP s mnB) := ⟨_, rfl⟩
  rcases hb with ⟨hm, h45, hx⟩ | ⟨hm, h45, hx⟩
  · rw [decide_eq_true hm] at hmb
    subst hmb
    repeat' ((fail_if_success (guard_target =~ WPA _ _ _ (.region 5 _ _) _ _ _)); first | ((rw [hx])) | ((first | refine WLA.m rfl rfl ?_ ?_ | refine WLA.st rfl ?_ ?_ | refine WLA.x rfl rfl ?_ (fun x => ?_) | refine WLA.x0 rfl ?_ (fun x => ?_)); first | exact sdT | skip) | (refine Stp.go ?_) | (refine WPA.ifT ?_) | (refine WPA.ifF ?_) | (refine WLA.no rfl rfl ?_) | ((first | refine WPA.dec ?_ | ((fail_if_success (guard_target =~ WLA _ _ _ _ _ _ (put1 _ _ (.bool true)) _)); (fail_if_success (guard_target =~ WLA _ _ _ _ _ _ (put1 _ _ (.bool false)) _)); refine WLA.dec rfl rfl ?_) | refine WLA.pk ?_); first | refine orL ?_ | refine orR ?_) | ((first | refine WPA.ifBt ?_ ?_ | refine WPA.ifBnf ?_ ?_); assumption) | ((first | refine WPA.ifBnt ?_ ?_ | refine WPA.ifBf ?_ ?_); assumption) | ((first | refine WPA.ifs ?_ ?_ | refine WPA.ifB ?_ ?_) <;> intro hc) | ((fail_if_success (guard_target =~ WLA _ _ _ _ _ _ (put1 _ _ (.bool true)) _)); (fail_if_success (guard_target =~ WLA _ _ _ _ _ _ (put1 _ _ (.bool false)) _)); (first | refine WLA.both rfl rfl ?_ ?_ | refine WLA.bothB rfl rfl ?_ ?_) <;> intro hg))
    by_cases h0 : d = ⟨#[]⟩
    · have hno := num_no (s := s) fun h => h.1.1 (by rw [hd2]; exact h0)
      rw [hno.1, hno.2]
      repeat' (first | ((first | refine WLA.m rfl rfl ?_ ?_ | refine WLA.st rfl ?_ ?_ | refine WLA.x rfl rfl ?_ (fun x => ?_) | refine WLA.x0 rfl ?_ (fun x => ?_)); first | exact sdT | skip) | (refine Stp.go ?_) | (refine WPA.ifT ?_) | (refine WPA.ifF ?_) | (refine WLA.no rfl rfl ?_) | ((first | refine WPA.dec ?_ | ((fail_if_success (guard_target =~ WLA _ _ _ _ _ _ (put1 _ _ (.bool true)) _)); (fail_if_success (guard_target =~ WLA _ _ _ _ _ _ (put1 _ _ (.bool false)) _)); refine WLA.dec rfl rfl ?_) | refine WLA.pk ?_); first | refine orL ?_ | refine orR ?_) | ((first | refine WPA.ifBt ?_ ?_ | refine WPA.ifBnf ?_ ?_); assumption) | ((first | refine WPA.ifBnt ?_ ?_ | refine WPA.ifBf ?_ ?_); assumption) | ((first | refine WPA.ifs ?_ ?_ | refine WPA.ifB ?_ ?_) <;> intro hc) | ((fail_if_success (guard_target =~ WLA _ _ _ _ _ _ (put1 _ _ (.bool true)) _)); (fail_if_success (guard_target =~ WLA _ _ _ _ _ _ (put1 _ _ (.bool false)) _)); (first | refine WLA.both rfl rfl ?_ ?_ | refine WLA.bothB rfl rfl ?_ ?_) <;> intro hg))
      exact QQ.end_ rfl () rfl fun w h => h
    by_cases h18 : (18 : Int) < d.size
    · have hno := num_no (s := s) fun h => by have := h.1.2; rw [hd2] at this; omega
      rw [hno.1, hno.2]
      repeat' (first | ((first | refine WLA.m rfl rfl ?_ ?_ | refine WLA.st rfl ?_ ?_ | refine WLA.x rfl rfl ?_ (fun x => ?_) | refine WLA.x0 rfl ?_ (fun x => ?_)); first | exact sdT | skip) | (refine Stp.go ?_) | (refine WPA.ifT ?_) | (refine WPA.ifF ?_) | (refine WLA.no rfl rfl ?_) | ((first | refine WPA.dec ?_ | ((fail_if_success (guard_target =~ WLA _ _ _ _ _ _ (put1 _ _ (.bool true)) _)); (fail_if_success (guard_target =~ WLA _ _ _ _ _ _ (put1 _ _ (.bool false)) _)); refine WLA.dec rfl rfl ?_) | refine WLA.pk ?_); first | refine orL ?_ | refine orR ?_) | ((first | refine WPA.ifBt ?_ ?_ | refine WPA.ifBnf ?_ ?_); assumption) | ((first | refine WPA.ifBnt ?_ ?_ | refine WPA.ifBf ?_ ?_); assumption) | ((first | refine WPA.ifs ?_ ?_ | refine WPA.ifB ?_ ?_) <;> intro hc) | ((fail_if_success (guard_target =~ WLA _ _ _ _ _ _ (put1 _ _ (.bool true)) _)); (fail_if_success (guard_target =~ WLA _ _ _ _ _ _ (put1 _ _ (.bool false)) _)); (first | refine WLA.both rfl rfl ?_ ?_ | refine WLA.bothB rfl rfl ?_ ?_) <;> intro hg))
      exact QQ.end_ rfl () rfl fun w h => h
    have hpos : 0 < d.size := by have := digS_pos (s := s) (by rw [hd2]; exact h0); rw [hd2] at this; exact this
    have hp0 : (0 : Int) ≤ 0 ∧ (0 : Int) < d.size := by omega
    by_cases hz : bt d 0 = 48 ∧ s ≠ zrB
    · obtain ⟨hz1, hz2⟩ := hz
      have hno := num_no (s := s) fun h => hz2 (h.2.1 (by rw [hd2]; exact hz1))
      rw [hno.1, hno.2]
      have hz3 : ¬ s = ⟨#[48]⟩ := hz2
      repeat' (first | ((first | refine WLA.m rfl rfl ?_ ?_ | refine WLA.st rfl ?_ ?_ | refine WLA.x rfl rfl ?_ (fun x => ?_) | refine WLA.x0 rfl ?_ (fun x => ?_)); first | exact sdT | skip) | (refine Stp.go ?_) | (refine WPA.ifT ?_) | (refine WPA.ifF ?_) | (refine WLA.no rfl rfl ?_) | ((first | refine WPA.dec ?_ | ((fail_if_success (guard_target =~ WLA _ _ _ _ _ _ (put1 _ _ (.bool true)) _)); (fail_if_success (guard_target =~ WLA _ _ _ _ _ _ (put1 _ _ (.bool false)) _)); refine WLA.dec rfl rfl ?_) | refine WLA.pk ?_); first | refine orL ?_ | refine orR ?_) | ((first | refine WPA.ifBt ?_ ?_ | refine WPA.ifBnf ?_ ?_); assumption) | ((first | refine WPA.ifBnt ?_ ?_ | refine WPA.ifBf ?_ ?_); assumption) | ((first | refine WPA.ifs ?_ ?_ | refine WPA.ifB ?_ ?_) <;> intro hc) | ((fail_if_success (guard_target =~ WLA _ _ _ _ _ _ (put1 _ _ (.bool true)) _)); (fail_if_success (guard_target =~ WLA _ _ _ _ _ _ (put1 _ _ (.bool false)) _)); (first | refine WLA.both rfl rfl ?_ ?_ | refine WLA.bothB rfl rfl ?_ ?_) <;> intro hg))
      exact QQ.end_ rfl () rfl fun w h => h
    have hz4 : (bt d 0 = 48 ∧ s = ⟨#[48]⟩) ∨ ¬ bt d 0 = 48 := by
      by_cases h1 : bt d 0 = 48
      · by_cases h2 : s = zrB
        · exact .inl ⟨h1, h2⟩
        · exact absurd ⟨h1, h2⟩ hz
      · exact .inr h1
    rcases hz4 with ⟨hz1, hz2⟩ | hz1
    all_goals
      repeat' (first | ((first | refine WLA.m rfl rfl ?_ ?_ | refine WLA.st rfl ?_ ?_ | refine WLA.x rfl rfl ?_ (fun x => ?_) | refine WLA.x0 rfl ?_ (fun x => ?_)); first | exact sdT | skip) | (refine Stp.go ?_) | (refine WPA.ifT ?_) | (refine WPA.ifF ?_) | (refine WLA.no rfl rfl ?_) | ((first | refine WPA.dec ?_ | ((fail_if_success (guard_target =~ WLA _ _ _ _ _ _ (put1 _ _ (.bool true)) _)); (fail_if_success (guard_target =~ WLA _ _ _ _ _ _ (put1 _ _ (.bool false)) _)); refine WLA.dec rfl rfl ?_) | refine WLA.pk ?_); first | refine orL ?_ | refine orR ?_) | ((first | refine WPA.ifBt ?_ ?_ | refine WPA.ifBnf ?_ ?_); assumption) | ((first | refine WPA.ifBnt ?_ ?_ | refine WPA.ifBf ?_ ?_); assumption) | ((first | refine WPA.ifs ?_ ?_ | refine WPA.ifB ?_ ?_) <;> intro hc) | ((fail_if_success (guard_target =~ WLA _ _ _ _ _ _ (put1 _ _ (.bool true)) _)); (fail_if_success (guard_target =~ WLA _ _ _ _ _ _ (put1 _ _ (.bool false)) _)); (first | refine WLA.both rfl rfl ?_ ?_ | refine WLA.bothB rfl rfl ?_ ?_) <;> intro hg))
    all_goals
      refine WPA.loopS (σ := Nat) (fun n => [(0, .string s), (4, .bool true), (5, .string d), (6, .int .i64 (valD d n)), (7, .int .i64 n)]) (fun n => n ≤ d.size ∧ DigP d n) (fun _ => SLd w0 I L u) (fun n => d.size - n) 0 ⟨rfl, congrArg Value.bool (decide_eq_true h45), rfl, rfl, rfl, trivial⟩ ⟨Nat.zero_le _, fun j hj => absurd hj (Nat.not_lt_zero j)⟩ (fun w h => h) ?_
      rintro n ρ ⟨hn, hD⟩
      by_cases hlt : n < d.size
      · have hlt' : (n : Int) < d.size := by omega
        have hir : (0 : Int) ≤ n ∧ (n : Int) < d.size := by omega
        by_cases b1 : bt d (n : Int) < 48
        · have hno := num_no (s := s) fun h => by have := h.2.2; rw [hd2] at this; have := this n hlt; omega
          rw [hno.1, hno.2]
          repeat' (first | ((first | refine WLA.m rfl rfl ?_ ?_ | refine WLA.st rfl ?_ ?_ | refine WLA.x rfl rfl ?_ (fun x => ?_) | refine WLA.x0 rfl ?_ (fun x => ?_)); first | exact sdT | skip) | (refine Stp.go ?_) | (refine WPA.ifT ?_) | (refine WPA.ifF ?_) | (refine WLA.no rfl rfl ?_) | ((first | refine WPA.dec ?_ | ((fail_if_success (guard_target =~ WLA _ _ _ _ _ _ (put1 _ _ (.bool true)) _)); (fail_if_success (guard_target =~ WLA _ _ _ _ _ _ (put1 _ _ (.bool false)) _)); refine WLA.dec rfl rfl ?_) | refine WLA.pk ?_); first | refine orL ?_ | refine orR ?_) | ((first | refine WPA.ifBt ?_ ?_ | refine WPA.ifBnf ?_ ?_); assumption) | ((first | refine WPA.ifBnt ?_ ?_ | refine WPA.ifBf ?_ ?_); assumption) | ((first | refine WPA.ifs ?_ ?_ | refine WPA.ifB ?_ ?_) <;> intro hc) | ((fail_if_success (guard_target =~ WLA _ _ _ _ _ _ (put1 _ _ (.bool true)) _)); (fail_if_success (guard_target =~ WLA _ _ _ _ _ _ (put1 _ _ (.bool false)) _)); (first | refine WLA.both rfl rfl ?_ ?_ | refine WLA.bothB rfl rfl ?_ ?_) <;> intro hg))
          exact QQ.end_ rfl () rfl fun w h => h
        by_cases b2 : 57 < bt d (n : Int)
        · have hno := num_no (s := s) fun h => by have := h.2.2; rw [hd2] at this; have := this n hlt; omega
          rw [hno.1, hno.2]
          repeat' (first | ((first | refine WLA.m rfl rfl ?_ ?_ | refine WLA.st rfl ?_ ?_ | refine WLA.x rfl rfl ?_ (fun x => ?_) | refine WLA.x0 rfl ?_ (fun x => ?_)); first | exact sdT | skip) | (refine Stp.go ?_) | (refine WPA.ifT ?_) | (refine WPA.ifF ?_) | (refine WLA.no rfl rfl ?_) | ((first | refine WPA.dec ?_ | ((fail_if_success (guard_target =~ WLA _ _ _ _ _ _ (put1 _ _ (.bool true)) _)); (fail_if_success (guard_target =~ WLA _ _ _ _ _ _ (put1 _ _ (.bool false)) _)); refine WLA.dec rfl rfl ?_) | refine WLA.pk ?_); first | refine orL ?_ | refine orR ?_) | ((first | refine WPA.ifBt ?_ ?_ | refine WPA.ifBnf ?_ ?_); assumption) | ((first | refine WPA.ifBnt ?_ ?_ | refine WPA.ifBf ?_ ?_); assumption) | ((first | refine WPA.ifs ?_ ?_ | refine WPA.ifB ?_ ?_) <;> intro hc) | ((fail_if_success (guard_target =~ WLA _ _ _ _ _ _ (put1 _ _ (.bool true)) _)); (fail_if_success (guard_target =~ WLA _ _ _ _ _ _ (put1 _ _ (.bool false)) _)); (first | refine WLA.both rfl rfl ?_ ?_ | refine WLA.bothB rfl rfl ?_ ?_) <;> intro hg))
          exact QQ.end_ rfl () rfl fun w h => h
        have hv := valD_lt hD
        have hp := p10 (n := n) (by omega)
        have hc1 : 0 ≤ bt d (n : Int) - 48 ∧ bt d (n : Int) - 48 ≤ 255 := by omega
        have hw8 := wrap_u8 (a := bt d (n : Int) - 48) hc1
        have hc2 : -9223372036854775808 ≤ 10 * valD d n ∧ 10 * valD d n ≤ 9223372036854775807 := by omega
        have hc3 : -9223372036854775808 ≤ 10 * valD d n + (bt d (n : Int) - 48) ∧ 10 * valD d n + (bt d (n : Int) - 48) ≤ 9223372036854775807 := by omega
        repeat' (first | ((rw [hw8])) | ((first | refine WLA.m rfl rfl ?_ ?_ | refine WLA.st rfl ?_ ?_ | refine WLA.x rfl rfl ?_ (fun x => ?_) | refine WLA.x0 rfl ?_ (fun x => ?_)); first | exact sdT | skip) | (refine Stp.go ?_) | (refine WPA.ifT ?_) | (refine WPA.ifF ?_) | (refine WLA.no rfl rfl ?_) | ((first | refine WPA.dec ?_ | ((fail_if_success (guard_target =~ WLA _ _ _ _ _ _ (put1 _ _ (.bool true)) _)); (fail_if_success (guard_target =~ WLA _ _ _ _ _ _ (put1 _ _ (.bool false)) _)); refine WLA.dec rfl rfl ?_) | refine WLA.pk ?_); first | refine orL ?_ | refine orR ?_) | ((first | refine WPA.ifBt ?_ ?_ | refine WPA.ifBnf ?_ ?_); assumption) | ((first | refine WPA.ifBnt ?_ ?_ | refine WPA.ifBf ?_ ?_); assumption) | ((first | refine WPA.ifs ?_ ?_ | refine WPA.ifB ?_ ?_) <;> intro hc) | ((fail_if_success (guard_target =~ WLA _ _ _ _ _ _ (put1 _ _ (.bool true)) _)); (fail_if_success (guard_target =~ WLA _ _ _ _ _ _ (put1 _ _ (.bool false)) _)); (first | refine WLA.both rfl rfl ?_ ?_ | refine WLA.bothB rfl rfl ?_ ?_) <;> intro hg))
        refine QQ.loopS (n + 1) ⟨rfl, rfl, rfl, rfl, rfl, trivial⟩ ⟨hlt, fun j hj => ?_⟩ (by omega) (fun w h => h)
        by_cases e : j = n
        · subst e; omega
        · exact hD j (by omega)
      · have hlt' : ¬ (n : Int) < d.size := by omega
        have hnd : n = d.size := by omega
        rw [hnd] at hD hn ⊢
        have hok : NumOk s := by
          refine ⟨⟨by rw [hd2]; exact h0, by rw [hd2]; omega⟩, fun h => ?_, by rw [hd2]; exact hD⟩
          rw [hd2] at h
          first | exact hz2 | exact absurd h hz1
        have hy := num_yes hok
        rw [hd2] at hy
        have hv := valD_lt hD
        have hp := p10 (n := d.size - 1) (by omega)
        have hpp : (10 : Int) ^ d.size = 10 * 10 ^ (d.size - 1) := by
          conv => lhs; rw [show d.size = (d.size - 1) + 1 by omega, Int.pow_succ]
          rw [Int.mul_comm]
        rw [hy.1, hy.2]
        have hlt2 : ¬ (d.size : Int) < d.size := by omega
        have hc4 : -9223372036854775808 ≤ 0 - valD d d.size ∧ 0 - valD d d.size ≤ 9223372036854775807 := by omega
        rw [if_pos hm]
        repeat' (first | ((first | refine WLA.m rfl rfl ?_ ?_ | refine WLA.st rfl ?_ ?_ | refine WLA.x rfl rfl ?_ (fun x => ?_) | refine WLA.x0 rfl ?_ (fun x => ?_)); first | exact sdT | skip) | (refine Stp.go ?_) | (refine WPA.ifT ?_) | (refine WPA.ifF ?_) | ((first | refine WPA.dec ?_); first | refine orL ?_ | refine orR ?_) | ((first | refine WPA.ifBt ?_ ?_ | refine WPA.ifBnf ?_ ?_); assumption) | ((first | refine WPA.ifBnt ?_ ?_ | refine WPA.ifBf ?_ ?_); assumption) | ((first | refine WPA.ifs ?_ ?_ | refine WPA.ifB ?_ ?_) <;> intro hc))
        exact QQ.end_ rfl () (by rw [Int.zero_sub]) fun w h => h
  · rw [decide_eq_false hm] at hmb
    subst hmb
    repeat' ((fail_if_success (guard_target =~ WPA _ _ _ (.region 5 _ _) _ _ _)); first | ((first | refine WLA.m rfl rfl ?_ ?_ | refine WLA.st rfl ?_ ?_ | refine WLA.x rfl rfl ?_ (fun x => ?_) | refine WLA.x0 rfl ?_ (fun x => ?_)); first | exact sdT | skip) | (refine Stp.go ?_) | (refine WPA.ifT ?_) | (refine WPA.ifF ?_) | (refine WLA.no rfl rfl ?_) | ((first | refine WPA.dec ?_ | ((fail_if_success (guard_target =~ WLA _ _ _ _ _ _ (put1 _ _ (.bool true)) _)); (fail_if_success (guard_target =~ WLA _ _ _ _ _ _ (put1 _ _ (.bool false)) _)); refine WLA.dec rfl rfl ?_) | refine WLA.pk ?_); first | refine orL ?_ | refine orR ?_) | ((first | refine WPA.ifBt ?_ ?_ | refine WPA.ifBnf ?_ ?_); assumption) | ((first | refine WPA.ifBnt ?_ ?_ | refine WPA.ifBf ?_ ?_); assumption) | ((first | refine WPA.ifs ?_ ?_ | refine WPA.ifB ?_ ?_) <;> intro hc) | ((fail_if_success (guard_target =~ WLA _ _ _ _ _ _ (put1 _ _ (.bool true)) _)); (fail_if_success (guard_target =~ WLA _ _ _ _ _ _ (put1 _ _ (.bool false)) _)); (first | refine WLA.both rfl rfl ?_ ?_ | refine WLA.bothB rfl rfl ?_ ?_) <;> intro hg))
    subst hx
    by_cases h0 : s = ⟨#[]⟩
    · have hno := num_no (s := s) fun h => h.1.1 (by rw [hd2]; exact h0)
      rw [hno.1, hno.2]
      repeat' (first | ((first | refine WLA.m rfl rfl ?_ ?_ | refine WLA.st rfl ?_ ?_ | refine WLA.x rfl rfl ?_ (fun x => ?_) | refine WLA.x0 rfl ?_ (fun x => ?_)); first | exact sdT | skip) | (refine Stp.go ?_) | (refine WPA.ifT ?_) | (refine WPA.ifF ?_) | (refine WLA.no rfl rfl ?_) | ((first | refine WPA.dec ?_ | ((fail_if_success (guard_target =~ WLA _ _ _ _ _ _ (put1 _ _ (.bool true)) _)); (fail_if_success (guard_target =~ WLA _ _ _ _ _ _ (put1 _ _ (.bool false)) _)); refine WLA.dec rfl rfl ?_) | refine WLA.pk ?_); first | refine orL ?_ | refine orR ?_) | ((first | refine WPA.ifBt ?_ ?_ | refine WPA.ifBnf ?_ ?_); assumption) | ((first | refine WPA.ifBnt ?_ ?_ | refine WPA.ifBf ?_ ?_); assumption) | ((first | refine WPA.ifs ?_ ?_ | refine WPA.ifB ?_ ?_) <;> intro hc) | ((fail_if_success (guard_target =~ WLA _ _ _ _ _ _ (put1 _ _ (.bool true)) _)); (fail_if_success (guard_target =~ WLA _ _ _ _ _ _ (put1 _ _ (.bool false)) _)); (first | refine WLA.both rfl rfl ?_ ?_ | refine WLA.bothB rfl rfl ?_ ?_) <;> intro hg))
      exact QQ.end_ rfl () rfl fun w h => h
    by_cases h18 : (18 : Int) < s.size
    · have hno := num_no (s := s) fun h => by have := h.1.2; rw [hd2] at this; omega
      rw [hno.1, hno.2]
      repeat' (first | ((first | refine WLA.m rfl rfl ?_ ?_ | refine WLA.st rfl ?_ ?_ | refine WLA.x rfl rfl ?_ (fun x => ?_) | refine WLA.x0 rfl ?_ (fun x => ?_)); first | exact sdT | skip) | (refine Stp.go ?_) | (refine WPA.ifT ?_) | (refine WPA.ifF ?_) | (refine WLA.no rfl rfl ?_) | ((first | refine WPA.dec ?_ | ((fail_if_success (guard_target =~ WLA _ _ _ _ _ _ (put1 _ _ (.bool true)) _)); (fail_if_success (guard_target =~ WLA _ _ _ _ _ _ (put1 _ _ (.bool false)) _)); refine WLA.dec rfl rfl ?_) | refine WLA.pk ?_); first | refine orL ?_ | refine orR ?_) | ((first | refine WPA.ifBt ?_ ?_ | refine WPA.ifBnf ?_ ?_); assumption) | ((first | refine WPA.ifBnt ?_ ?_ | refine WPA.ifBf ?_ ?_); assumption) | ((first | refine WPA.ifs ?_ ?_ | refine WPA.ifB ?_ ?_) <;> intro hc) | ((fail_if_success (guard_target =~ WLA _ _ _ _ _ _ (put1 _ _ (.bool true)) _)); (fail_if_success (guard_target =~ WLA _ _ _ _ _ _ (put1 _ _ (.bool false)) _)); (first | refine WLA.both rfl rfl ?_ ?_ | refine WLA.bothB rfl rfl ?_ ?_) <;> intro hg))
      exact QQ.end_ rfl () rfl fun w h => h
    have hpos : 0 < s.size := by have := digS_pos (s := s) (by rw [hd2]; exact h0); rw [hd2] at this; exact this
    have hp0 : (0 : Int) ≤ 0 ∧ (0 : Int) < s.size := by omega
    by_cases hz : bt s 0 = 48 ∧ s ≠ zrB
    · obtain ⟨hz1, hz2⟩ := hz
      have hno := num_no (s := s) fun h => hz2 (h.2.1 (by rw [hd2]; exact hz1))
      rw [hno.1, hno.2]
      have hz3 : ¬ s = ⟨#[48]⟩ := hz2
      repeat' (first | ((first | refine WLA.m rfl rfl ?_ ?_ | refine WLA.st rfl ?_ ?_ | refine WLA.x rfl rfl ?_ (fun x => ?_) | refine WLA.x0 rfl ?_ (fun x => ?_)); first | exact sdT | skip) | (refine Stp.go ?_) | (refine WPA.ifT ?_) | (refine WPA.ifF ?_) | (refine WLA.no rfl rfl ?_) | ((first | refine WPA.dec ?_ | ((fail_if_success (guard_target =~ WLA _ _ _ _ _ _ (put1 _ _ (.bool true)) _)); (fail_if_success (guard_target =~ WLA _ _ _ _ _ _ (put1 _ _ (.bool false)) _)); refine WLA.dec rfl rfl ?_) | refine WLA.pk ?_); first | refine orL ?_ | refine orR ?_) | ((first | refine WPA.ifBt ?_ ?_ | refine WPA.ifBnf ?_ ?_); assumption) | ((first | refine WPA.ifBnt ?_ ?_ | refine WPA.ifBf ?_ ?_); assumption) | ((first | refine WPA.ifs ?_ ?_ | refine WPA.ifB ?_ ?_) <;> intro hc) | ((fail_if_success (guard_target =~ WLA _ _ _ _ _ _ (put1 _ _ (.bool true)) _)); (fail_if_success (guard_target =~ WLA _ _ _ _ _ _ (put1 _ _ (.bool false)) _)); (first | refine WLA.both rfl rfl ?_ ?_ | refine WLA.bothB rfl rfl ?_ ?_) <;> intro hg))
      exact QQ.end_ rfl () rfl fun w h => h
    have hz4 : (bt s 0 = 48 ∧ s = ⟨#[48]⟩) ∨ ¬ bt s 0 = 48 := by
      by_cases h1 : bt s 0 = 48
      · by_cases h2 : s = zrB
        · exact .inl ⟨h1, h2⟩
        · exact absurd ⟨h1, h2⟩ hz
      · exact .inr h1
    rcases hz4 with ⟨hz1, hz2⟩ | hz1
    all_goals
      repeat' (first | ((first | refine WLA.m rfl rfl ?_ ?_ | refine WLA.st rfl ?_ ?_ | refine WLA.x rfl rfl ?_ (fun x => ?_) | refine WLA.x0 rfl ?_ (fun x => ?_)); first | exact sdT | skip) | (refine Stp.go ?_) | (refine WPA.ifT ?_) | (refine WPA.ifF ?_) | (refine WLA.no rfl rfl ?_) | ((first | refine WPA.dec ?_ | ((fail_if_success (guard_target =~ WLA _ _ _ _ _ _ (put1 _ _ (.bool true)) _)); (fail_if_success (guard_target =~ WLA _ _ _ _ _ _ (put1 _ _ (.bool false)) _)); refine WLA.dec rfl rfl ?_) | refine WLA.pk ?_); first | refine orL ?_ | refine orR ?_) | ((first | refine WPA.ifBt ?_ ?_ | refine WPA.ifBnf ?_ ?_); assumption) | ((first | refine WPA.ifBnt ?_ ?_ | refine WPA.ifBf ?_ ?_); assumption) | ((first | refine WPA.ifs ?_ ?_ | refine WPA.ifB ?_ ?_) <;> intro hc) | ((fail_if_success (guard_target =~ WLA _ _ _ _ _ _ (put1 _ _ (.bool true)) _)); (fail_if_success (guard_target =~ WLA _ _ _ _ _ _ (put1 _ _ (.bool false)) _)); (first | refine WLA.both rfl rfl ?_ ?_ | refine WLA.bothB rfl rfl ?_ ?_) <;> intro hg))
    all_goals
      refine WPA.loopS (σ := Nat) (fun n => [(0, .string s), (4, .bool false), (5, .string s), (6, .int .i64 (valD s n)), (7, .int .i64 n)]) (fun n => n ≤ s.size ∧ DigP s n) (fun _ => SLd w0 I L u) (fun n => s.size - n) 0 ⟨rfl, congrArg Value.bool (decide_eq_false h45), rfl, rfl, rfl, trivial⟩ ⟨Nat.zero_le _, fun j hj => absurd hj (Nat.not_lt_zero j)⟩ (fun w h => h) ?_
      rintro n ρ ⟨hn, hD⟩
      by_cases hlt : n < s.size
      · have hlt' : (n : Int) < s.size := by omega
        have hir : (0 : Int) ≤ n ∧ (n : Int) < s.size := by omega
        by_cases b1 : bt s (n : Int) < 48
        · have hno := num_no (s := s) fun h => by have := h.2.2; rw [hd2] at this; have := this n hlt; omega
          rw [hno.1, hno.2]
          repeat' (first | ((first | refine WLA.m rfl rfl ?_ ?_ | refine WLA.st rfl ?_ ?_ | refine WLA.x rfl rfl ?_ (fun x => ?_) | refine WLA.x0 rfl ?_ (fun x => ?_)); first | exact sdT | skip) | (refine Stp.go ?_) | (refine WPA.ifT ?_) | (refine WPA.ifF ?_) | (refine WLA.no rfl rfl ?_) | ((first | refine WPA.dec ?_ | ((fail_if_success (guard_target =~ WLA _ _ _ _ _ _ (put1 _ _ (.bool true)) _)); (fail_if_success (guard_target =~ WLA _ _ _ _ _ _ (put1 _ _ (.bool false)) _)); refine WLA.dec rfl rfl ?_) | refine WLA.pk ?_); first | refine orL ?_ | refine orR ?_) | ((first | refine WPA.ifBt ?_ ?_ | refine WPA.ifBnf ?_ ?_); assumption) | ((first | refine WPA.ifBnt ?_ ?_ | refine WPA.ifBf ?_ ?_); assumption) | ((first | refine WPA.ifs ?_ ?_ | refine WPA.ifB ?_ ?_) <;> intro hc) | ((fail_if_success (guard_target =~ WLA _ _ _ _ _ _ (put1 _ _ (.bool true)) _)); (fail_if_success (guard_target =~ WLA _ _ _ _ _ _ (put1 _ _ (.bool false)) _)); (first | refine WLA.both rfl rfl ?_ ?_ | refine WLA.bothB rfl rfl ?_ ?_) <;> intro hg))
          exact QQ.end_ rfl () rfl fun w h => h
        by_cases b2 : 57 < bt s (n : Int)
        · have hno := num_no (s := s) fun h => by have := h.2.2; rw [hd2] at this; have := this n hlt; omega
          rw [hno.1, hno.2]
          repeat' (first | ((first | refine WLA.m rfl rfl ?_ ?_ | refine WLA.st rfl ?_ ?_ | refine WLA.x rfl rfl ?_ (fun x => ?_) | refine WLA.x0 rfl ?_ (fun x => ?_)); first | exact sdT | skip) | (refine Stp.go ?_) | (refine WPA.ifT ?_) | (refine WPA.ifF ?_) | (refine WLA.no rfl rfl ?_) | ((first | refine WPA.dec ?_ | ((fail_if_success (guard_target =~ WLA _ _ _ _ _ _ (put1 _ _ (.bool true)) _)); (fail_if_success (guard_target =~ WLA _ _ _ _ _ _ (put1 _ _ (.bool false)) _)); refine WLA.dec rfl rfl ?_) | refine WLA.pk ?_); first | refine orL ?_ | refine orR ?_) | ((first | refine WPA.ifBt ?_ ?_ | refine WPA.ifBnf ?_ ?_); assumption) | ((first | refine WPA.ifBnt ?_ ?_ | refine WPA.ifBf ?_ ?_); assumption) | ((first | refine WPA.ifs ?_ ?_ | refine WPA.ifB ?_ ?_) <;> intro hc) | ((fail_if_success (guard_target =~ WLA _ _ _ _ _ _ (put1 _ _ (.bool true)) _)); (fail_if_success (guard_target =~ WLA _ _ _ _ _ _ (put1 _ _ (.bool false)) _)); (first | refine WLA.both rfl rfl ?_ ?_ | refine WLA.bothB rfl rfl ?_ ?_) <;> intro hg))
          exact QQ.end_ rfl () rfl fun w h => h
        have hv := valD_lt hD
        have hp := p10 (n := n) (by omega)
        have hc1 : 0 ≤ bt s (n : Int) - 48 ∧ bt s (n : Int) - 48 ≤ 255 := by omega
        have hw8 := wrap_u8 (a := bt s (n : Int) - 48) hc1
        have hc2 : -9223372036854775808 ≤ 10 * valD s n ∧ 10 * valD s n ≤ 9223372036854775807 := by omega
        have hc3 : -9223372036854775808 ≤ 10 * valD s n + (bt s (n : Int) - 48) ∧ 10 * valD s n + (bt s (n : Int) - 48) ≤ 9223372036854775807 := by omega
        repeat' (first | ((rw [hw8])) | ((first | refine WLA.m rfl rfl ?_ ?_ | refine WLA.st rfl ?_ ?_ | refine WLA.x rfl rfl ?_ (fun x => ?_) | refine WLA.x0 rfl ?_ (fun x => ?_)); first | exact sdT | skip) | (refine Stp.go ?_) | (refine WPA.ifT ?_) | (refine WPA.ifF ?_) | (refine WLA.no rfl rfl ?_) | ((first | refine WPA.dec ?_ | ((fail_if_success (guard_target =~ WLA _ _ _ _ _ _ (put1 _ _ (.bool true)) _)); (fail_if_success (guard_target =~ WLA _ _ _ _ _ _ (put1 _ _ (.bool false)) _)); refine WLA.dec rfl rfl ?_) | refine WLA.pk ?_); first | refine orL ?_ | refine orR ?_) | ((first | refine WPA.ifBt ?_ ?_ | refine WPA.ifBnf ?_ ?_); assumption) | ((first | refine WPA.ifBnt ?_ ?_ | refine WPA.ifBf ?_ ?_); assumption) | ((first | refine WPA.ifs ?_ ?_ | refine WPA.ifB ?_ ?_) <;> intro hc) | ((fail_if_success (guard_target =~ WLA _ _ _ _ _ _ (put1 _ _ (.bool true)) _)); (fail_if_success (guard_target =~ WLA _ _ _ _ _ _ (put1 _ _ (.bool false)) _)); (first | refine WLA.both rfl rfl ?_ ?_ | refine WLA.bothB rfl rfl ?_ ?_) <;> intro hg))
        refine QQ.loopS (n + 1) ⟨rfl, rfl, rfl, rfl, rfl, trivial⟩ ⟨hlt, fun j hj => ?_⟩ (by omega) (fun w h => h)
        by_cases e : j = n
        · subst e; omega
        · exact hD j (by omega)
      · have hlt' : ¬ (n : Int) < s.size := by omega
        have hnd : n = s.size := by omega
        rw [hnd] at hD hn ⊢
        have hok : NumOk s := by
          refine ⟨⟨by rw [hd2]; exact h0, by rw [hd2]; omega⟩, fun h => ?_, by rw [hd2]; exact hD⟩
          rw [hd2] at h
          first | exact hz2 | exact absurd h hz1
        have hy := num_yes hok
        rw [hd2] at hy
        have hv := valD_lt hD
        have hp := p10 (n := s.size - 1) (by omega)
        have hpp : (10 : Int) ^ s.size = 10 * 10 ^ (s.size - 1) := by
          conv => lhs; rw [show s.size = (s.size - 1) + 1 by omega, Int.pow_succ]
          rw [Int.mul_comm]
        rw [hy.1, hy.2]
        have hlt2 : ¬ (s.size : Int) < s.size := by omega
        have hc4 : -9223372036854775808 ≤ 0 - valD s s.size ∧ 0 - valD s s.size ≤ 9223372036854775807 := by omega
        rw [if_neg hm]
        repeat' (first | ((first | refine WLA.m rfl rfl ?_ ?_ | refine WLA.st rfl ?_ ?_ | refine WLA.x rfl rfl ?_ (fun x => ?_) | refine WLA.x0 rfl ?_ (fun x => ?_)); first | exact sdT | skip) | (refine Stp.go ?_) | (refine WPA.ifT ?_) | (refine WPA.ifF ?_) | ((first | refine WPA.dec ?_); first | refine orL ?_ | refine orR ?_) | ((first | refine WPA.ifBt ?_ ?_ | refine WPA.ifBnf ?_ ?_); assumption) | ((first | refine WPA.ifBnt ?_ ?_ | refine WPA.ifBf ?_ ?_); assumption) | ((first | refine WPA.ifs ?_ ?_ | refine WPA.ifB ?_ ?_) <;> intro hc))
        exact QQ.end_ rfl () rfl fun w h => h
end
end Go.Proofs.YthkhneimfjaohaaGreatDoor
namespace Go.Fw
open Go Go.RowKit
set_option linter.unusedVariables false
set_option linter.unusedSimpArgs false
section
variable {P : Program} {ρ : Env} {A : World → Prop} {ty : TypeId} {x y : Operand} {t u : TypeId}
instance {a b : Int} [h1 : Ev ρ x (.int .u64 a)] [h2 : Ev ρ y (.int .u64 b)] : OpM P ρ A (.binOp .quo t x y u) ty (.int .u64 (a / b)) ((0 ≤ a ∧ a ≤ 18446744073709551615) ∧ 0 < b) := ⟨fun h => by
  have h3 := P_quo (P := P) (A := A) (ty := ty) (t := t) (u := u) h1.out h2.out (by omega)
  have e : a.tdiv b = a / b := Int.tdiv_eq_ediv_of_nonneg h.1.1
  have e2 : 0 ≤ a / b := Int.ediv_nonneg h.1.1 (by omega)
  have e3 : a / b ≤ a := Int.ediv_le_self _ h.1.1
  rw [e, wrap_u64 (by omega)] at h3; exact h3⟩
instance {a b : Int} [h1 : Ev ρ x (.int .u64 a)] [h2 : Ev ρ y (.int .u64 b)] : OpM P ρ A (.binOp .rem t x y u) ty (.int .u64 (a % b)) (0 ≤ a ∧ 0 < b) := ⟨fun h => by
  have h3 := P_rem (P := P) (A := A) (ty := ty) (t := t) (u := u) h1.out h2.out (by omega)
  rw [Int.tmod_eq_emod_of_nonneg h.1] at h3; exact h3⟩
instance {a b : Int} [h1 : Ev ρ x (.int .u64 a)] [h2 : Ev ρ y (.int .u64 b)] : OpM P ρ A (.binOp .add t x y u) ty (.int .u64 (a + b)) (0 ≤ a + b ∧ a + b ≤ 18446744073709551615) := ⟨fun h => by
  have h3 := P_add (P := P) (A := A) (ty := ty) (t := t) (u := u) h1.out h2.out
  rw [wrap_u64 h] at h3; exact h3⟩
end
end Go.Fw
