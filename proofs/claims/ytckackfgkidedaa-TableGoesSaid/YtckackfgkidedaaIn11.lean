/- The texts are gone over. Conditions: none. -/
import Derived.Test.YtckackfgkidedaaIn10
namespace Go.Proofs.Ytckackfgkidedaa
open Go Go.Fw Go.RowKit
set_option linter.unusedVariables false
set_option linter.unusedSimpArgs false
set_option maxRecDepth 100000
attribute [local irreducible] WPA WLA WDA WDQ WDE QQ seqQ blockQ loopQ fnQ OpP OpT Tr TrP

theorem All_tr (T : Nat) (w0 : World) (H : HeapP) (L : List (Nat × Obj)) : Tr Try.prog 26 #[.pointer (some ⟨T, 0, none⟩)] (St w0 H L) (fun b : Nat => .func (.func 67) #[] #[.pointer (some ⟨b, 0, none⟩)]) (fun b => St w0 H ((b, bxO T) :: L)) := by
  refine Tr.intro Try.func26 rfl Try.ntmps26 rfl ?_
  repeat' (first
    | (guard_target =~ WPA _ _ _ (.seq _ _) _ _ _; first | (refine WPA.seq ?_))
    | (guard_target =~ WPA _ _ _ (.block _ _) _ _ _; first | (refine WPA.block ?_))
    | (guard_target =~ WPA _ _ _ .skip _ _ _; first | (refine WPA.skip ?_))
    | (guard_target =~ WPA _ _ _ .ret _ _ _; first | (refine WPA.ret ?_))
    | (guard_target =~ WPA _ _ _ (.exit _) _ _ _; first | (refine WPA.exit ?_))
    | (guard_target =~ WPA _ _ _ (.region _ _ false) _ _ _; first | (refine WPA.region ?_))
    | (guard_target =~ WLA _ _ _ _ _ [] _ _; first | (refine WLA.nil ?_))
    | (guard_target =~ QQ (seqQ _ _ _ _ _) _ _ _; first | (refine QQ.seq_normal ?_) | (refine QQ.seq_ret ?_) | (refine QQ.seq_exit ?_))
    | (guard_target =~ QQ (blockQ _ _) _ _ _; first | (refine QQ.block_normal ?_) | (refine QQ.block_ret ?_) | (refine QQ.block_hit ?_) | (refine QQ.block_miss rfl ?_))
    | (guard_target =~ QQ (loopQ _ _ _ _ _) _ _ _; first | (refine QQ.loop_ret ?_) | (refine QQ.loop_exit ?_))
    | (guard_target =~ WPA _ _ _ (.cond _ _ _) _ _ _; first | (refine WPA.condTrue rfl ?_) | (refine WPA.condFalse rfl ?_) | (refine WPA.condT rfl ?_ ?_; (first | assumption | omega | exact rfl | exact (fun h => h rfl))) | (refine WPA.condF rfl ?_ ?_; (first | assumption | omega | exact rfl | exact (fun h => h rfl))) | (refine WPA.cond rfl ?_ ?_ <;> intro hc) | (refine WPA.condB rfl ?_ ?_ <;> intro hc))
    | (guard_target =~ WLA _ _ _ _ _ (⟨_, (.box 24 _), _, _, _, _⟩ :: _) _ _; first | ((refine WLA.e rfl (T_box (v := .pointer (some ⟨_, _, none⟩)) rfl) ?_); intro b) | ((refine WLA.e rfl (T_box (v := .pointer _) rfl) ?_); intro b) | ((refine WLA.e rfl (T_box rfl) ?_); intro b))
    | (guard_target =~ WLA _ _ _ _ _ (⟨_, (.assign _), 38, _, _, _⟩ :: _) _ _; first | (refine WLA.q rfl (P_assign (v := .func _ _ _) rfl) ?_) | (refine WLA.q rfl (P_assign (v := .nilFunc) rfl) ?_) | (refine WLA.q rfl (P_assign rfl) ?_))
    | (guard_target =~ WLA _ _ _ _ _ (⟨_, (.makeFunc _ _ _), _, _, _, _⟩ :: _) _ _; first | (refine WLA.q rfl (P_makeFunc1 (v := .pointer (some ⟨_, _, none⟩))  rfl) ?_) | (refine WLA.q rfl (P_makeFunc1 rfl) ?_)))
  exact QQ.fn_ret rfl rfl b rfl (fun _ h => h)

/-- The iterator: its rounds' state is the caller's. -/
theorem All1_tr {T Bx l : Nat} {texts : List ByteArray} {R : List (Nat × Obj)} (w0 : World) (H : HeapP) (h : TblOk T texts R) {τ ω : Type} (Lk : Nat → τ → List (Nat × Obj)) (C : Nat → τ → Prop) (Lx : ω → List (Nat × Obj)) (Cx : ω → Prop)
    (hy : ∀ k (hk : k < texts.length) x, C k x → YTr Try.prog l #[.int .i64 k, .string texts[k]] (St w0 H (((Bx, bxO T) :: R) ++ Lk k x)) (fun y : τ ⊕ ω => .bool y.isLeft)
      (fun y w => match y with | .inl x' => C (k + 1) x' ∧ St w0 H (((Bx, bxO T) :: R) ++ Lk (k + 1) x') w | .inr z => Cx z ∧ St w0 H (((Bx, bxO T) :: R) ++ Lx z) w))
    (x0 : τ) (hC : C 0 x0) :
    Tr Try.prog 67 #[.func (.yield l) #[] #[], .pointer (some ⟨Bx, 0, none⟩)] (St w0 H (((Bx, bxO T) :: R) ++ Lk 0 x0)) (fun _ : τ ⊕ ω => .tuple #[])
      (fun y w => match y with | .inl x' => C texts.length x' ∧ St w0 H (((Bx, bxO T) :: R) ++ Lk texts.length x') w | .inr z => Cx z ∧ St w0 H (((Bx, bxO T) :: R) ++ Lx z) w) := by
  obtain ⟨m, at_, vt, Ab, B, Rt, rfl, tb, rfl⟩ := h
  obtain ⟨a, cap, rfl, hcap⟩ := tb.own.slice
  have hn := tb.few
  simp only [List.cons_append] at hy ⊢
  refine Tr.intro Try.func67 rfl Try.ntmps67 rfl ?_
  repeat' (first
    | (guard_target =~ WPA _ _ _ (.seq _ _) _ _ _; first | (refine WPA.seq ?_))
    | (guard_target =~ WPA _ _ _ (.block _ _) _ _ _; first | (refine WPA.block ?_))
    | (guard_target =~ WPA _ _ _ .skip _ _ _; first | (refine WPA.skip ?_))
    | (guard_target =~ WPA _ _ _ .ret _ _ _; first | (refine WPA.ret ?_))
    | (guard_target =~ WPA _ _ _ (.exit _) _ _ _; first | (refine WPA.exit ?_))
    | (guard_target =~ WPA _ _ _ (.region _ _ false) _ _ _; first | (refine WPA.region ?_))
    | (guard_target =~ WLA _ _ _ _ _ [] _ _; first | (refine WLA.nil ?_))
    | (guard_target =~ QQ (seqQ _ _ _ _ _) _ _ _; first | (refine QQ.seq_normal ?_) | (refine QQ.seq_ret ?_) | (refine QQ.seq_exit ?_))
    | (guard_target =~ QQ (blockQ _ _) _ _ _; first | (refine QQ.block_normal ?_) | (refine QQ.block_ret ?_) | (refine QQ.block_hit ?_) | (refine QQ.block_miss rfl ?_))
    | (guard_target =~ QQ (loopQ _ _ _ _ _) _ _ _; first | (refine QQ.loop_ret ?_) | (refine QQ.loop_exit ?_))
    | (guard_target =~ WPA _ _ _ (.cond _ _ _) _ _ _; first | (refine WPA.condTrue rfl ?_) | (refine WPA.condFalse rfl ?_) | (refine WPA.condT rfl ?_ ?_; (first | assumption | omega | exact rfl | exact (fun h => h rfl))) | (refine WPA.condF rfl ?_ ?_; (first | assumption | omega | exact rfl | exact (fun h => h rfl))) | (refine WPA.cond rfl ?_ ?_ <;> intro hc) | (refine WPA.condB rfl ?_ ?_ <;> intro hc))
    | (guard_target =~ WLA _ _ _ _ _ (⟨_, (.load 24 _), _, _, _, _⟩ :: _) _ _; first | (refine WLA.q rfl (P_loadO 0 one_24 rfl rfl rfl) ?_) | (refine WLA.q rfl (P_loadO 1 one_24 rfl rfl rfl) ?_) | (refine WLA.q rfl (P_loadO 2 one_24 rfl rfl rfl) ?_) | (refine WLA.q rfl (P_loadO 3 one_24 rfl rfl rfl) ?_) | (refine WLA.q rfl (P_loadO 4 one_24 rfl rfl rfl) ?_) | (refine WLA.q rfl (P_loadM (t' := ?_) (cs := ?_) (fr := ?_) (v := ?_) one_24 rfl ?_ ?_) ?_; rotate_left 4; assumption; (first | assumption | rfl)) | (refine WLA.q rfl (P_loadO (v := ?_) 0 one_24 rfl rfl ?_) ?_; rotate_left 1; assumption) | (refine WLA.q rfl (P_loadO (v := ?_) 1 one_24 rfl rfl ?_) ?_; rotate_left 1; assumption) | (refine WLA.q rfl (P_loadO (v := ?_) 2 one_24 rfl rfl ?_) ?_; rotate_left 1; assumption) | (refine WLA.q rfl (P_loadO (v := ?_) 3 one_24 rfl rfl ?_) ?_; rotate_left 1; assumption) | (refine WLA.q rfl (P_loadO (v := ?_) 4 one_24 rfl rfl ?_) ?_; rotate_left 1; assumption) | (refine WLA.q rfl (P_loadH (t' := ?_) (cs := ?_) (fr := ?_) (v := ?_) one_24 rfl ?_ ?_) ?_; rotate_left 4; assumption; (first | assumption | rfl)))
    | (guard_target =~ WLA _ _ _ _ _ (⟨_, (.binOp .eql 24 _ _ _), _, _, _, _⟩ :: _) _ _; first | (refine WLA.q rfl (P_eqpointer_nil Try.underlying24 rfl rfl) ?_))
    | (guard_target =~ WLA _ _ _ _ _ (⟨_, (.nilCheck _), _, _, _, _⟩ :: _) _ _; first | (refine WLA.q rfl (P_nilCheck rfl) ?_))
    | (guard_target =~ WLA _ _ _ _ _ (⟨_, (.fieldAddr 99 _ _), _, _, _, _⟩ :: _) _ _; first | (refine WLA.q rfl (P_fieldAddr fo_99_0 rfl) ?_))
    | (guard_target =~ WLA _ _ _ _ _ (⟨_, (.load 22 _), _, _, _, _⟩ :: _) _ _; first | (refine WLA.q rfl (P_loadO 0 one_22 rfl rfl rfl) ?_) | (refine WLA.q rfl (P_loadO 1 one_22 rfl rfl rfl) ?_) | (refine WLA.q rfl (P_loadO 2 one_22 rfl rfl rfl) ?_) | (refine WLA.q rfl (P_loadO 3 one_22 rfl rfl rfl) ?_) | (refine WLA.q rfl (P_loadO 4 one_22 rfl rfl rfl) ?_) | (refine WLA.q rfl (P_loadM (t' := ?_) (cs := ?_) (fr := ?_) (v := ?_) one_22 rfl ?_ ?_) ?_; rotate_left 4; assumption; (first | assumption | rfl)) | (refine WLA.q rfl (P_loadO (v := ?_) 0 one_22 rfl rfl ?_) ?_; rotate_left 1; assumption) | (refine WLA.q rfl (P_loadO (v := ?_) 1 one_22 rfl rfl ?_) ?_; rotate_left 1; assumption) | (refine WLA.q rfl (P_loadO (v := ?_) 2 one_22 rfl rfl ?_) ?_; rotate_left 1; assumption) | (refine WLA.q rfl (P_loadO (v := ?_) 3 one_22 rfl rfl ?_) ?_; rotate_left 1; assumption) | (refine WLA.q rfl (P_loadO (v := ?_) 4 one_22 rfl rfl ?_) ?_; rotate_left 1; assumption) | (refine WLA.q rfl (P_loadH (t' := ?_) (cs := ?_) (fr := ?_) (v := ?_) one_22 rfl ?_ ?_) ?_; rotate_left 4; assumption; (first | assumption | rfl)))
    | (guard_target =~ WLA _ _ _ _ _ (⟨_, (.call ⟨.builtin .len, _, _⟩), _, _, _, _⟩ :: _) _ _; first | (refine WLA.q rfl (P_len_slice Try.underlying22 rfl) ?_))
    | (guard_target =~ WLA _ _ _ _ _ (⟨_, (.move _), 3, _, _, _⟩ :: _) _ _; first | (refine WLA.q rfl (P_move (v := .int _ _) rfl) ?_) | (refine WLA.q rfl (P_move rfl) ?_))
    | (guard_target =~ WLA _ _ _ _ _ (⟨_, (.binOp .lss 3 _ _ _), _, _, _, _⟩ :: _) _ _; first | (refine WLA.q rfl (P_lss rfl rfl) ?_))
    | (guard_target =~ WLA _ _ _ _ _ (⟨_, (.indexAddr 22 _ _), _, _, _, _⟩ :: _) _ _; first | (refine WLA.q rfl (P_indexAddr Try.underlying22 sz_9 rfl rfl ?_ ?_) ?_; (first | assumption | omega); (first | assumption | omega)))
    | (guard_target =~ WLA _ _ _ _ _ (⟨_, (.load 9 _), _, _, _, _⟩ :: _) _ _; first | (refine WLA.q rfl (P_loadO 0 one_9 rfl rfl rfl) ?_) | (refine WLA.q rfl (P_loadO 1 one_9 rfl rfl rfl) ?_) | (refine WLA.q rfl (P_loadO 2 one_9 rfl rfl rfl) ?_) | (refine WLA.q rfl (P_loadO 3 one_9 rfl rfl rfl) ?_) | (refine WLA.q rfl (P_loadO 4 one_9 rfl rfl rfl) ?_) | (refine WLA.q rfl (P_loadM (t' := ?_) (cs := ?_) (fr := ?_) (v := ?_) one_9 rfl ?_ ?_) ?_; rotate_left 4; assumption; (first | assumption | rfl)) | (refine WLA.q rfl (P_loadO (v := ?_) 0 one_9 rfl rfl ?_) ?_; rotate_left 1; assumption) | (refine WLA.q rfl (P_loadO (v := ?_) 1 one_9 rfl rfl ?_) ?_; rotate_left 1; assumption) | (refine WLA.q rfl (P_loadO (v := ?_) 2 one_9 rfl rfl ?_) ?_; rotate_left 1; assumption) | (refine WLA.q rfl (P_loadO (v := ?_) 3 one_9 rfl rfl ?_) ?_; rotate_left 1; assumption) | (refine WLA.q rfl (P_loadO (v := ?_) 4 one_9 rfl rfl ?_) ?_; rotate_left 1; assumption) | (refine WLA.q rfl (P_loadH (t' := ?_) (cs := ?_) (fr := ?_) (v := ?_) one_9 rfl ?_ ?_) ?_; rotate_left 4; assumption; (first | assumption | rfl)))
    | (guard_target =~ WLA _ _ _ _ _ (⟨_, (.assign _), 3, _, _, _⟩ :: _) _ _; first | (refine WLA.q rfl (P_assign (v := .int _ _) rfl) ?_) | (refine WLA.q rfl (P_assign rfl) ?_))
    | (guard_target =~ WLA _ _ _ _ _ (⟨_, (.assign _), 9, _, _, _⟩ :: _) _ _; first | (refine WLA.q rfl (P_assign (v := .string _) rfl) ?_) | (refine WLA.q rfl (P_assign rfl) ?_))
    | (guard_target =~ WLA _ _ _ _ _ (⟨_, (.move _), 101, _, _, _⟩ :: _) _ _; first | (refine WLA.q rfl (P_move (v := .func _ _ _) rfl) ?_) | (refine WLA.q rfl (P_move (v := .nilFunc) rfl) ?_) | (refine WLA.q rfl (P_move rfl) ?_))
    | (guard_target =~ WLA _ _ _ _ _ (⟨_, (.move _), 9, _, _, _⟩ :: _) _ _; first | (refine WLA.q rfl (P_move (v := .string _) rfl) ?_) | (refine WLA.q rfl (P_move rfl) ?_))
    | (guard_target =~ WLA _ _ _ _ _ (⟨_, (.unOp _ _ _), _, _, _, _⟩ :: _) _ _; first | (refine WLA.q rfl (P_notD rfl) ?_) | (refine WLA.q rfl (P_not rfl) ?_))
    | (guard_target =~ WLA _ _ _ _ _ (⟨_, (.binOp .add 3 _ _ _), _, _, _, _⟩ :: _) _ _; first | (refine WLA.q rfl (P_addB rfl rfl ?_) ?_; omega) | (refine WLA.q rfl (P_add rfl rfl) ?_)))
  refine WPA.loopS (σ := Nat × τ) (fun x => [(0, .func (.yield l) #[] #[]), (10, .slice a texts.length cap), (11, .int .i64 texts.length), (12, .int .i64 x.1)]) (fun x => x.1 ≤ texts.length ∧ C x.1 x.2)
    (fun x => St w0 H ((Bx, bxO T) :: (T, tbO (.slice a texts.length cap) Ab at_.length B) :: (B, bxO T) :: (Ab, atO at_) :: (Rt ++ Lk x.1 x.2))) (fun x => texts.length - x.1) (0, x0) ⟨rfl, rfl, rfl, rfl, trivial⟩ ⟨Nat.zero_le _, hC⟩ (fun _ h => h) ?_
  rintro ⟨k, x⟩ ρ ⟨hk, hCk⟩
  dsimp only at hk hCk ⊢
  by_cases hlt : k < texts.length
  · obtain ⟨X, cap2, cur, he, rfl, hx⟩ := own_text (n := 0) tb.own k hlt
    cases he
    have hx' : cur.toList[0 + (k : Int).toNat * 1]? = some (.string texts[k]) := by simpa using hx
    have hk0 : (0 : Int) ≤ k := by omega
    have hk1 : (k : Int) < texts.length := by omega
    have hyk := hy k hlt x hCk
    clear hy
    repeat' (first
      | (guard_target =~ WPA _ _ _ (.seq _ _) _ _ _; first | (refine WPA.seq ?_))
      | (guard_target =~ WPA _ _ _ (.block _ _) _ _ _; first | (refine WPA.block ?_))
      | (guard_target =~ WPA _ _ _ .skip _ _ _; first | (refine WPA.skip ?_))
      | (guard_target =~ WPA _ _ _ .ret _ _ _; first | (refine WPA.ret ?_))
      | (guard_target =~ WPA _ _ _ (.exit _) _ _ _; first | (refine WPA.exit ?_))
      | (guard_target =~ WPA _ _ _ (.region _ _ false) _ _ _; first | (refine WPA.region ?_))
      | (guard_target =~ WLA _ _ _ _ _ [] _ _; first | (refine WLA.nil ?_))
      | (guard_target =~ QQ (seqQ _ _ _ _ _) _ _ _; first | (refine QQ.seq_normal ?_) | (refine QQ.seq_ret ?_) | (refine QQ.seq_exit ?_))
      | (guard_target =~ QQ (blockQ _ _) _ _ _; first | (refine QQ.block_normal ?_) | (refine QQ.block_ret ?_) | (refine QQ.block_hit ?_) | (refine QQ.block_miss rfl ?_))
      | (guard_target =~ QQ (loopQ _ _ _ _ _) _ _ _; first | (refine QQ.loop_ret ?_) | (refine QQ.loop_exit ?_))
      | (guard_target =~ WPA _ _ _ (.cond _ _ _) _ _ _; first | (refine WPA.condTrue rfl ?_) | (refine WPA.condFalse rfl ?_) | (refine WPA.condT rfl ?_ ?_; (first | assumption | omega | exact rfl | exact (fun h => h rfl))) | (refine WPA.condF rfl ?_ ?_; (first | assumption | omega | exact rfl | exact (fun h => h rfl))) | (refine WPA.cond rfl ?_ ?_ <;> intro hc) | (refine WPA.condB rfl ?_ ?_ <;> intro hc))
      | (guard_target =~ WLA _ _ _ _ _ (⟨_, (.load 24 _), _, _, _, _⟩ :: _) _ _; first | (refine WLA.q rfl (P_loadO 0 one_24 rfl rfl rfl) ?_) | (refine WLA.q rfl (P_loadO 1 one_24 rfl rfl rfl) ?_) | (refine WLA.q rfl (P_loadO 2 one_24 rfl rfl rfl) ?_) | (refine WLA.q rfl (P_loadO 3 one_24 rfl rfl rfl) ?_) | (refine WLA.q rfl (P_loadO 4 one_24 rfl rfl rfl) ?_) | (refine WLA.q rfl (P_loadM (t' := ?_) (cs := ?_) (fr := ?_) (v := ?_) one_24 rfl ?_ ?_) ?_; rotate_left 4; assumption; (first | assumption | rfl)) | (refine WLA.q rfl (P_loadO (v := ?_) 0 one_24 rfl rfl ?_) ?_; rotate_left 1; assumption) | (refine WLA.q rfl (P_loadO (v := ?_) 1 one_24 rfl rfl ?_) ?_; rotate_left 1; assumption) | (refine WLA.q rfl (P_loadO (v := ?_) 2 one_24 rfl rfl ?_) ?_; rotate_left 1; assumption) | (refine WLA.q rfl (P_loadO (v := ?_) 3 one_24 rfl rfl ?_) ?_; rotate_left 1; assumption) | (refine WLA.q rfl (P_loadO (v := ?_) 4 one_24 rfl rfl ?_) ?_; rotate_left 1; assumption) | (refine WLA.q rfl (P_loadH (t' := ?_) (cs := ?_) (fr := ?_) (v := ?_) one_24 rfl ?_ ?_) ?_; rotate_left 4; assumption; (first | assumption | rfl)))
      | (guard_target =~ WLA _ _ _ _ _ (⟨_, (.binOp .eql 24 _ _ _), _, _, _, _⟩ :: _) _ _; first | (refine WLA.q rfl (P_eqpointer_nil Try.underlying24 rfl rfl) ?_))
      | (guard_target =~ WLA _ _ _ _ _ (⟨_, (.nilCheck _), _, _, _, _⟩ :: _) _ _; first | (refine WLA.q rfl (P_nilCheck rfl) ?_))
      | (guard_target =~ WLA _ _ _ _ _ (⟨_, (.fieldAddr 99 _ _), _, _, _, _⟩ :: _) _ _; first | (refine WLA.q rfl (P_fieldAddr fo_99_0 rfl) ?_))
      | (guard_target =~ WLA _ _ _ _ _ (⟨_, (.load 22 _), _, _, _, _⟩ :: _) _ _; first | (refine WLA.q rfl (P_loadO 0 one_22 rfl rfl rfl) ?_) | (refine WLA.q rfl (P_loadO 1 one_22 rfl rfl rfl) ?_) | (refine WLA.q rfl (P_loadO 2 one_22 rfl rfl rfl) ?_) | (refine WLA.q rfl (P_loadO 3 one_22 rfl rfl rfl) ?_) | (refine WLA.q rfl (P_loadO 4 one_22 rfl rfl rfl) ?_) | (refine WLA.q rfl (P_loadM (t' := ?_) (cs := ?_) (fr := ?_) (v := ?_) one_22 rfl ?_ ?_) ?_; rotate_left 4; assumption; (first | assumption | rfl)) | (refine WLA.q rfl (P_loadO (v := ?_) 0 one_22 rfl rfl ?_) ?_; rotate_left 1; assumption) | (refine WLA.q rfl (P_loadO (v := ?_) 1 one_22 rfl rfl ?_) ?_; rotate_left 1; assumption) | (refine WLA.q rfl (P_loadO (v := ?_) 2 one_22 rfl rfl ?_) ?_; rotate_left 1; assumption) | (refine WLA.q rfl (P_loadO (v := ?_) 3 one_22 rfl rfl ?_) ?_; rotate_left 1; assumption) | (refine WLA.q rfl (P_loadO (v := ?_) 4 one_22 rfl rfl ?_) ?_; rotate_left 1; assumption) | (refine WLA.q rfl (P_loadH (t' := ?_) (cs := ?_) (fr := ?_) (v := ?_) one_22 rfl ?_ ?_) ?_; rotate_left 4; assumption; (first | assumption | rfl)))
      | (guard_target =~ WLA _ _ _ _ _ (⟨_, (.call ⟨.builtin .len, _, _⟩), _, _, _, _⟩ :: _) _ _; first | (refine WLA.q rfl (P_len_slice Try.underlying22 rfl) ?_))
      | (guard_target =~ WLA _ _ _ _ _ (⟨_, (.move _), 3, _, _, _⟩ :: _) _ _; first | (refine WLA.q rfl (P_move (v := .int _ _) rfl) ?_) | (refine WLA.q rfl (P_move rfl) ?_))
      | (guard_target =~ WLA _ _ _ _ _ (⟨_, (.binOp .lss 3 _ _ _), _, _, _, _⟩ :: _) _ _; first | (refine WLA.q rfl (P_lss rfl rfl) ?_))
      | (guard_target =~ WLA _ _ _ _ _ (⟨_, (.indexAddr 22 _ _), _, _, _, _⟩ :: _) _ _; first | (refine WLA.q rfl (P_indexAddr Try.underlying22 sz_9 rfl rfl ?_ ?_) ?_; (first | assumption | omega); (first | assumption | omega)))
      | (guard_target =~ WLA _ _ _ _ _ (⟨_, (.load 9 _), _, _, _, _⟩ :: _) _ _; first | (refine WLA.q rfl (P_loadO 0 one_9 rfl rfl rfl) ?_) | (refine WLA.q rfl (P_loadO 1 one_9 rfl rfl rfl) ?_) | (refine WLA.q rfl (P_loadO 2 one_9 rfl rfl rfl) ?_) | (refine WLA.q rfl (P_loadO 3 one_9 rfl rfl rfl) ?_) | (refine WLA.q rfl (P_loadO 4 one_9 rfl rfl rfl) ?_) | (refine WLA.q rfl (P_loadM (t' := ?_) (cs := ?_) (fr := ?_) (v := ?_) one_9 rfl ?_ ?_) ?_; rotate_left 4; assumption; (first | assumption | rfl)) | (refine WLA.q rfl (P_loadO (v := ?_) 0 one_9 rfl rfl ?_) ?_; rotate_left 1; assumption) | (refine WLA.q rfl (P_loadO (v := ?_) 1 one_9 rfl rfl ?_) ?_; rotate_left 1; assumption) | (refine WLA.q rfl (P_loadO (v := ?_) 2 one_9 rfl rfl ?_) ?_; rotate_left 1; assumption) | (refine WLA.q rfl (P_loadO (v := ?_) 3 one_9 rfl rfl ?_) ?_; rotate_left 1; assumption) | (refine WLA.q rfl (P_loadO (v := ?_) 4 one_9 rfl rfl ?_) ?_; rotate_left 1; assumption) | (refine WLA.q rfl (P_loadH (t' := ?_) (cs := ?_) (fr := ?_) (v := ?_) one_9 rfl ?_ ?_) ?_; rotate_left 4; assumption; (first | assumption | rfl)))
      | (guard_target =~ WLA _ _ _ _ _ (⟨_, (.assign _), 3, _, _, _⟩ :: _) _ _; first | (refine WLA.q rfl (P_assign (v := .int _ _) rfl) ?_) | (refine WLA.q rfl (P_assign rfl) ?_))
      | (guard_target =~ WLA _ _ _ _ _ (⟨_, (.assign _), 9, _, _, _⟩ :: _) _ _; first | (refine WLA.q rfl (P_assign (v := .string _) rfl) ?_) | (refine WLA.q rfl (P_assign rfl) ?_))
      | (guard_target =~ WLA _ _ _ _ _ (⟨_, (.move _), 101, _, _, _⟩ :: _) _ _; first | (refine WLA.q rfl (P_move (v := .func _ _ _) rfl) ?_) | (refine WLA.q rfl (P_move (v := .nilFunc) rfl) ?_) | (refine WLA.q rfl (P_move rfl) ?_))
      | (guard_target =~ WLA _ _ _ _ _ (⟨_, (.move _), 9, _, _, _⟩ :: _) _ _; first | (refine WLA.q rfl (P_move (v := .string _) rfl) ?_) | (refine WLA.q rfl (P_move rfl) ?_))
      | (guard_target =~ WLA _ _ _ _ _ (⟨_, (.call ⟨.value (.tmp _), _, _⟩), _, _, _, _⟩ :: _) _ _; first | (refine WLA.e rfl (T_yield2 (hyk) rfl rfl rfl) ?_; rintro (x' | z)))
      | (guard_target =~ WLA _ _ _ _ _ (⟨_, (.unOp _ _ _), _, _, _, _⟩ :: _) _ _; first | (refine WLA.q rfl (P_notD rfl) ?_) | (refine WLA.q rfl (P_not rfl) ?_))
      | (guard_target =~ WLA _ _ _ _ _ (⟨_, (.binOp .add 3 _ _ _), _, _, _, _⟩ :: _) _ _; first | (refine WLA.q rfl (P_addB rfl rfl ?_) ?_; omega) | (refine WLA.q rfl (P_add rfl rfl) ?_)))
    · refine QQ.pre (p := C (k + 1) x') fun hC' => ?_
      exact QQ.loopS (k + 1, x') ⟨rfl, rfl, rfl, rfl, trivial⟩ ⟨hlt, hC'⟩ (by dsimp only; omega) (fun _ h => h)
    · exact QQ.fn_ret rfl rfl (.inr z) rfl (fun _ h => h)
  · have hk1 : ¬ (k : Int) < texts.length := by omega
    repeat' (first
      | (guard_target =~ WPA _ _ _ (.seq _ _) _ _ _; first | (refine WPA.seq ?_))
      | (guard_target =~ WPA _ _ _ (.block _ _) _ _ _; first | (refine WPA.block ?_))
      | (guard_target =~ WPA _ _ _ .skip _ _ _; first | (refine WPA.skip ?_))
      | (guard_target =~ WPA _ _ _ .ret _ _ _; first | (refine WPA.ret ?_))
      | (guard_target =~ WPA _ _ _ (.exit _) _ _ _; first | (refine WPA.exit ?_))
      | (guard_target =~ WPA _ _ _ (.region _ _ false) _ _ _; first | (refine WPA.region ?_))
      | (guard_target =~ WLA _ _ _ _ _ [] _ _; first | (refine WLA.nil ?_))
      | (guard_target =~ QQ (seqQ _ _ _ _ _) _ _ _; first | (refine QQ.seq_normal ?_) | (refine QQ.seq_ret ?_) | (refine QQ.seq_exit ?_))
      | (guard_target =~ QQ (blockQ _ _) _ _ _; first | (refine QQ.block_normal ?_) | (refine QQ.block_ret ?_) | (refine QQ.block_hit ?_) | (refine QQ.block_miss rfl ?_))
      | (guard_target =~ QQ (loopQ _ _ _ _ _) _ _ _; first | (refine QQ.loop_ret ?_) | (refine QQ.loop_exit ?_))
      | (guard_target =~ WPA _ _ _ (.cond _ _ _) _ _ _; first | (refine WPA.condTrue rfl ?_) | (refine WPA.condFalse rfl ?_) | (refine WPA.condT rfl ?_ ?_; (first | assumption | omega | exact rfl | exact (fun h => h rfl))) | (refine WPA.condF rfl ?_ ?_; (first | assumption | omega | exact rfl | exact (fun h => h rfl))) | (refine WPA.cond rfl ?_ ?_ <;> intro hc) | (refine WPA.condB rfl ?_ ?_ <;> intro hc))
      | (guard_target =~ WLA _ _ _ _ _ (⟨_, (.load 24 _), _, _, _, _⟩ :: _) _ _; first | (refine WLA.q rfl (P_loadO 0 one_24 rfl rfl rfl) ?_) | (refine WLA.q rfl (P_loadO 1 one_24 rfl rfl rfl) ?_) | (refine WLA.q rfl (P_loadO 2 one_24 rfl rfl rfl) ?_) | (refine WLA.q rfl (P_loadO 3 one_24 rfl rfl rfl) ?_) | (refine WLA.q rfl (P_loadO 4 one_24 rfl rfl rfl) ?_) | (refine WLA.q rfl (P_loadM (t' := ?_) (cs := ?_) (fr := ?_) (v := ?_) one_24 rfl ?_ ?_) ?_; rotate_left 4; assumption; (first | assumption | rfl)) | (refine WLA.q rfl (P_loadO (v := ?_) 0 one_24 rfl rfl ?_) ?_; rotate_left 1; assumption) | (refine WLA.q rfl (P_loadO (v := ?_) 1 one_24 rfl rfl ?_) ?_; rotate_left 1; assumption) | (refine WLA.q rfl (P_loadO (v := ?_) 2 one_24 rfl rfl ?_) ?_; rotate_left 1; assumption) | (refine WLA.q rfl (P_loadO (v := ?_) 3 one_24 rfl rfl ?_) ?_; rotate_left 1; assumption) | (refine WLA.q rfl (P_loadO (v := ?_) 4 one_24 rfl rfl ?_) ?_; rotate_left 1; assumption) | (refine WLA.q rfl (P_loadH (t' := ?_) (cs := ?_) (fr := ?_) (v := ?_) one_24 rfl ?_ ?_) ?_; rotate_left 4; assumption; (first | assumption | rfl)))
      | (guard_target =~ WLA _ _ _ _ _ (⟨_, (.binOp .eql 24 _ _ _), _, _, _, _⟩ :: _) _ _; first | (refine WLA.q rfl (P_eqpointer_nil Try.underlying24 rfl rfl) ?_))
      | (guard_target =~ WLA _ _ _ _ _ (⟨_, (.nilCheck _), _, _, _, _⟩ :: _) _ _; first | (refine WLA.q rfl (P_nilCheck rfl) ?_))
      | (guard_target =~ WLA _ _ _ _ _ (⟨_, (.fieldAddr 99 _ _), _, _, _, _⟩ :: _) _ _; first | (refine WLA.q rfl (P_fieldAddr fo_99_0 rfl) ?_))
      | (guard_target =~ WLA _ _ _ _ _ (⟨_, (.load 22 _), _, _, _, _⟩ :: _) _ _; first | (refine WLA.q rfl (P_loadO 0 one_22 rfl rfl rfl) ?_) | (refine WLA.q rfl (P_loadO 1 one_22 rfl rfl rfl) ?_) | (refine WLA.q rfl (P_loadO 2 one_22 rfl rfl rfl) ?_) | (refine WLA.q rfl (P_loadO 3 one_22 rfl rfl rfl) ?_) | (refine WLA.q rfl (P_loadO 4 one_22 rfl rfl rfl) ?_) | (refine WLA.q rfl (P_loadM (t' := ?_) (cs := ?_) (fr := ?_) (v := ?_) one_22 rfl ?_ ?_) ?_; rotate_left 4; assumption; (first | assumption | rfl)) | (refine WLA.q rfl (P_loadO (v := ?_) 0 one_22 rfl rfl ?_) ?_; rotate_left 1; assumption) | (refine WLA.q rfl (P_loadO (v := ?_) 1 one_22 rfl rfl ?_) ?_; rotate_left 1; assumption) | (refine WLA.q rfl (P_loadO (v := ?_) 2 one_22 rfl rfl ?_) ?_; rotate_left 1; assumption) | (refine WLA.q rfl (P_loadO (v := ?_) 3 one_22 rfl rfl ?_) ?_; rotate_left 1; assumption) | (refine WLA.q rfl (P_loadO (v := ?_) 4 one_22 rfl rfl ?_) ?_; rotate_left 1; assumption) | (refine WLA.q rfl (P_loadH (t' := ?_) (cs := ?_) (fr := ?_) (v := ?_) one_22 rfl ?_ ?_) ?_; rotate_left 4; assumption; (first | assumption | rfl)))
      | (guard_target =~ WLA _ _ _ _ _ (⟨_, (.call ⟨.builtin .len, _, _⟩), _, _, _, _⟩ :: _) _ _; first | (refine WLA.q rfl (P_len_slice Try.underlying22 rfl) ?_))
      | (guard_target =~ WLA _ _ _ _ _ (⟨_, (.move _), 3, _, _, _⟩ :: _) _ _; first | (refine WLA.q rfl (P_move (v := .int _ _) rfl) ?_) | (refine WLA.q rfl (P_move rfl) ?_))
      | (guard_target =~ WLA _ _ _ _ _ (⟨_, (.binOp .lss 3 _ _ _), _, _, _, _⟩ :: _) _ _; first | (refine WLA.q rfl (P_lss rfl rfl) ?_))
      | (guard_target =~ WLA _ _ _ _ _ (⟨_, (.indexAddr 22 _ _), _, _, _, _⟩ :: _) _ _; first | (refine WLA.q rfl (P_indexAddr Try.underlying22 sz_9 rfl rfl ?_ ?_) ?_; (first | assumption | omega); (first | assumption | omega)))
      | (guard_target =~ WLA _ _ _ _ _ (⟨_, (.load 9 _), _, _, _, _⟩ :: _) _ _; first | (refine WLA.q rfl (P_loadO 0 one_9 rfl rfl rfl) ?_) | (refine WLA.q rfl (P_loadO 1 one_9 rfl rfl rfl) ?_) | (refine WLA.q rfl (P_loadO 2 one_9 rfl rfl rfl) ?_) | (refine WLA.q rfl (P_loadO 3 one_9 rfl rfl rfl) ?_) | (refine WLA.q rfl (P_loadO 4 one_9 rfl rfl rfl) ?_) | (refine WLA.q rfl (P_loadM (t' := ?_) (cs := ?_) (fr := ?_) (v := ?_) one_9 rfl ?_ ?_) ?_; rotate_left 4; assumption; (first | assumption | rfl)) | (refine WLA.q rfl (P_loadO (v := ?_) 0 one_9 rfl rfl ?_) ?_; rotate_left 1; assumption) | (refine WLA.q rfl (P_loadO (v := ?_) 1 one_9 rfl rfl ?_) ?_; rotate_left 1; assumption) | (refine WLA.q rfl (P_loadO (v := ?_) 2 one_9 rfl rfl ?_) ?_; rotate_left 1; assumption) | (refine WLA.q rfl (P_loadO (v := ?_) 3 one_9 rfl rfl ?_) ?_; rotate_left 1; assumption) | (refine WLA.q rfl (P_loadO (v := ?_) 4 one_9 rfl rfl ?_) ?_; rotate_left 1; assumption) | (refine WLA.q rfl (P_loadH (t' := ?_) (cs := ?_) (fr := ?_) (v := ?_) one_9 rfl ?_ ?_) ?_; rotate_left 4; assumption; (first | assumption | rfl)))
      | (guard_target =~ WLA _ _ _ _ _ (⟨_, (.assign _), 3, _, _, _⟩ :: _) _ _; first | (refine WLA.q rfl (P_assign (v := .int _ _) rfl) ?_) | (refine WLA.q rfl (P_assign rfl) ?_))
      | (guard_target =~ WLA _ _ _ _ _ (⟨_, (.assign _), 9, _, _, _⟩ :: _) _ _; first | (refine WLA.q rfl (P_assign (v := .string _) rfl) ?_) | (refine WLA.q rfl (P_assign rfl) ?_))
      | (guard_target =~ WLA _ _ _ _ _ (⟨_, (.move _), 101, _, _, _⟩ :: _) _ _; first | (refine WLA.q rfl (P_move (v := .func _ _ _) rfl) ?_) | (refine WLA.q rfl (P_move (v := .nilFunc) rfl) ?_) | (refine WLA.q rfl (P_move rfl) ?_))
      | (guard_target =~ WLA _ _ _ _ _ (⟨_, (.move _), 9, _, _, _⟩ :: _) _ _; first | (refine WLA.q rfl (P_move (v := .string _) rfl) ?_) | (refine WLA.q rfl (P_move rfl) ?_))
      | (guard_target =~ WLA _ _ _ _ _ (⟨_, (.unOp _ _ _), _, _, _, _⟩ :: _) _ _; first | (refine WLA.q rfl (P_notD rfl) ?_) | (refine WLA.q rfl (P_not rfl) ?_))
      | (guard_target =~ WLA _ _ _ _ _ (⟨_, (.binOp .add 3 _ _ _), _, _, _, _⟩ :: _) _ _; first | (refine WLA.q rfl (P_addB rfl rfl ?_) ?_; omega) | (refine WLA.q rfl (P_add rfl rfl) ?_)))
    have e : k = texts.length := by omega
    subst e
    exact QQ.fn_normal rfl rfl (.inl x) rfl (fun _ h => ⟨hCk, h⟩)

end Go.Proofs.Ytckackfgkidedaa
