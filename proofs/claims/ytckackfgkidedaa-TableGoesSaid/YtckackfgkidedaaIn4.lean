/- A table is made; its slots are doubled. Conditions: none. -/
import Derived.Test.YtckackfgkidedaaIn3
namespace Go.Proofs.Ytckackfgkidedaa
open Go Go.Fw Go.RowKit
set_option linter.unusedVariables false
set_option linter.unusedSimpArgs false
set_option maxRecDepth 100000
attribute [local irreducible] WPA WLA WDA WDQ WDE QQ seqQ blockQ loopQ fnQ OpP OpT Tr TrP

structure Tbl0 (T : Nat) (texts : List ByteArray) (at_ : List Int) (vt : Value) (Rt : List (Nat × Obj)) : Prop where
  own : OwnR 9 1 vt texts.length (texts.map Value.string) Rt
  good : Good texts at_
  pow : ∃ k, at_.length = 8 * 2 ^ k ∧ (k = 0 ∨ at_.length < 4 * texts.length)
  room : 2 * texts.length ≤ at_.length
  few : texts.length ≤ 1000000000
  small : ∀ s ∈ texts, s.size ≤ 140737488355328
/-- R holds a table at T, of these texts, with m slots. -/
def IsTbl (R : List (Nat × Obj)) (T : Nat) (texts : List ByteArray) (m : Nat) : Prop :=
  ∃ at_ vt Ab B Rt, R = (T, tbO vt Ab at_.length B) :: (B, bxO T) :: (Ab, atO at_) :: Rt ∧ Tbl0 T texts at_ vt Rt ∧ at_.length = m

theorem New_tr (w0 : World) (H : HeapP) (L : List (Nat × Obj)) : Tr Try.prog 17 #[] (St w0 H L) (fun x : Nat × List (Nat × Obj) => .pointer (some ⟨x.1, 0, none⟩)) (fun x w => IsTbl x.2 x.1 [] 8 ∧ St w0 H (x.2 ++ L) w) := by
  refine Tr.intro Try.func17 rfl Try.ntmps17 rfl ?_
  repeat' (first
    | (guard_target =~ WPA _ _ _ (.seq _ _) _ _ _; first | (refine WPA.seq ?_))
    | (guard_target =~ WPA _ _ _ (.block _ _) _ _ _; first | (refine WPA.block ?_))
    | (guard_target =~ WPA _ _ _ .skip _ _ _; first | (refine WPA.skip ?_))
    | (guard_target =~ WPA _ _ _ .ret _ _ _; first | (refine WPA.ret ?_))
    | (guard_target =~ WPA _ _ _ (.exit _) _ _ _; first | (refine WPA.exit ?_))
    | (guard_target =~ WPA _ _ _ (.region _ _ false) _ _ _; first | (refine WPA.region ?_))
    | (guard_target =~ WLA _ _ _ _ _ [] _ _; first | (refine WLA.nil ?_))
    | (guard_target =~ QQ (seqQ _ _ _ _ _) _ _ _; first | (refine QQ.seq_normal ?_) | (refine QQ.seq_ret ?_) | (refine QQ.seq_exit ?_))
    | (guard_target =~ QQ (blockQ _ _) _ _ _; first | (refine QQ.block_normal ?_) | (refine QQ.block_ret ?_) | (refine QQ.block_hit ?_) | (refine QQ.block_miss rfl ?_))
    | (guard_target =~ QQ (loopQ _ _ _ _ _) _ _ _; first | (refine QQ.loop_ret ?_) | (refine QQ.loop_exit ?_))
    | (guard_target =~ WPA _ _ _ (.cond _ _ _) _ _ _; first | (refine WPA.condTrue rfl ?_) | (refine WPA.condFalse rfl ?_) | (refine WPA.condT rfl ?_ ?_; (first | assumption | omega | exact rfl | exact (fun h => h rfl))) | (refine WPA.condF rfl ?_ ?_; (first | assumption | omega | exact rfl | exact (fun h => h rfl))) | (refine WPA.cond rfl ?_ ?_ <;> intro hc) | (refine WPA.condB rfl ?_ ?_ <;> intro hc))
    | (guard_target =~ WPA _ _ _ (.region 2 _ true) _ _ _; first | (refine WPA.draw 6 (.q 0 (.q 2 (.e 1 (.q 3 (.q 4 (.q 5 .fin)))))) mixed ?_ ?_; kernel_rfl))
    | (guard_target =~ WDA _ _ _ _ _ _ (.q _ _) _ _; first | (refine WDQ.see rfl ?_))
    | (guard_target =~ WDA _ _ _ _ _ _ (.e _ _) _ _; first | (refine WDE.see rfl ?_))
    | (guard_target =~ WDA _ _ _ _ _ _ .fin _ _; first | (refine WDA.finish (tl := []) rfl ?_) | (refine WDA.finish (tl := [⟨_, _, _, _, _, _⟩]) rfl ?_))
    | (guard_target =~ WLA _ _ _ _ _ (⟨_, (.assign _), 24, _, _, _⟩ :: _) _ _; first | (refine WLA.q rfl (P_assign (v := .pointer (some ⟨_, _, none⟩)) rfl) ?_) | (refine WLA.q rfl (P_assign (v := .pointer _) rfl) ?_) | (refine WLA.q rfl (P_assign rfl) ?_))
    | (guard_target =~ WLA _ _ _ _ _ (⟨_, (.build 99 _), _, _, _, _⟩ :: _) _ _; first | (refine WLA.q rfl (P_bld_99  ) ?_) | (refine WLA.q rfl (P_bld_99 ) ?_))
    | (guard_target =~ WLA _ _ _ _ _ (⟨_, (.box 99 _), _, _, _, _⟩ :: _) _ _; first | ((refine WLA.e rfl (T_box (v := .agg _) rfl) ?_); intro b) | ((refine WLA.e rfl (T_box rfl) ?_); intro b))
    | (guard_target =~ WLA _ _ _ _ _ (⟨_, (.alloc 24), _, _, _, _⟩ :: _) _ _; first | ((refine WLA.e rfl (T_alloc zero_24) ?_); intro b))
    | (guard_target =~ WLA _ _ _ _ _ (⟨_, (.store 24 _ _), _, _, _, _⟩ :: _) _ _; first | (refine WLA.s rfl (T_store (v := .pointer (some ⟨_, _, none⟩)) 0 sz_24 rfl rfl rfl rfl ?_) ?_; (focus first | decide | assumption | (simp [agg_cells]; done) | (simp [agg_cells]; omega))) | (refine WLA.s rfl (T_store (v := .pointer _) 0 sz_24 rfl rfl rfl rfl ?_) ?_; (focus first | decide | assumption | (simp [agg_cells]; done) | (simp [agg_cells]; omega))) | (refine WLA.s rfl (T_store 0 sz_24 rfl rfl rfl rfl ?_) ?_; (focus first | decide | assumption | (simp [agg_cells]; done) | (simp [agg_cells]; omega))) | (refine WLA.s rfl (T_store (v := .pointer (some ⟨_, _, none⟩)) 1 sz_24 rfl rfl rfl rfl ?_) ?_; (focus first | decide | assumption | (simp [agg_cells]; done) | (simp [agg_cells]; omega))) | (refine WLA.s rfl (T_store (v := .pointer _) 1 sz_24 rfl rfl rfl rfl ?_) ?_; (focus first | decide | assumption | (simp [agg_cells]; done) | (simp [agg_cells]; omega))) | (refine WLA.s rfl (T_store 1 sz_24 rfl rfl rfl rfl ?_) ?_; (focus first | decide | assumption | (simp [agg_cells]; done) | (simp [agg_cells]; omega))) | (refine WLA.s rfl (T_store (v := .pointer (some ⟨_, _, none⟩)) 2 sz_24 rfl rfl rfl rfl ?_) ?_; (focus first | decide | assumption | (simp [agg_cells]; done) | (simp [agg_cells]; omega))) | (refine WLA.s rfl (T_store (v := .pointer _) 2 sz_24 rfl rfl rfl rfl ?_) ?_; (focus first | decide | assumption | (simp [agg_cells]; done) | (simp [agg_cells]; omega))) | (refine WLA.s rfl (T_store 2 sz_24 rfl rfl rfl rfl ?_) ?_; (focus first | decide | assumption | (simp [agg_cells]; done) | (simp [agg_cells]; omega))) | (refine WLA.s rfl (T_store (v := .pointer (some ⟨_, _, none⟩)) 3 sz_24 rfl rfl rfl rfl ?_) ?_; (focus first | decide | assumption | (simp [agg_cells]; done) | (simp [agg_cells]; omega))) | (refine WLA.s rfl (T_store (v := .pointer _) 3 sz_24 rfl rfl rfl rfl ?_) ?_; (focus first | decide | assumption | (simp [agg_cells]; done) | (simp [agg_cells]; omega))) | (refine WLA.s rfl (T_store 3 sz_24 rfl rfl rfl rfl ?_) ?_; (focus first | decide | assumption | (simp [agg_cells]; done) | (simp [agg_cells]; omega))) | (refine WLA.s rfl (T_store (v := .pointer (some ⟨_, _, none⟩)) 4 sz_24 rfl rfl rfl rfl ?_) ?_; (focus first | decide | assumption | (simp [agg_cells]; done) | (simp [agg_cells]; omega))) | (refine WLA.s rfl (T_store (v := .pointer _) 4 sz_24 rfl rfl rfl rfl ?_) ?_; (focus first | decide | assumption | (simp [agg_cells]; done) | (simp [agg_cells]; omega))) | (refine WLA.s rfl (T_store 4 sz_24 rfl rfl rfl rfl ?_) ?_; (focus first | decide | assumption | (simp [agg_cells]; done) | (simp [agg_cells]; omega))))
    | (guard_target =~ WLA _ _ _ _ _ (⟨_, (.load 24 _), _, _, _, _⟩ :: _) _ _; first | (refine WLA.q rfl (P_loadO 0 one_24 rfl rfl rfl) ?_) | (refine WLA.q rfl (P_loadO 1 one_24 rfl rfl rfl) ?_) | (refine WLA.q rfl (P_loadO 2 one_24 rfl rfl rfl) ?_) | (refine WLA.q rfl (P_loadO 3 one_24 rfl rfl rfl) ?_) | (refine WLA.q rfl (P_loadO 4 one_24 rfl rfl rfl) ?_) | (refine WLA.q rfl (P_loadM (t' := ?_) (cs := ?_) (fr := ?_) (v := ?_) one_24 rfl ?_ ?_) ?_; rotate_left 4; assumption; (first | assumption | rfl)) | (refine WLA.q rfl (P_loadO (v := ?_) 0 one_24 rfl rfl ?_) ?_; rotate_left 1; assumption) | (refine WLA.q rfl (P_loadO (v := ?_) 1 one_24 rfl rfl ?_) ?_; rotate_left 1; assumption) | (refine WLA.q rfl (P_loadO (v := ?_) 2 one_24 rfl rfl ?_) ?_; rotate_left 1; assumption) | (refine WLA.q rfl (P_loadO (v := ?_) 3 one_24 rfl rfl ?_) ?_; rotate_left 1; assumption) | (refine WLA.q rfl (P_loadO (v := ?_) 4 one_24 rfl rfl ?_) ?_; rotate_left 1; assumption) | (refine WLA.q rfl (P_loadH (t' := ?_) (cs := ?_) (fr := ?_) (v := ?_) one_24 rfl ?_ ?_) ?_; rotate_left 4; assumption; (first | assumption | rfl)))
    | (guard_target =~ WDQ _ _ _ _ _ _ ⟨_, (.load 24 _), _, _, _, _⟩ _ _ _; first | (refine WDQ.v rfl (P_loadO 0 one_24 rfl rfl rfl) ?_) | (refine WDQ.v rfl (P_loadO 1 one_24 rfl rfl rfl) ?_) | (refine WDQ.v rfl (P_loadO 2 one_24 rfl rfl rfl) ?_) | (refine WDQ.v rfl (P_loadO 3 one_24 rfl rfl rfl) ?_) | (refine WDQ.v rfl (P_loadO 4 one_24 rfl rfl rfl) ?_) | (refine WDQ.v rfl (P_loadM (t' := ?_) (cs := ?_) (fr := ?_) (v := ?_) one_24 rfl ?_ ?_) ?_; rotate_left 4; assumption; (first | assumption | rfl)) | (refine WDQ.v rfl (P_loadO (v := ?_) 0 one_24 rfl rfl ?_) ?_; rotate_left 1; assumption) | (refine WDQ.v rfl (P_loadO (v := ?_) 1 one_24 rfl rfl ?_) ?_; rotate_left 1; assumption) | (refine WDQ.v rfl (P_loadO (v := ?_) 2 one_24 rfl rfl ?_) ?_; rotate_left 1; assumption) | (refine WDQ.v rfl (P_loadO (v := ?_) 3 one_24 rfl rfl ?_) ?_; rotate_left 1; assumption) | (refine WDQ.v rfl (P_loadO (v := ?_) 4 one_24 rfl rfl ?_) ?_; rotate_left 1; assumption) | (refine WDQ.v rfl (P_loadH (t' := ?_) (cs := ?_) (fr := ?_) (v := ?_) one_24 rfl ?_ ?_) ?_; rotate_left 4; assumption; (first | assumption | rfl)))
    | (guard_target =~ WLA _ _ _ _ _ (⟨_, (.makeSlice 93 _ _), _, _, _, _⟩ :: _) _ _; first | ((refine WLA.e rfl (T_make Try.underlying93 inf_21 rfl rfl ?_ ?_ ?_ ?_) ?_; omega; omega; omega; omega); intro b))
    | (guard_target =~ WDE _ _ _ _ _ _ ⟨_, (.makeSlice 93 _ _), _, _, _, _⟩ _ _ _; first | ((refine WDE.ev rfl (T_make Try.underlying93 inf_21 rfl rfl ?_ ?_ ?_ ?_) (fun _ => inferInstance) ?_ ?_; omega; omega; omega; omega); (intro x w h; exact h.drop (List.sublist_cons_self ..)); intro b))
    | (guard_target =~ WLA _ _ _ _ _ (⟨_, (.makeFunc _ _ _), _, _, _, _⟩ :: _) _ _; first | (refine WLA.q rfl (P_makeFunc1 (v := .pointer (some ⟨_, _, none⟩))  rfl) ?_) | (refine WLA.q rfl (P_makeFunc1 rfl) ?_))
    | (guard_target =~ WDQ _ _ _ _ _ _ ⟨_, (.makeFunc _ _ _), _, _, _, _⟩ _ _ _; first | (refine WDQ.v rfl (P_makeFunc1 (v := .pointer (some ⟨_, _, none⟩))  rfl) ?_) | (refine WDQ.v rfl (P_makeFunc1 rfl) ?_))
    | (guard_target =~ WLA _ _ _ _ _ (⟨_, (.build 97 _), _, _, _, _⟩ :: _) _ _; first | (refine WLA.q rfl (P_bld_97_0_1_2 (v0 := .slice _ _ _) (v1 := .func _ _ _) (v2 := .func _ _ _) rfl rfl rfl rfl rfl rfl ) ?_) | (refine WLA.q rfl (P_bld_97_0_1_2 rfl rfl rfl rfl rfl rfl ) ?_))
    | (guard_target =~ WDQ _ _ _ _ _ _ ⟨_, (.build 97 _), _, _, _, _⟩ _ _ _; first | (refine WDQ.v rfl (P_bld_97_0_1_2 (v0 := .slice _ _ _) (v1 := .func _ _ _) (v2 := .func _ _ _) rfl rfl rfl rfl rfl rfl ) ?_) | (refine WDQ.v rfl (P_bld_97_0_1_2 rfl rfl rfl rfl rfl rfl ) ?_))
    | (guard_target =~ WLA _ _ _ _ _ (⟨_, (.nilCheck _), _, _, _, _⟩ :: _) _ _; first | (refine WLA.q rfl (P_nilCheck rfl) ?_))
    | (guard_target =~ WDQ _ _ _ _ _ _ ⟨_, (.nilCheck _), _, _, _, _⟩ _ _ _; first | (refine WDQ.v rfl (P_nilCheck rfl) ?_))
    | (guard_target =~ WLA _ _ _ _ _ (⟨_, (.fieldAddr 99 _ _), _, _, _, _⟩ :: _) _ _; first | (refine WLA.q rfl (P_fieldAddr fo_99_1 rfl) ?_))
    | (guard_target =~ WDQ _ _ _ _ _ _ ⟨_, (.fieldAddr 99 _ _), _, _, _, _⟩ _ _ _; first | (refine WDQ.v rfl (P_fieldAddr fo_99_1 rfl) ?_))
    | (guard_target =~ WLA _ _ _ _ _ (⟨_, (.store 97 _ _), _, _, _, _⟩ :: _) _ _; first | (refine WLA.s rfl (T_storeAgg 0 sz_97 rfl rfl rfl rfl rfl ?_) ?_; (focus first | decide | assumption | (simp [agg_cells]; done) | (simp [agg_cells]; omega))) | (refine WLA.s rfl (T_storeAgg 1 sz_97 rfl rfl rfl rfl rfl ?_) ?_; (focus first | decide | assumption | (simp [agg_cells]; done) | (simp [agg_cells]; omega))) | (refine WLA.s rfl (T_storeAgg 2 sz_97 rfl rfl rfl rfl rfl ?_) ?_; (focus first | decide | assumption | (simp [agg_cells]; done) | (simp [agg_cells]; omega))) | (refine WLA.s rfl (T_storeAgg 3 sz_97 rfl rfl rfl rfl rfl ?_) ?_; (focus first | decide | assumption | (simp [agg_cells]; done) | (simp [agg_cells]; omega))) | (refine WLA.s rfl (T_storeAgg 4 sz_97 rfl rfl rfl rfl rfl ?_) ?_; (focus first | decide | assumption | (simp [agg_cells]; done) | (simp [agg_cells]; omega)))))
  rename_i T B
  have hm : madeCells (Value.int IntKind.i32 0).cells (Int.toNat 8 * 1) = ((List.replicate 8 (0 : Int)).map (Value.int .i32)).toArray := by
    have := madeCells_one (Value.int .i32 0) 8
    exact this
  rw [hm]
  refine QQ.fn_ret rfl rfl (T, (T, tbO (.slice none 0 0) b 8 B) :: (B, bxO T) :: (b, atO (List.replicate 8 0)) :: []) rfl fun w h => ⟨?_, h.perm ?_⟩
  · exact ⟨List.replicate 8 0, .slice none 0 0, b, B, [], rfl, ⟨OwnR.nil _ _, good_empty (by decide), ⟨0, rfl, .inl rfl⟩, by simp, by simp, by simp⟩, rfl⟩
  · exact ((List.Perm.swap (B, bxO T) (b, atO (List.replicate 8 0)) _).trans ((List.Perm.swap (T, tbO (.slice none 0 0) b 8 B) (b, atO (List.replicate 8 0)) _).cons _)).trans (List.Perm.swap _ _ _)

end Go.Proofs.Ytckackfgkidedaa
