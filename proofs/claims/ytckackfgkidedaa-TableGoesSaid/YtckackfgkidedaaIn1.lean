/- The table's own functions: what is reckoned of a text, the text of a number, the place of a text. Conditions: none. -/
import Derived.Test.YtckackfgkidedaaFwT
namespace Go.Proofs.Ytckackfgkidedaa
open Go Go.Fw Go.RowKit
set_option linter.unusedVariables false
set_option linter.unusedSimpArgs false
set_option maxRecDepth 100000
attribute [local irreducible] WPA WLA WDA WDQ WDE QQ seqQ blockQ loopQ fnQ OpP OpT Tr TrP

def mixL (s : ByteArray) : Nat → Int → Int → Int
  | 0, h, _ => h
  | k + 1, h, i => if i < (s.size : Int) then mixL s k (IntKind.u64.wrap (Go.bits .xor .u64 h (IntKind.u64.wrap (bt s i)) * 1099511628211)) (i + 1) else h
def mixv (s : ByteArray) : Int := Go.bits .xor .u64 (mixL s s.size 14695981039346656037 0) ((mixL s s.size 14695981039346656037 0).fdiv (2 ^ 29))

theorem mix_tr (s : ByteArray) (hs : s.size ≤ 140737488355328) (w0 : World) (H : HeapP) (L : List (Nat × Obj)) : TrP Try.prog 63 #[.string s] (St w0 H L) (.int .u64 (mixv s)) := by
  refine TrP.of fun w => ?_
  refine Tr.intro Try.func63 rfl Try.ntmps63 rfl ?_
  repeat' (first
    | (guard_target =~ WPA _ _ _ (.seq _ _) _ _ _; first | (refine WPA.seq ?_))
    | (guard_target =~ WPA _ _ _ (.block _ _) _ _ _; first | (refine WPA.block ?_))
    | (guard_target =~ WPA _ _ _ .skip _ _ _; first | (refine WPA.skip ?_))
    | (guard_target =~ WPA _ _ _ .ret _ _ _; first | (refine WPA.ret ?_))
    | (guard_target =~ WPA _ _ _ (.exit _) _ _ _; first | (refine WPA.exit ?_))
    | (guard_target =~ WPA _ _ _ (.region _ _ false) _ _ _; first | (refine WPA.region ?_))
    | (guard_target =~ WLA _ _ _ _ _ [] _ _; first | (refine WLA.nil ?_))
    | (guard_target =~ QQ (seqQ _ _ _ _ _) _ _ _; first | (refine QQ.seq_normal ?_) | (refine QQ.seq_ret ?_) | (refine QQ.seq_exit ?_))
    | (guard_target =~ QQ (blockQ _ _) _ _ _; first | (refine QQ.block_normal ?_) | (refine QQ.block_ret ?_) | (refine QQ.block_hit ?_) | (refine QQ.block_miss rfl ?_))
    | (guard_target =~ QQ (loopQ _ _ _ _ _) _ _ _; first | (refine QQ.loop_ret ?_) | (refine QQ.loop_exit ?_))
    | (guard_target =~ WPA _ _ _ (.cond _ _ _) _ _ _; first | (refine WPA.condTrue rfl ?_) | (refine WPA.condFalse rfl ?_) | (refine WPA.condT rfl ?_ ?_; (first | assumption | omega | exact rfl | exact (fun h => h rfl))) | (refine WPA.condF rfl ?_ ?_; (first | assumption | omega | exact rfl | exact (fun h => h rfl))) | (refine WPA.cond rfl ?_ ?_ <;> intro hc) | (refine WPA.condB rfl ?_ ?_ <;> intro hc))
    | (guard_target =~ WLA _ _ _ _ _ (⟨_, (.assign _), 123, _, _, _⟩ :: _) _ _; first | (refine WLA.q rfl (P_assign (v := .int _ _) rfl) ?_) | (refine WLA.q rfl (P_assign rfl) ?_))
    | (guard_target =~ WLA _ _ _ _ _ (⟨_, (.assign _), 3, _, _, _⟩ :: _) _ _; first | (refine WLA.q rfl (P_assign (v := .int _ _) rfl) ?_) | (refine WLA.q rfl (P_assign rfl) ?_))
    | (guard_target =~ WLA _ _ _ _ _ (⟨_, (.move _), 3, _, _, _⟩ :: _) _ _; first | (refine WLA.q rfl (P_move (v := .int _ _) rfl) ?_) | (refine WLA.q rfl (P_move rfl) ?_))
    | (guard_target =~ WLA _ _ _ _ _ (⟨_, (.move _), 9, _, _, _⟩ :: _) _ _; first | (refine WLA.q rfl (P_move (v := .string _) rfl) ?_) | (refine WLA.q rfl (P_move rfl) ?_))
    | (guard_target =~ WLA _ _ _ _ _ (⟨_, (.call ⟨.builtin .len, _, _⟩), _, _, _, _⟩ :: _) _ _; first | (refine WLA.q rfl (P_len_str Try.underlying9 rfl) ?_))
    | (guard_target =~ WLA _ _ _ _ _ (⟨_, (.binOp .lss 3 _ _ _), _, _, _, _⟩ :: _) _ _; first | (refine WLA.q rfl (P_lss rfl rfl) ?_))
    | (guard_target =~ WLA _ _ _ _ _ (⟨_, (.move _), 123, _, _, _⟩ :: _) _ _; first | (refine WLA.q rfl (P_move (v := .int _ _) rfl) ?_) | (refine WLA.q rfl (P_move rfl) ?_))
    | (guard_target =~ WLA _ _ _ _ _ (⟨_, (.index 9 _ _), _, _, _, _⟩ :: _) _ _; first | (refine WLA.q rfl (P_index_str Try.underlying9 rfl rfl ?_ ?_) ?_; (first | assumption | omega); (first | assumption | omega)))
    | (guard_target =~ WLA _ _ _ _ _ (⟨_, (.convert 5 _ _), _, _, _, _⟩ :: _) _ _; first | (refine WLA.q rfl (P_convIntBu64 Try.underlying5 Try.underlying123 rfl ?_) ?_; omega) | (refine WLA.q rfl (P_convInt Try.underlying5 Try.underlying123 rfl) ?_))
    | (guard_target =~ WLA _ _ _ _ _ (⟨_, (.binOp .xor 123 _ _ _), _, _, _, _⟩ :: _) _ _; first | (refine WLA.q rfl (P_bits (by decide) rfl rfl) ?_))
    | (guard_target =~ WLA _ _ _ _ _ (⟨_, (.binOp .mul 123 _ _ _), _, _, _, _⟩ :: _) _ _; first | (refine WLA.q rfl (P_mul rfl rfl) ?_))
    | (guard_target =~ WLA _ _ _ _ _ (⟨_, (.binOp .add 3 _ _ _), _, _, _, _⟩ :: _) _ _; first | (refine WLA.q rfl (P_addB rfl rfl ?_) ?_; omega) | (refine WLA.q rfl (P_add rfl rfl) ?_))
    | (guard_target =~ WLA _ _ _ _ _ (⟨_, (.binOp .shr 123 _ _ _), _, _, _, _⟩ :: _) _ _; first | (refine WLA.q rfl (P_shr rfl rfl ?_) ?_; decide)))
  refine WPA.loopS (σ := Nat × Int) (fun x => [(0, .string s), (3, .int .u64 x.2), (4, .int .i64 x.1)]) (fun x => x.1 ≤ s.size ∧ mixL s (s.size - x.1) x.2 x.1 = mixL s s.size 14695981039346656037 0)
    (fun _ => StD w0 H L w) (fun x => s.size - x.1) (0, 14695981039346656037) ⟨rfl, rfl, rfl, trivial⟩ ⟨by omega, rfl⟩ (fun _ h => h) ?_
  rintro ⟨i, h⟩ ρ ⟨hi, hm⟩
  dsimp only at hi hm ⊢
  repeat' (first
    | (guard_target =~ WPA _ _ _ (.seq _ _) _ _ _; first | (refine WPA.seq ?_))
    | (guard_target =~ WPA _ _ _ (.block _ _) _ _ _; first | (refine WPA.block ?_))
    | (guard_target =~ WPA _ _ _ .skip _ _ _; first | (refine WPA.skip ?_))
    | (guard_target =~ WPA _ _ _ .ret _ _ _; first | (refine WPA.ret ?_))
    | (guard_target =~ WPA _ _ _ (.exit _) _ _ _; first | (refine WPA.exit ?_))
    | (guard_target =~ WPA _ _ _ (.region _ _ false) _ _ _; first | (refine WPA.region ?_))
    | (guard_target =~ WLA _ _ _ _ _ [] _ _; first | (refine WLA.nil ?_))
    | (guard_target =~ QQ (seqQ _ _ _ _ _) _ _ _; first | (refine QQ.seq_normal ?_) | (refine QQ.seq_ret ?_) | (refine QQ.seq_exit ?_))
    | (guard_target =~ QQ (blockQ _ _) _ _ _; first | (refine QQ.block_normal ?_) | (refine QQ.block_ret ?_) | (refine QQ.block_hit ?_) | (refine QQ.block_miss rfl ?_))
    | (guard_target =~ QQ (loopQ _ _ _ _ _) _ _ _; first | (refine QQ.loop_ret ?_) | (refine QQ.loop_exit ?_))
    | (guard_target =~ WPA _ _ _ (.cond _ _ _) _ _ _; first | (refine WPA.condTrue rfl ?_) | (refine WPA.condFalse rfl ?_) | (refine WPA.condT rfl ?_ ?_; (first | assumption | omega | exact rfl | exact (fun h => h rfl))) | (refine WPA.condF rfl ?_ ?_; (first | assumption | omega | exact rfl | exact (fun h => h rfl))) | (refine WPA.cond rfl ?_ ?_ <;> intro hc) | (refine WPA.condB rfl ?_ ?_ <;> intro hc))
    | (guard_target =~ WLA _ _ _ _ _ (⟨_, (.assign _), 123, _, _, _⟩ :: _) _ _; first | (refine WLA.q rfl (P_assign (v := .int _ _) rfl) ?_) | (refine WLA.q rfl (P_assign rfl) ?_))
    | (guard_target =~ WLA _ _ _ _ _ (⟨_, (.assign _), 3, _, _, _⟩ :: _) _ _; first | (refine WLA.q rfl (P_assign (v := .int _ _) rfl) ?_) | (refine WLA.q rfl (P_assign rfl) ?_))
    | (guard_target =~ WLA _ _ _ _ _ (⟨_, (.move _), 3, _, _, _⟩ :: _) _ _; first | (refine WLA.q rfl (P_move (v := .int _ _) rfl) ?_) | (refine WLA.q rfl (P_move rfl) ?_))
    | (guard_target =~ WLA _ _ _ _ _ (⟨_, (.move _), 9, _, _, _⟩ :: _) _ _; first | (refine WLA.q rfl (P_move (v := .string _) rfl) ?_) | (refine WLA.q rfl (P_move rfl) ?_))
    | (guard_target =~ WLA _ _ _ _ _ (⟨_, (.call ⟨.builtin .len, _, _⟩), _, _, _, _⟩ :: _) _ _; first | (refine WLA.q rfl (P_len_str Try.underlying9 rfl) ?_))
    | (guard_target =~ WLA _ _ _ _ _ (⟨_, (.binOp .lss 3 _ _ _), _, _, _, _⟩ :: _) _ _; first | (refine WLA.q rfl (P_lss rfl rfl) ?_))
    | (guard_target =~ WLA _ _ _ _ _ (⟨_, (.move _), 123, _, _, _⟩ :: _) _ _; first | (refine WLA.q rfl (P_move (v := .int _ _) rfl) ?_) | (refine WLA.q rfl (P_move rfl) ?_))
    | (guard_target =~ WLA _ _ _ _ _ (⟨_, (.index 9 _ _), _, _, _, _⟩ :: _) _ _; first | (refine WLA.q rfl (P_index_str Try.underlying9 rfl rfl ?_ ?_) ?_; (first | assumption | omega); (first | assumption | omega)))
    | (guard_target =~ WLA _ _ _ _ _ (⟨_, (.convert 5 _ _), _, _, _, _⟩ :: _) _ _; first | (refine WLA.q rfl (P_convIntBu64 Try.underlying5 Try.underlying123 rfl ?_) ?_; omega) | (refine WLA.q rfl (P_convInt Try.underlying5 Try.underlying123 rfl) ?_))
    | (guard_target =~ WLA _ _ _ _ _ (⟨_, (.binOp .xor 123 _ _ _), _, _, _, _⟩ :: _) _ _; first | (refine WLA.q rfl (P_bits (by decide) rfl rfl) ?_))
    | (guard_target =~ WLA _ _ _ _ _ (⟨_, (.binOp .mul 123 _ _ _), _, _, _, _⟩ :: _) _ _; first | (refine WLA.q rfl (P_mul rfl rfl) ?_))
    | (guard_target =~ WLA _ _ _ _ _ (⟨_, (.binOp .add 3 _ _ _), _, _, _, _⟩ :: _) _ _; first | (refine WLA.q rfl (P_addB rfl rfl ?_) ?_; omega) | (refine WLA.q rfl (P_add rfl rfl) ?_))
    | (guard_target =~ WLA _ _ _ _ _ (⟨_, (.binOp .shr 123 _ _ _), _, _, _, _⟩ :: _) _ _; first | (refine WLA.q rfl (P_shr rfl rfl ?_) ?_; decide)))
  · obtain ⟨d, hd⟩ : ∃ d, s.size - i = d + 1 := ⟨s.size - i - 1, by omega⟩
    rw [hd, mixL, if_pos (by omega)] at hm
    exact QQ.loopS (i + 1, _) ⟨rfl, rfl, rfl, trivial⟩ ⟨by omega, by rw [show s.size - (i + 1) = d by omega]; push_cast; exact hm⟩ (by omega) (fun _ h => h)
  · have e : s.size - i = 0 := by omega
    rw [e, mixL] at hm
    subst hm
    exact QQ.fn_ret rfl rfl () rfl (fun _ h => h)

end Go.Proofs.Ytckackfgkidedaa
