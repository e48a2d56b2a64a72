/- Lines: the search for the end of a line, and the iterator. Conditions: none. -/
import Derived.Test.YtlodbajaoadhdaaTk3
import Derived.Lib.Bytealg
namespace Go.Fw
open Go Go.RowKit
section
variable {P : Program} {ρ : Env} {A : World → Prop} {ty : TypeId} {ro : Option Nat} {n : Nat} {Q : Hnd} {ops : Array Oper} {rest : List Oper} {pos : String} {af : Array Edge} {g : Option (Nat × Bool)} {d : Tmp}
/-- A call of a function of the model's own. -/
theorem WLA.ext {f : FuncId} {fn : Func} {e : Array Value → Sem Value} {args : List Operand} {argTypes : Array TypeId} {vs : List Value} {v : Value} [hv : EvAll ρ args vs] (hf : P.funcs[f]? = some fn) (hname : (fn.name == "runtime.NumGoroutine") = false)
    (hb : fn.body.isNone = true) (hn : Extern.findNext fn = none) (he : Extern.find fn = some e) (hr : ∀ w, (e vs.toArray).run P w = .ok v w)
    (hw : Region.wanted ⟨some d, .call { callee := .value (.func f), args := args.toArray, argTypes := argTypes }, ty, pos, af, g⟩ (yieldedE n ops ρ) = true) (hd : Nat.blt d n = true) (k : WLA ro P n ops Q rest (put1 ρ d v) A) :
    WLA ro P n ops Q (⟨some d, .call { callee := .value (.func f), args := args.toArray, argTypes := argTypes }, ty, pos, af, g⟩ :: rest) ρ A :=
  WLA.q (v := v) hw (fun d pos af g w _ => by
    have e1 : args.toArray.map (evalE ρ) = vs.toArray := by simp [← hv.out]
    have e2 := run_callFunc_extern hf hname hb hn he vs.toArray w
    rw [hr] at e2
    simp [execOp, resolve, evalE, Deferred.ofValue, invoke, e1, e2, go_sem]) (by rw [upd_put1 hd]; exact k)
end
end Go.Fw
namespace Go.Proofs.Ytlodbajaoadhdaa
open Go Go.Fw Go.RowKit
set_option linter.unusedVariables false
set_option linter.unusedSimpArgs false
set_option maxRecDepth 100000
set_option maxHeartbeats 16000000
set_option synthInstance.maxHeartbeats 200000
set_option synthInstance.maxSize 100000
attribute [local irreducible] WPA WLA WDA WDQ WDE QQ seqQ blockQ loopQ fnQ OpP OpT Tr TrP SL SLd OwnS LitS Bk BkE Ob

/-- The first line's end. -/
def nlAt (s : ByteArray) : Int := Lib.indexByte s.data.toList 10
section
variable {s : ByteArray} {L : List HP} {w0 : World} {I : Foot}
theorem IndexByte_tr : TrP Try.prog 198 #[.string s, .int .u8 10] (SL w0 I L) (.int .i64 (nlAt s)) := by
  refine TrP.ofD fun u => Tr.intro Try.func198 rfl Try.ntmps198 rfl ?_
  repeat' (first | (guard_target =~ WLA _ _ _ _ _ (⟨_, .call ⟨.value (.func 202), _, _⟩, _, _, _, _⟩ :: _) _ _; refine WLA.ext (fn := Try.f202) (e := Extern.BytealgIndexByte.indexByte) rfl (by kernel_rfl) (by kernel_rfl) (by kernel_rfl) (by kernel_rfl) (fun w => Lib.run_indexByteString s 10 w) rfl rfl ?_) | ((first | refine WLA.m rfl rfl ?_ ?_ | refine WLA.st rfl ?_ ?_ | refine WLA.x rfl rfl ?_ (fun x => ?_) | refine WLA.x0 rfl ?_ (fun x => ?_)); first | exact trivial | exact rfl | assumption | omega | (refine ⟨?_, ?_⟩ <;> omega) | (simp only [Room, List.length_set, List.length_append, List.length_cons, List.length_nil, List.length_replicate]; omega) | decide | skip) | (refine Stp.go ?_) | (refine WPA.ifT ?_) | (refine WPA.ifF ?_) | ((first | refine WPA.dec ?_); first | refine .inl ⟨by first | assumption | omega | with_reducible rfl | (refine fun h => h ?_; first | assumption | with_reducible rfl) | (simp only [List.length_append, List.length_cons, List.length_nil, List.length_set] <;> omega) | decide, ?_⟩ | refine .inr ⟨by first | assumption | omega | with_reducible rfl | (refine fun h => h ?_; first | assumption | with_reducible rfl) | (simp only [List.length_append, List.length_cons, List.length_nil, List.length_set] <;> omega) | decide, ?_⟩) | ((first | refine WPA.ifBt ?_ ?_ | refine WPA.ifBnf ?_ ?_); assumption) | ((first | refine WPA.ifBnt ?_ ?_ | refine WPA.ifBf ?_ ?_); assumption) | ((first | refine WPA.ifs ?_ ?_ | refine WPA.ifB ?_ ?_) <;> intro hc))
  exact QQ.end_ rfl () rfl fun w h => h
theorem Index_tr : TrP Try.prog 194 #[.string s, .string ⟨#[10]⟩] (SL w0 I L) (.int .i64 (nlAt s)) := by
  refine TrP.ofD fun u => Tr.intro Try.func194 rfl Try.ntmps194 rfl ?_
  have hs1 : ((⟨#[10]⟩ : ByteArray).size : Int) = 1 := rfl
  have hs0 : ¬ ((⟨#[10]⟩ : ByteArray).size : Int) = 0 := by decide
  by_cases h10 : (⟨#[10]⟩ : ByteArray) = s
  · have e : nlAt s = 0 := by rw [← h10]; decide
    repeat' (first | (guard_target =~ WLA _ _ _ _ _ (⟨_, .pick _ _ _, _, _, _, _⟩ :: _) _ _; first | refine WLA.pickT (by decide) ?_ | refine WLA.pickF (by decide) ?_) | ((first | refine WLA.m rfl rfl ?_ ?_ | refine WLA.st rfl ?_ ?_ | refine WLA.x rfl rfl ?_ (fun x => ?_) | refine WLA.x0 rfl ?_ (fun x => ?_)); first | exact trivial | exact rfl | assumption | omega | (refine ⟨?_, ?_⟩ <;> omega) | (simp only [Room, List.length_set, List.length_append, List.length_cons, List.length_nil, List.length_replicate]; omega) | decide | skip) | (refine Stp.go ?_) | (guard_target =~ WLA _ _ _ _ _ (⟨_, .call ⟨.value (.func 198), _, _⟩, _, _, _, _⟩ :: _) _ _; refine WLA.cq rfl rfl (IndexByte_tr) ?_) | (refine WPA.ifT ?_) | (refine WPA.ifF ?_) | (refine WLA.no rfl rfl ?_) | ((first | refine WPA.dec ?_ | ((fail_if_success (guard_target =~ WLA _ _ _ _ _ _ (put1 _ _ (.bool true)) _)); (fail_if_success (guard_target =~ WLA _ _ _ _ _ _ (put1 _ _ (.bool false)) _)); refine WLA.dec rfl rfl ?_) | refine WLA.pk ?_); first | refine .inl ⟨by first | assumption | omega | with_reducible rfl | (refine fun h => h ?_; first | assumption | with_reducible rfl) | (simp only [List.length_append, List.length_cons, List.length_nil, List.length_set] <;> omega) | decide, ?_⟩ | refine .inr ⟨by first | assumption | omega | with_reducible rfl | (refine fun h => h ?_; first | assumption | with_reducible rfl) | (simp only [List.length_append, List.length_cons, List.length_nil, List.length_set] <;> omega) | decide, ?_⟩) | ((first | refine WPA.ifBt ?_ ?_ | refine WPA.ifBnf ?_ ?_); assumption) | ((first | refine WPA.ifBnt ?_ ?_ | refine WPA.ifBf ?_ ?_); assumption) | ((first | refine WPA.ifs ?_ ?_ | refine WPA.ifB ?_ ?_) <;> intro hc) | ((fail_if_success (guard_target =~ WLA _ _ _ _ _ _ (put1 _ _ (.bool true)) _)); (fail_if_success (guard_target =~ WLA _ _ _ _ _ _ (put1 _ _ (.bool false)) _)); (first | refine WLA.both rfl rfl ?_ ?_ | refine WLA.bothB rfl rfl ?_ ?_) <;> intro hg))
    rw [e]
    exact QQ.end_ rfl () rfl fun w h => h
  · skip
    repeat' (first | (guard_target =~ WLA _ _ _ _ _ (⟨_, .pick _ _ _, _, _, _, _⟩ :: _) _ _; first | refine WLA.pickT (by decide) ?_ | refine WLA.pickF (by decide) ?_) | ((first | refine WLA.m rfl rfl ?_ ?_ | refine WLA.st rfl ?_ ?_ | refine WLA.x rfl rfl ?_ (fun x => ?_) | refine WLA.x0 rfl ?_ (fun x => ?_)); first | exact trivial | exact rfl | assumption | omega | (refine ⟨?_, ?_⟩ <;> omega) | (simp only [Room, List.length_set, List.length_append, List.length_cons, List.length_nil, List.length_replicate]; omega) | decide | skip) | (refine Stp.go ?_) | (guard_target =~ WLA _ _ _ _ _ (⟨_, .call ⟨.value (.func 198), _, _⟩, _, _, _, _⟩ :: _) _ _; refine WLA.cq rfl rfl (IndexByte_tr) ?_) | (refine WPA.ifT ?_) | (refine WPA.ifF ?_) | (refine WLA.no rfl rfl ?_) | ((first | refine WPA.dec ?_ | ((fail_if_success (guard_target =~ WLA _ _ _ _ _ _ (put1 _ _ (.bool true)) _)); (fail_if_success (guard_target =~ WLA _ _ _ _ _ _ (put1 _ _ (.bool false)) _)); refine WLA.dec rfl rfl ?_) | refine WLA.pk ?_); first | refine .inl ⟨by first | assumption | omega | with_reducible rfl | (refine fun h => h ?_; first | assumption | with_reducible rfl) | (simp only [List.length_append, List.length_cons, List.length_nil, List.length_set] <;> omega) | decide, ?_⟩ | refine .inr ⟨by first | assumption | omega | with_reducible rfl | (refine fun h => h ?_; first | assumption | with_reducible rfl) | (simp only [List.length_append, List.length_cons, List.length_nil, List.length_set] <;> omega) | decide, ?_⟩) | ((first | refine WPA.ifBt ?_ ?_ | refine WPA.ifBnf ?_ ?_); assumption) | ((first | refine WPA.ifBnt ?_ ?_ | refine WPA.ifBf ?_ ?_); assumption) | ((first | refine WPA.ifs ?_ ?_ | refine WPA.ifB ?_ ?_) <;> intro hc) | ((fail_if_success (guard_target =~ WLA _ _ _ _ _ _ (put1 _ _ (.bool true)) _)); (fail_if_success (guard_target =~ WLA _ _ _ _ _ _ (put1 _ _ (.bool false)) _)); (first | refine WLA.both rfl rfl ?_ ?_ | refine WLA.bothB rfl rfl ?_ ?_) <;> intro hg))
    exact QQ.end_ rfl () rfl fun w h => h
theorem ib_spec : ∀ (l : List UInt8) (c : UInt8), (Lib.indexByte l c = -1 ∧ ∀ j : Nat, l[j]? ≠ some c) ∨ ∃ i : Nat, Lib.indexByte l c = i ∧ l[i]? = some c ∧ ∀ j : Nat, j < i → l[j]? ≠ some c
  | [], c => .inl ⟨rfl, by simp⟩
  | b :: l, c => by
    unfold Lib.indexByte
    by_cases hb : b = c
    · subst hb
      exact .inr ⟨0, by simp, by simp, fun j hj => by omega⟩
    · rw [if_neg (by simpa using hb)]
      rcases ib_spec l c with ⟨h1, h2⟩ | ⟨i, h1, h2, h3⟩
      · left
        refine ⟨by rw [h1]; rfl, fun j => ?_⟩
        cases j with
        | zero => simpa using hb
        | succ j => simpa using h2 j
      · right
        refine ⟨i + 1, by rw [h1, if_neg (by simp)]; rfl, by simpa using h2, fun j hj => ?_⟩
        cases j with
        | zero => simpa using hb
        | succ j => simpa using h3 j (by omega)
theorem bt_list {s : ByteArray} {j : Nat} (h : j < s.size) : bt s (j : Nat) = 10 ↔ s.data.toList[j]? = some 10 := by
  have e : s.data.toList[j]? = some (s[j]'h) := by
    rw [Array.getElem?_toList]
    exact Array.getElem?_eq_getElem h
  rw [e]
  unfold bt
  rw [Int.toNat_natCast, dif_pos h]
  constructor
  · intro h1
    have : (s[j]'h).toNat = 10 := by omega
    congr 1
    exact UInt8.toNat_inj.1 this
  · intro h1
    have : s[j]'h = 10 := by simpa using h1
    rw [this]; rfl
theorem nl_range (s : ByteArray) : -1 ≤ nlAt s ∧ nlAt s < s.size := by
  unfold nlAt
  rcases ib_spec s.data.toList 10 with ⟨h1, h2⟩ | ⟨i, h1, h2, h3⟩
  · rw [h1]; exact ⟨by omega, by omega⟩
  · rw [h1]
    have := (List.getElem?_eq_some_iff.1 h2).1
    rw [Array.length_toList] at this
    have e : s.data.size = s.size := rfl
    omega
theorem sCut_tr (hsz : s.size ≤ 1000000) : TrP Try.prog 179 #[.string s, .string ⟨#[10]⟩] (SL w0 I L) (.tuple #[.string (if 0 ≤ nlAt s then s.extract 0 (nlAt s).toNat else s), .string (if 0 ≤ nlAt s then s.extract (nlAt s + 1).toNat s.size else ⟨#[]⟩), .bool (decide (0 ≤ nlAt s))]) := by
  refine TrP.ofD fun u => Tr.intro Try.func179 rfl Try.ntmps179 rfl ?_
  have hr := nl_range s
  have hs1 : ((⟨#[10]⟩ : ByteArray).size : Int) = 1 := rfl
  by_cases h0 : 0 ≤ nlAt s
  · have hb : nlAt s + ((⟨#[10]⟩ : ByteArray).size : Int) ≤ s.size := by omega
    repeat' (first | ((first | refine WLA.m rfl rfl ?_ ?_ | refine WDQ.m rfl rfl ?_ ?_ | refine WLA.st rfl ?_ ?_ | refine WLA.x rfl rfl ?_ (fun x => ?_) | refine WLA.x0 rfl ?_ (fun x => ?_)); first | exact trivial | exact rfl | assumption | omega | (refine ⟨?_, ?_⟩ <;> omega) | (simp only [Room, List.length_set, List.length_append, List.length_cons, List.length_nil, List.length_replicate]; omega) | decide | skip) | (refine Stp.go ?_) | (guard_target =~ WLA _ _ _ _ _ (⟨_, .call ⟨.value (.func 194), _, _⟩, _, _, _, _⟩ :: _) _ _; refine WLA.cq rfl rfl (Index_tr) ?_) | (refine WPA.ifT ?_) | (refine WPA.ifF ?_) | ((first | refine WPA.dec ?_); first | refine .inl ⟨by first | assumption | omega | with_reducible rfl | (refine fun h => h ?_; first | assumption | with_reducible rfl) | (simp only [List.length_append, List.length_cons, List.length_nil, List.length_set] <;> omega) | decide, ?_⟩ | refine .inr ⟨by first | assumption | omega | with_reducible rfl | (refine fun h => h ?_; first | assumption | with_reducible rfl) | (simp only [List.length_append, List.length_cons, List.length_nil, List.length_set] <;> omega) | decide, ?_⟩) | ((first | refine WPA.ifBt ?_ ?_ | refine WPA.ifBnf ?_ ?_); assumption) | ((first | refine WPA.ifBnt ?_ ?_ | refine WPA.ifBf ?_ ?_); assumption) | ((first | refine WPA.ifs ?_ ?_ | refine WPA.ifB ?_ ?_) <;> intro hc) | (guard_target =~ WPA _ _ _ (.region 3 _ true) _ _ _; refine WPA.drawT 10 (.q 0 (.q 1 (.q 2 (.q 3 (.q 4 (.q 5 (.q 6 (.q 7 (.q 8 (.q 9 .fin)))))))))) mixed ?_ ?_; kernel_rfl) | (refine WDA.finish (tl := [⟨_, _, _, _, _, _⟩, ⟨_, _, _, _, _, _⟩]) rfl ?_) | (refine WDQ.see rfl ?_) | (guard_target =~ WDQ _ _ _ _ _ _ _ ⟨_, .call ⟨.value (.func 194), _, _⟩, _, _, _, _⟩ _ _ _; refine WDQ.cq rfl rfl (Index_tr) ?_))
    refine QQ.end_ rfl () ?_ fun w h => h
    rw [if_pos h0, if_pos h0, decide_eq_true h0]; rfl
  · skip
    repeat' (first | ((first | refine WLA.m rfl rfl ?_ ?_ | refine WDQ.m rfl rfl ?_ ?_ | refine WLA.st rfl ?_ ?_ | refine WLA.x rfl rfl ?_ (fun x => ?_) | refine WLA.x0 rfl ?_ (fun x => ?_)); first | exact trivial | exact rfl | assumption | omega | (refine ⟨?_, ?_⟩ <;> omega) | (simp only [Room, List.length_set, List.length_append, List.length_cons, List.length_nil, List.length_replicate]; omega) | decide | skip) | (refine Stp.go ?_) | (guard_target =~ WLA _ _ _ _ _ (⟨_, .call ⟨.value (.func 194), _, _⟩, _, _, _, _⟩ :: _) _ _; refine WLA.cq rfl rfl (Index_tr) ?_) | (refine WPA.ifT ?_) | (refine WPA.ifF ?_) | ((first | refine WPA.dec ?_); first | refine .inl ⟨by first | assumption | omega | with_reducible rfl | (refine fun h => h ?_; first | assumption | with_reducible rfl) | (simp only [List.length_append, List.length_cons, List.length_nil, List.length_set] <;> omega) | decide, ?_⟩ | refine .inr ⟨by first | assumption | omega | with_reducible rfl | (refine fun h => h ?_; first | assumption | with_reducible rfl) | (simp only [List.length_append, List.length_cons, List.length_nil, List.length_set] <;> omega) | decide, ?_⟩) | ((first | refine WPA.ifBt ?_ ?_ | refine WPA.ifBnf ?_ ?_); assumption) | ((first | refine WPA.ifBnt ?_ ?_ | refine WPA.ifBf ?_ ?_); assumption) | ((first | refine WPA.ifs ?_ ?_ | refine WPA.ifB ?_ ?_) <;> intro hc) | (guard_target =~ WPA _ _ _ (.region 3 _ true) _ _ _; refine WPA.drawT 10 (.q 0 (.q 1 (.q 2 (.q 3 (.q 4 (.q 5 (.q 6 (.q 7 (.q 8 (.q 9 .fin)))))))))) mixed ?_ ?_; kernel_rfl) | (refine WDA.finish (tl := [⟨_, _, _, _, _, _⟩, ⟨_, _, _, _, _, _⟩]) rfl ?_) | (refine WDQ.see rfl ?_) | (guard_target =~ WDQ _ _ _ _ _ _ _ ⟨_, .call ⟨.value (.func 194), _, _⟩, _, _, _, _⟩ _ _ _; refine WDQ.cq rfl rfl (Index_tr) ?_))
    refine QQ.end_ rfl () ?_ fun w h => h
    rw [if_neg h0, if_neg h0, decide_eq_false h0]
theorem Cut_tr (hsz : s.size ≤ 1000000) : TrP Try.prog 147 #[.string s, .string ⟨#[10]⟩] (SL w0 I L) (.tuple #[.string (if 0 ≤ nlAt s then s.extract 0 (nlAt s).toNat else s), .string (if 0 ≤ nlAt s then s.extract (nlAt s + 1).toNat s.size else ⟨#[]⟩), .bool (decide (0 ≤ nlAt s))]) := by
  refine TrP.ofD fun u => Tr.intro Try.func147 rfl Try.ntmps147 rfl ?_
  repeat' (first | ((first | refine WLA.m rfl rfl ?_ ?_ | refine WLA.st rfl ?_ ?_ | refine WLA.x rfl rfl ?_ (fun x => ?_) | refine WLA.x0 rfl ?_ (fun x => ?_)); first | exact trivial | exact rfl | assumption | omega | (refine ⟨?_, ?_⟩ <;> omega) | (simp only [Room, List.length_set, List.length_append, List.length_cons, List.length_nil, List.length_replicate]; omega) | decide | skip) | (refine Stp.go ?_) | (guard_target =~ WLA _ _ _ _ _ (⟨_, .call ⟨.value (.func 179), _, _⟩, _, _, _, _⟩ :: _) _ _; refine WLA.cq rfl rfl (sCut_tr hsz) ?_) | (refine WPA.ifT ?_) | (refine WPA.ifF ?_) | ((first | refine WPA.dec ?_); first | refine .inl ⟨by first | assumption | omega | with_reducible rfl | (refine fun h => h ?_; first | assumption | with_reducible rfl) | (simp only [List.length_append, List.length_cons, List.length_nil, List.length_set] <;> omega) | decide, ?_⟩ | refine .inr ⟨by first | assumption | omega | with_reducible rfl | (refine fun h => h ?_; first | assumption | with_reducible rfl) | (simp only [List.length_append, List.length_cons, List.length_nil, List.length_set] <;> omega) | decide, ?_⟩) | ((first | refine WPA.ifBt ?_ ?_ | refine WPA.ifBnf ?_ ?_); assumption) | ((first | refine WPA.ifBnt ?_ ?_ | refine WPA.ifBf ?_ ?_); assumption) | ((first | refine WPA.ifs ?_ ?_ | refine WPA.ifB ?_ ?_) <;> intro hc))
  exact QQ.end_ rfl () rfl fun w h => h
end
end Go.Proofs.Ytlodbajaoadhdaa
