/- The n-grams of lists, gone over: made. Conditions: none. -/
import Derived.Test.YtlodbajaoadhdaaWi1
namespace Go.Proofs.Ytlodbajaoadhdaa
open Go Go.Fw Go.RowKit
set_option linter.unusedVariables false
set_option linter.unusedSimpArgs false
set_option maxRecDepth 100000
set_option maxHeartbeats 16000000
set_option synthInstance.maxHeartbeats 200000
set_option synthInstance.maxSize 100000
attribute [local irreducible] WPA WLA WDA WDQ WDE QQ seqQ blockQ loopQ fnQ OpP OpT Tr TrP SL SLd OwnS LitS Bk BkE Ob

/-- A function as an element. -/
def anyF (f : Fn) (x y : Array Value) : Any := ⟨.func f x y, rfl⟩
instance {f : Fn} {x y : Array Value} : Dec Any [.func f x y] (anyF f x y) := ⟨rfl⟩
def anyN : Any := ⟨.nilFunc, rfl⟩
instance : Dec Any [.nilFunc] anyN := ⟨rfl⟩
/-- Slices of slices. -/
def eachL (gs : List (List Int)) (n : Int) : List (List Int) := gs.flatMap fun p => gramsL p n
/-- Iterators, one for each list. -/
def EaI (J : Foot) (b : Nat) (gs : List (List Int)) (n : Int) : Prop := ∃ (own : SV) (fs : List Any), InI J b 153 [.slice own.a own.n own.cap] ∧ SlI J own Any inferInstance fs ∧ fs.length = gs.length ∧ ∀ k : Nat, k < fs.length → GrI J (at_ fs (k : Int)).1 (gs.getD k []) n
instance SubI.hereW {R I : Foot} : SubI (R ++ I) R := ⟨fun _ h => List.mem_append_left _ h⟩
section
variable {L L' : List HP} {w0 : World} {I : Foot}
theorem Grams_trS {s : SV} {p : List Int} {n : Int} [hr : RdS I L s Int inferInstance p] (hp : p.length ≤ 1000000) :
    Tr Try.prog 141 #[.slice s.a s.n s.cap, .int .i64 n] (SL w0 I L) (fun x : { y : Nat × Nat × Foot // GrI y.2.2 (.func (.func 178) #[] #[.pointer (some ⟨y.1, 0, none⟩), .pointer (some ⟨y.2.1, 0, none⟩)]) p n } => .func (.func 178) #[] #[.pointer (some ⟨x.1.1, 0, none⟩), .pointer (some ⟨x.1.2.1, 0, none⟩)])
      (fun x => SL w0 (x.1.2.2 ++ I) L) :=
  (Grams_tr hp).conv (fun _ h => h) fun x w hb => by
    obtain ⟨bn, bo, own, h1, h2, h3, h4⟩ := hb.1
    exact ⟨⟨(bn, bo, x.2), ⟨bn, bo, own, rfl, h2, h3, h4⟩⟩, h1, hb.2⟩
structure EW where
  j : Nat
  r : SV
  fs : List Any
  J : Foot
theorem Each_tr {s : SV} {hs : List SV} {gs : List (List Int)} {n : Int} [hr : RdS I L s SV inferInstance hs] (hg : GsI I hs gs) (hn : hs.length ≤ 1000) (hl : ∀ g ∈ gs, g.length ≤ 1000000) :
    Tr Try.prog 114 #[.slice s.a s.n s.cap, .int .i64 n] (SL w0 I L) (fun x : { y : Nat × Foot // EaI y.2 y.1 gs n } => .func (.func 142) #[] #[.pointer (some ⟨x.1.1, 0, none⟩)]) (fun x => SL w0 (x.1.2 ++ I) L) := by
  refine Tr.intro Try.func114 rfl Try.ntmps114 rfl ?_
  repeat' (first
    | (refine WLA.m rfl rfl ?_ ?_; first | exact trivial | exact rfl | assumption | omega | (refine ⟨?_, ?_⟩ <;> omega) | (simp only [Room, List.length_set, List.length_append, List.length_cons, List.length_nil, List.length_replicate]; omega) | decide | skip)
    | (refine WLA.nil ?_)
    | (refine WPA.region ?_)
    | (refine WPA.seq ?_)
    | (refine QQ.seq_normal ?_)
    | (refine WPA.skip ?_)
    | (refine WPA.block ?_)
    | (refine WPA.ret ?_)
    | (refine WPA.exit ?_)
    | (refine QQ.seq_ret ?_)
    | (refine QQ.seq_exit ?_)
    | (refine QQ.block_normal ?_)
    | (refine QQ.block_ret ?_)
    | (refine QQ.block_hit ?_)
    | (refine QQ.block_miss rfl ?_)
    | (refine QQ.loop_ret ?_)
    | (refine QQ.loop_exit ?_)
    | (refine WLA.st rfl ?_ ?_; first | exact trivial | exact rfl | assumption | omega | (refine ⟨?_, ?_⟩ <;> omega) | (simp only [Room, List.length_set, List.length_append, List.length_cons, List.length_nil, List.length_replicate]; omega) | decide | skip)
    | (refine WLA.x rfl rfl ?_ (fun x => ?_); first | exact trivial | exact rfl | assumption | omega | (refine ⟨?_, ?_⟩ <;> omega) | (simp only [Room, List.length_set, List.length_append, List.length_cons, List.length_nil, List.length_replicate]; omega) | decide | skip)
    | (refine WLA.x0 rfl ?_ (fun x => ?_); first | exact trivial | exact rfl | assumption | omega | (refine ⟨?_, ?_⟩ <;> omega) | (simp only [Room, List.length_set, List.length_append, List.length_cons, List.length_nil, List.length_replicate]; omega) | decide | skip)
    | (guard_target =~ WPA _ _ _ (.cond _ _ _) _ _ _; first | (refine WPA.ifT ?_) | (refine WPA.ifF ?_) | (refine WPA.ifYes ?_ ?_; (first | assumption | omega | (refine fun h => h ?_; assumption) | (simp only [List.length_append, List.length_cons, List.length_nil, List.length_set] <;> omega))) | (refine WPA.ifNo ?_ ?_; (first | assumption | omega | (refine fun h => h ?_; assumption) | (simp only [List.length_append, List.length_cons, List.length_nil, List.length_set] <;> omega))) | (refine WPA.ifBt ?_ ?_; assumption) | (refine WPA.ifBf ?_ ?_; assumption) | (refine WPA.ifBnt ?_ ?_; assumption) | (refine WPA.ifBnf ?_ ?_; assumption) | (refine WPA.ifs ?_ ?_ <;> intro hc) | (refine WPA.ifB ?_ ?_ <;> intro hc)))
  rename_i x0
  revert x; intro t5
  refine WPA.loopS (σ := EW) (fun y => [(0, .slice s.a s.n s.cap), (1, .int .i64 n), (5, .pointer (some ⟨t5, 0, none⟩)), (11, .slice s.a s.n s.cap), (12, .int .i64 hs.length), (13, .int .i64 y.j)])
    (fun y => (y.j ≤ hs.length ∧ y.fs.length = y.j) ∧ ∀ k : Nat, k < y.fs.length → GrI y.J (at_ y.fs (k : Int)).1 (gs.getD k []) n) (fun y => SL w0 (y.J ++ I) (Bk t5 153 [.slice y.r.a y.r.n y.r.cap] :: OwnS 155 y.r y.fs :: L)) (fun y => hs.length - y.j) ⟨0, x0, [], []⟩ ⟨rfl, rfl, rfl, rfl, rfl, rfl, trivial⟩ ⟨⟨Nat.zero_le _, rfl⟩, fun k hk => by simp at hk⟩ (fun w h => ?_) ?_
  · have e : List.replicate (Int.toNat 0) anyN = ([] : List Any) := rfl
    rw [e] at h
    exact h.to
  rintro ⟨j, r, fs, J⟩ ρ ⟨⟨hj, hfl⟩, hf⟩
  dsimp only at hj hfl hf ⊢
  by_cases hlt : j < hs.length
  · have hlt' : (j : Int) < hs.length := by omega
    have hgj := (hg.2 j hlt).sub (I' := J ++ I)
    have hgl : (gs.getD j []).length ≤ 1000000 := by
      have := hg.1
      rw [List.getD_eq_getElem?_getD, List.getElem?_eq_getElem (by omega)]; exact hl _ (List.getElem_mem _)
    repeat' (first
      | (refine WLA.m rfl rfl ?_ ?_; first | exact trivial | exact rfl | assumption | omega | (refine ⟨?_, ?_⟩ <;> omega) | (simp only [Room, List.length_set, List.length_append, List.length_cons, List.length_nil, List.length_replicate]; omega) | decide | skip)
      | (refine WLA.nil ?_)
      | (refine WPA.region ?_)
      | (refine WPA.seq ?_)
      | (refine QQ.seq_normal ?_)
      | (refine WPA.skip ?_)
      | (refine WPA.block ?_)
      | (refine WPA.ret ?_)
      | (refine WPA.exit ?_)
      | (refine QQ.seq_ret ?_)
      | (refine QQ.seq_exit ?_)
      | (refine QQ.block_normal ?_)
      | (refine QQ.block_ret ?_)
      | (refine QQ.block_hit ?_)
      | (refine QQ.block_miss rfl ?_)
      | (refine QQ.loop_ret ?_)
      | (refine QQ.loop_exit ?_)
      | (guard_target =~ WLA _ _ _ _ _ (⟨_, .call ⟨.value (.func 141), _, _⟩, _, _, _, _⟩ :: _) _ _; first | (refine WLA.call rfl rfl (Grams_trS hgl) ?_; rintro ⟨⟨bn, bo, R⟩, hG⟩; dsimp only at hG ⊢) | (refine WLA.call0 rfl (Grams_trS hgl) ?_; rintro ⟨⟨bn, bo, R⟩, hG⟩; dsimp only at hG ⊢))
      | (refine WLA.st rfl ?_ ?_; first | exact trivial | exact rfl | assumption | omega | (refine ⟨?_, ?_⟩ <;> omega) | (simp only [Room, List.length_set, List.length_append, List.length_cons, List.length_nil, List.length_replicate]; omega) | decide | skip)
      | (refine WLA.x rfl rfl ?_ (fun x => ?_); first | exact trivial | exact rfl | assumption | omega | (refine ⟨?_, ?_⟩ <;> omega) | (simp only [Room, List.length_set, List.length_append, List.length_cons, List.length_nil, List.length_replicate]; omega) | decide | skip)
      | (refine WLA.x0 rfl ?_ (fun x => ?_); first | exact trivial | exact rfl | assumption | omega | (refine ⟨?_, ?_⟩ <;> omega) | (simp only [Room, List.length_set, List.length_append, List.length_cons, List.length_nil, List.length_replicate]; omega) | decide | skip)
      | (guard_target =~ WPA _ _ _ (.cond _ _ _) _ _ _; first | (refine WPA.ifT ?_) | (refine WPA.ifF ?_) | (refine WPA.ifYes ?_ ?_; (first | assumption | omega | (refine fun h => h ?_; assumption) | (simp only [List.length_append, List.length_cons, List.length_nil, List.length_set] <;> omega))) | (refine WPA.ifNo ?_ ?_; (first | assumption | omega | (refine fun h => h ?_; assumption) | (simp only [List.length_append, List.length_cons, List.length_nil, List.length_set] <;> omega))) | (refine WPA.ifBt ?_ ?_; assumption) | (refine WPA.ifBf ?_ ?_; assumption) | (refine WPA.ifBnt ?_ ?_; assumption) | (refine WPA.ifBnf ?_ ?_; assumption) | (refine WPA.ifs ?_ ?_ <;> intro hc) | (refine WPA.ifB ?_ ?_ <;> intro hc))
      | (guard_target =~ WPA _ _ _ (.region 5 _ true) _ _ _; refine WPA.drawT 5 (.q 0 (.q 1 (.q 2 (.e 3 (.e 4 .fin))))) mixed ?_ ?_; kernel_rfl)
      | (refine WDA.finish (tl := [⟨_, _, _, _, _, _⟩, ⟨_, _, _, _, _, _⟩]) rfl ?_)
      | (refine WDQ.see rfl ?_)
      | (refine WDQ.m rfl rfl ?_ ?_; first | exact trivial | exact rfl | assumption | omega | (refine ⟨?_, ?_⟩ <;> omega) | (simp only [Room, List.length_set, List.length_append, List.length_cons, List.length_nil, List.length_replicate]; omega) | decide | skip)
      | (refine WDE.see rfl ?_)
      | (refine WDE.alloc rfl rfl (fun w h => h) (fun x => ?_))
      | (refine WDE.stE rfl ?_)
      | (refine WDE.x rfl rfl ?_ ?_ (fun x => ?_); rotate_left 1; (intro x w h; first | exact h | exact Ent.drop1.sl h | exact SL.unI h | exact SL.to h); rotate_left 1; first | exact trivial | exact rfl | assumption | omega | (refine ⟨?_, ?_⟩ <;> omega) | (simp only [Room, List.length_set, List.length_append, List.length_cons, List.length_nil, List.length_replicate]; omega) | decide | skip)
      | (guard_target =~ WDE _ _ _ _ _ _ _ ⟨_, .call ⟨.value (.func 141), _, _⟩, _, _, _, _⟩ _ _ _; refine WDE.call rfl rfl (Grams_trS hgl) ?_ ?_; (intro x w h; first | exact h | exact Ent.drop1.sl h | exact SL.unI h | exact SL.to h); rintro ⟨⟨bn, bo, R⟩, hG⟩; dsimp only at hG ⊢)
      | (guard_target =~ WDW _ _ _ _ _ _ _ ⟨_, .call ⟨.value (.func 141), _, _⟩, _, _, _, _⟩ _ _ _; refine WDW.call rfl rfl (Grams_trS hgl) ?_; rintro ⟨⟨bn, bo, R⟩, hG⟩; dsimp only at hG ⊢))
    refine QQ.loopS ⟨j + 1, x, fs ++ [anyF (.func 178) #[] #[.pointer (some ⟨bn, 0, none⟩), .pointer (some ⟨bo, 0, none⟩)]], R ++ J⟩ ⟨rfl, rfl, rfl, rfl, rfl, rfl, trivial⟩ ⟨⟨hlt, by simp; omega⟩, fun k hk => ?_⟩ (by dsimp only; omega) (fun w h => by dsimp only; rw [List.append_assoc]; exact h.to)
    dsimp only at hk ⊢
    rw [at_nat _ k hk, List.getElem_append]
    by_cases e : k < fs.length
    · rw [dif_pos e, ← at_nat fs k e]; exact (hf k e).sub
    · rw [dif_neg e]
      have e2 : k = j := by rw [List.length_append, List.length_singleton] at hk; omega
      subst e2
      simp only [List.getElem_singleton]
      exact hG.sub
  · have hlt' : ¬ (j : Int) < hs.length := by omega
    repeat' ((fail_if_success (guard_target =~ WPA _ _ _ (.region 7 _ _) _ _ _)); first
      | (refine WLA.m rfl rfl ?_ ?_; first | exact trivial | exact rfl | assumption | omega | (refine ⟨?_, ?_⟩ <;> omega) | (simp only [Room, List.length_set, List.length_append, List.length_cons, List.length_nil, List.length_replicate]; omega) | decide | skip)
      | (refine WLA.nil ?_)
      | (refine WPA.region ?_)
      | (refine WPA.seq ?_)
      | (refine QQ.seq_normal ?_)
      | (refine WPA.skip ?_)
      | (refine WPA.block ?_)
      | (refine WPA.ret ?_)
      | (refine WPA.exit ?_)
      | (refine QQ.seq_ret ?_)
      | (refine QQ.seq_exit ?_)
      | (refine QQ.block_normal ?_)
      | (refine QQ.block_ret ?_)
      | (refine QQ.block_hit ?_)
      | (refine QQ.block_miss rfl ?_)
      | (refine QQ.loop_ret ?_)
      | (refine QQ.loop_exit ?_)
      | (refine WLA.st rfl ?_ ?_; first | exact trivial | exact rfl | assumption | omega | (refine ⟨?_, ?_⟩ <;> omega) | (simp only [Room, List.length_set, List.length_append, List.length_cons, List.length_nil, List.length_replicate]; omega) | decide | skip)
      | (refine WLA.x rfl rfl ?_ (fun x => ?_); first | exact trivial | exact rfl | assumption | omega | (refine ⟨?_, ?_⟩ <;> omega) | (simp only [Room, List.length_set, List.length_append, List.length_cons, List.length_nil, List.length_replicate]; omega) | decide | skip)
      | (refine WLA.x0 rfl ?_ (fun x => ?_); first | exact trivial | exact rfl | assumption | omega | (refine ⟨?_, ?_⟩ <;> omega) | (simp only [Room, List.length_set, List.length_append, List.length_cons, List.length_nil, List.length_replicate]; omega) | decide | skip)
      | (guard_target =~ WPA _ _ _ (.cond _ _ _) _ _ _; first | (refine WPA.ifT ?_) | (refine WPA.ifF ?_) | (refine WPA.ifYes ?_ ?_; (first | assumption | omega | (refine fun h => h ?_; assumption) | (simp only [List.length_append, List.length_cons, List.length_nil, List.length_set] <;> omega))) | (refine WPA.ifNo ?_ ?_; (first | assumption | omega | (refine fun h => h ?_; assumption) | (simp only [List.length_append, List.length_cons, List.length_nil, List.length_set] <;> omega))) | (refine WPA.ifBt ?_ ?_; assumption) | (refine WPA.ifBf ?_ ?_; assumption) | (refine WPA.ifBnt ?_ ?_; assumption) | (refine WPA.ifBnf ?_ ?_; assumption) | (refine WPA.ifs ?_ ?_ <;> intro hc) | (refine WPA.ifB ?_ ?_ <;> intro hc))
      | (guard_target =~ WPA _ _ _ (.region 5 _ true) _ _ _; refine WPA.drawT 5 (.p 0 (.p 1 (.p 2 (.w 3 (.e 4 .fin))))) mixed ?_ ?_; kernel_rfl)
      | (refine WDA.finish (tl := [⟨_, _, _, _, _, _⟩, ⟨_, _, _, _, _, _⟩]) rfl ?_)
      | (refine WDQ.see rfl ?_)
      | (refine WDQ.m rfl rfl ?_ ?_; first | exact trivial | exact rfl | assumption | omega | (refine ⟨?_, ?_⟩ <;> omega) | (simp only [Room, List.length_set, List.length_append, List.length_cons, List.length_nil, List.length_replicate]; omega) | decide | skip)
      | (refine WDP.see rfl ?_)
      | (refine WDP.m rfl rfl ?_ ?_; first | exact trivial | exact rfl | assumption | omega | (refine ⟨?_, ?_⟩ <;> omega) | (simp only [Room, List.length_set, List.length_append, List.length_cons, List.length_nil, List.length_replicate]; omega) | decide | skip)
      | (refine WDP.no rfl rfl ?_)
      | (refine WDW.see rfl ?_)
      | (refine WDW.x rfl rfl ?_ (fun x => ?_); first | exact trivial | exact rfl | assumption | omega | (refine ⟨?_, ?_⟩ <;> omega) | (simp only [Room, List.length_set, List.length_append, List.length_cons, List.length_nil, List.length_replicate]; omega) | decide | skip)
      | (refine WDW.st rfl ?_ ?_; first | exact trivial | exact rfl | assumption | omega | (refine ⟨?_, ?_⟩ <;> omega) | (simp only [Room, List.length_set, List.length_append, List.length_cons, List.length_nil, List.length_replicate]; omega) | decide | skip)
      | (refine WDE.see rfl ?_)
      | (refine WDE.alloc rfl rfl (fun w h => h) (fun x => ?_))
      | (refine WDE.stE rfl ?_)
      | (refine WDE.x rfl rfl ?_ ?_ (fun x => ?_); rotate_left 1; (intro x w h; first | exact h | exact Ent.drop1.sl h | exact SL.unI h | exact SL.to h); rotate_left 1; first | exact trivial | exact rfl | assumption | omega | (refine ⟨?_, ?_⟩ <;> omega) | (simp only [Room, List.length_set, List.length_append, List.length_cons, List.length_nil, List.length_replicate]; omega) | decide | skip))
    refine WPA.freeze fun R1 h1 => ?_
    refine WPA.freeze fun R2 h2 => ?_
    repeat' (first
      | (refine WLA.m rfl rfl ?_ ?_; first | exact trivial | exact rfl | assumption | omega | (refine ⟨?_, ?_⟩ <;> omega) | (simp only [Room, List.length_set, List.length_append, List.length_cons, List.length_nil, List.length_replicate]; omega) | decide | skip)
      | (refine WLA.nil ?_)
      | (refine WPA.region ?_)
      | (refine WPA.seq ?_)
      | (refine QQ.seq_normal ?_)
      | (refine WPA.skip ?_)
      | (refine WPA.block ?_)
      | (refine WPA.ret ?_)
      | (refine WPA.exit ?_)
      | (refine QQ.seq_ret ?_)
      | (refine QQ.seq_exit ?_)
      | (refine QQ.block_normal ?_)
      | (refine QQ.block_ret ?_)
      | (refine QQ.block_hit ?_)
      | (refine QQ.block_miss rfl ?_)
      | (refine QQ.loop_ret ?_)
      | (refine QQ.loop_exit ?_)
      | (refine WLA.st rfl ?_ ?_; first | exact trivial | exact rfl | assumption | omega | (refine ⟨?_, ?_⟩ <;> omega) | (simp only [Room, List.length_set, List.length_append, List.length_cons, List.length_nil, List.length_replicate]; omega) | decide | skip)
      | (refine WLA.x rfl rfl ?_ (fun x => ?_); first | exact trivial | exact rfl | assumption | omega | (refine ⟨?_, ?_⟩ <;> omega) | (simp only [Room, List.length_set, List.length_append, List.length_cons, List.length_nil, List.length_replicate]; omega) | decide | skip)
      | (refine WLA.x0 rfl ?_ (fun x => ?_); first | exact trivial | exact rfl | assumption | omega | (refine ⟨?_, ?_⟩ <;> omega) | (simp only [Room, List.length_set, List.length_append, List.length_cons, List.length_nil, List.length_replicate]; omega) | decide | skip)
      | (guard_target =~ WPA _ _ _ (.cond _ _ _) _ _ _; first | (refine WPA.ifT ?_) | (refine WPA.ifF ?_) | (refine WPA.ifYes ?_ ?_; (first | assumption | omega | (refine fun h => h ?_; assumption) | (simp only [List.length_append, List.length_cons, List.length_nil, List.length_set] <;> omega))) | (refine WPA.ifNo ?_ ?_; (first | assumption | omega | (refine fun h => h ?_; assumption) | (simp only [List.length_append, List.length_cons, List.length_nil, List.length_set] <;> omega))) | (refine WPA.ifBt ?_ ?_; assumption) | (refine WPA.ifBf ?_ ?_; assumption) | (refine WPA.ifBnt ?_ ?_; assumption) | (refine WPA.ifBnf ?_ ?_; assumption) | (refine WPA.ifs ?_ ?_ <;> intro hc) | (refine WPA.ifB ?_ ?_ <;> intro hc)))
    refine QQ.end_ rfl ⟨(t5, R2 ++ (R1 ++ J)), r, fs, ?_, ?_, ?_, fun k hk => (hf k hk).sub⟩ rfl fun w h => by simpa only [List.append_assoc] using h
    · have : InI (R1 ++ J) t5 153 [.slice r.a r.n r.cap] := by rw [h1.froz]; infer_instance
      exact InI.sub this
    · have := SlI.ofOwn h2
      exact SlI.left
    · have := hg.1; omega
/-- .. gone over. -/
def MarksH (_ : Unit) : List Nat → HP
  | [] => fun R => R = []
  | D :: ds => star (Ob D (.deferred (some []))) (MarksH () ds)
theorem MarksH.out : ∀ {ds : List Nat} {L : List HP}, Ent (MarksH () ds :: L) (ds.map (fun D => Ob D (.deferred (some []))) ++ L)
  | [], L => Ent.drop1
  | D :: ds, L => Ent.unstar.trans (Ent.cons MarksH.out)
theorem MarksH.cons {D : Nat} {ds : List Nat} {L : List HP} : Ent (Ob D (.deferred (some [])) :: MarksH () ds :: L) (MarksH () (D :: ds) :: L) := Ent.star Ent.refl
theorem MarksH.nil {L : List HP} : Ent L (MarksH () [] :: L) := Ent.intro1 rfl
section
variable {ro : Option Nat} {P : Program} {n : Nat} {Q : Hnd} {ρ : Env} {A : World → Prop}
theorem WPA.loopD {σ : Type} {c : Code} (mks : σ → List Nat) (slots : σ → List (Nat × Value)) (C : σ → Prop) (B : σ → World → Prop) (m : σ → Nat) (x : σ) (hs : Has ρ (slots x)) (hC : C x) (hB : ∀ w, A w → B x w)
    (round : ∀ x ρ, C x → WPA ro P n c (loopQ (fun x ρ => Has ρ (slots x) ∧ C x ∧ ρ.ms = mks x) B m x Q) (envM (mks x) (envL (slots x) ρ)) (B x)) (hmk : ρ.ms = mks x) : WPA ro P n (.loop c) Q ρ A :=
  WPA.loop (fun x ρ => Has ρ (slots x) ∧ C x ∧ ρ.ms = mks x) B m x ⟨hs, hC, hmk⟩ hB fun x ρ ⟨hs, hC, hmk⟩ => by
    have := round x ρ hC
    rw [envL_has hs] at this
    rw [← hmk] at this
    exact this
theorem QQ.loopD {σ : Type} {mks : σ → List Nat} {slots : σ → List (Nat × Value)} {C : σ → Prop} {B : σ → World → Prop} {m : σ → Nat} {x : σ} (x' : σ) (hs : Has ρ (slots x')) (hC : C x') (hm : m x' < m x) (hB : ∀ w, A w → B x' w) (hmk : ρ.ms = mks x') :
    QQ (loopQ (fun x ρ => Has ρ (slots x) ∧ C x ∧ ρ.ms = mks x) B m x Q) .normal ρ A := QQ.loop_normal x' hm ⟨hs, hC, hmk⟩ hB
end
end
end Go.Proofs.Ytlodbajaoadhdaa
