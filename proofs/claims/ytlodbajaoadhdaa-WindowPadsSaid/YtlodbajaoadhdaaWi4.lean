/- How often an n-gram is there; the numbers ahead of a place; the reference. Conditions: none. -/
import Derived.Test.YtlodbajaoadhdaaWi3
import Derived.Test.YtlodbajaoadhdaaMg2
namespace Go.Proofs.Ytlodbajaoadhdaa
open Go Go.Fw Go.RowKit
set_option linter.unusedVariables false
set_option linter.unusedSimpArgs false
set_option maxRecDepth 100000
set_option maxHeartbeats 16000000
set_option synthInstance.maxHeartbeats 200000
set_option synthInstance.maxSize 100000
attribute [local irreducible] WPA WLA WDA WDQ WDE QQ seqQ blockQ loopQ fnQ OpP OpT Tr TrP SL SLd OwnS LitS Bk BkE Ob
attribute [local irreducible] Fr MarksH
/-- How many of the first i lists are g. -/
def cntN (gs : List (List Int)) (g : List Int) (i : Nat) : Nat := (gs.take i).countP (fun x => decide (x = g))
theorem cntN_succ {gs : List (List Int)} {g : List Int} {i : Nat} (h : i < gs.length) : cntN gs g (i + 1) = cntN gs g i + (if gs.getD i [] = g then 1 else 0) := by
  unfold cntN
  rw [List.take_add_one, List.getElem?_eq_getElem h, List.countP_append, List.getD_eq_getElem?_getD, List.getElem?_eq_getElem h]
  by_cases e : gs[i] = g <;> simp [e]
theorem cntN_le (gs : List (List Int)) (g : List Int) (i : Nat) : cntN gs g i ≤ i := Nat.le_trans (List.countP_le_length) (by rw [List.length_take]; omega)
theorem eachL_le {n : Int} {m : Nat} : ∀ {gs : List (List Int)}, (∀ g ∈ gs, g.length ≤ m) → (eachL gs n).length ≤ gs.length * m
  | [], _ => by simp [eachL]
  | g :: gs, h => by
    have h1 := h g (List.mem_cons_self ..)
    have h2 := eachL_le (n := n) (gs := gs) fun x hx => h x (List.mem_cons_of_mem _ hx)
    have h3 := gramN_le g n
    unfold eachL at h2 ⊢
    rw [List.flatMap_cons, List.length_append, gramsL_len, List.length_cons, Nat.add_mul]; omega
theorem eachL_sz {n : Int} {m : Nat} {gs : List (List Int)} (h : ∀ g ∈ gs, g.length ≤ m) : ∀ x ∈ eachL gs n, x.length ≤ m := by
  intro x hx
  obtain ⟨g, hg, hx⟩ := List.mem_flatMap.1 hx
  obtain ⟨i, hi, rfl⟩ := List.mem_map.1 hx
  have := h g hg
  unfold gramA cutL
  split
  · rw [List.length_take, List.length_drop]; omega
  · simp
structure EC where
  i : Nat
  c : Int
section
variable {L L' : List HP} {w0 : World} {I : Foot}
theorem Count_tr {s q : SV} {hs : List SV} {gs : List (List Int)} {g : List Int} [hr : RdS I L s SV inferInstance hs] [hq : SlI I q Int inferInstance g] (hg : GsI I hs gs) (hn : hs.length ≤ 1000) (hl : ∀ g ∈ gs, g.length ≤ 1000) (hgl : g.length ≤ 1000000) :
    Tr Try.prog 75 #[.slice s.a s.n s.cap, .slice q.a q.n q.cap] (SL w0 I L) (fun _ : Unit => .int .i64 (cntN (eachL gs g.length) g (eachL gs g.length).length)) (fun _ => SL w0 I L) := by
  refine Tr.intro Try.func75 rfl Try.ntmps75 rfl ?_
  have hl2 : ∀ g ∈ gs, g.length ≤ 1000000 := fun x hx => by have := hl x hx; omega
  have htl := eachL_le (n := (g.length : Int)) hl
  have htl2 : (eachL gs g.length).length ≤ 1000000 := by have := hg.1; omega
  have hsz := eachL_sz (n := (g.length : Int)) hl
  repeat' (first
    | (refine WLA.m rfl rfl ?_ ?_; first | exact trivial | exact rfl | assumption | omega | (refine ⟨?_, ?_⟩ <;> omega) | (simp only [Room, List.length_set, List.length_append, List.length_cons, List.length_nil, List.length_replicate]; omega) | decide | skip)
    | (refine WLA.nil ?_)
    | (refine WPA.region ?_)
    | (refine WPA.seq ?_)
    | (refine QQ.seq_normal ?_)
    | (refine WPA.skip ?_)
    | (refine WPA.block ?_)
    | (refine WPA.ret ?_)
    | (refine WPA.exit ?_)
    | (refine QQ.seq_ret ?_)
    | (refine QQ.seq_exit ?_)
    | (refine QQ.block_normal ?_)
    | (refine QQ.block_ret ?_)
    | (refine QQ.block_hit ?_)
    | (refine QQ.block_miss rfl ?_)
    | (refine QQ.loop_ret ?_)
    | (refine QQ.loop_exit ?_)
    | (guard_target =~ WLA _ _ _ _ _ (⟨_, .call ⟨.value (.func 114), _, _⟩, _, _, _, _⟩ :: _) _ _; first | (refine WLA.call rfl rfl (Each_tr hg hn hl2) ?_; rintro ⟨⟨b, R⟩, hE⟩; dsimp only at hE ⊢) | (refine WLA.call0 rfl (Each_tr hg hn hl2) ?_; rintro ⟨⟨b, R⟩, hE⟩; dsimp only at hE ⊢))
    | (refine WLA.st rfl ?_ ?_; first | exact trivial | exact rfl | assumption | omega | (refine ⟨?_, ?_⟩ <;> omega) | (simp only [Room, List.length_set, List.length_append, List.length_cons, List.length_nil, List.length_replicate]; omega) | decide | skip)
    | (refine WLA.x rfl rfl ?_ (fun x => ?_); first | exact trivial | exact rfl | assumption | omega | (refine ⟨?_, ?_⟩ <;> omega) | (simp only [Room, List.length_set, List.length_append, List.length_cons, List.length_nil, List.length_replicate]; omega) | decide | skip)
    | (refine WLA.x0 rfl ?_ (fun x => ?_); first | exact trivial | exact rfl | assumption | omega | (refine ⟨?_, ?_⟩ <;> omega) | (simp only [Room, List.length_set, List.length_append, List.length_cons, List.length_nil, List.length_replicate]; omega) | decide | skip)
    | (guard_target =~ WPA _ _ _ (.cond _ _ _) _ _ _; first | (refine WPA.ifT ?_) | (refine WPA.ifF ?_) | (refine WPA.ifYes ?_ ?_; (first | assumption | omega | (refine fun h => h ?_; assumption) | (simp only [List.length_append, List.length_cons, List.length_nil, List.length_set] <;> omega))) | (refine WPA.ifNo ?_ ?_; (first | assumption | omega | (refine fun h => h ?_; assumption) | (simp only [List.length_append, List.length_cons, List.length_nil, List.length_set] <;> omega))) | (refine WPA.ifBt ?_ ?_; assumption) | (refine WPA.ifBf ?_ ?_; assumption) | (refine WPA.ifBnt ?_ ?_; assumption) | (refine WPA.ifBnf ?_ ?_; assumption) | (refine WPA.ifs ?_ ?_ <;> intro hc) | (refine WPA.ifB ?_ ?_ <;> intro hc)))
  rename_i t3
  revert x; intro t5
  have hE2 : EaI (R ++ I) b gs g.length := by
    obtain ⟨own, fs, h1, h2, h3, h4⟩ := hE
    exact ⟨own, fs, InI.sub h1, h2.sub, h3, fun k hk => (h4 k hk).sub⟩
  refine WPA.rangeS fun D rc hrc => ?_
  refine ⟨{ x : EC // x.c = cntN (eachL gs g.length) g (eachL gs g.length).length }, fun _ => .tuple #[], fun _ => .ready, fun _ => none, fun x => Ob D (.deferred (some [])) :: Bk t5 3 [.int .i64 x.1.c] :: L, ?_, ?_⟩
  · refine (Each1_tr (w0 := w0) (I := R ++ I) (ω := Empty) (fun x : EC => Ob (D + 1) (rc .ready none) :: Ob D (.deferred (some [])) :: Bk t3 30 [.slice q.a q.n q.cap] :: Bk t5 3 [.int .i64 x.c] :: L) EC.i (fun x => x.i ≤ (eachL gs g.length).length ∧ x.c = cntN (eachL gs g.length) g x.i) (fun z => z.elim) hE2 hl2 (by omega) (by have := hg.1; omega) ?_ ⟨0, 0⟩ ⟨Nat.zero_le _, rfl⟩ rfl).conv (fun w h => h.to) ?_
    · rintro p y ⟨i, c⟩ ⟨h1, h2⟩ hlt
      dsimp only at h1 h2 hlt ⊢
      have hcs := cntN_succ (g := g) hlt
      have hcl := cntN_le (eachL gs g.length) g i
      have hxl : ((eachL gs g.length).getD i []).length ≤ 1000000000 := by
        rw [List.getD_eq_getElem?_getD, List.getElem?_eq_getElem hlt]; have := hsz _ (List.getElem_mem hlt); simp only [Option.getD_some]; omega
      generalize (eachL gs g.length).getD i [] = xg at hcs hxl
      refine (YTr.ofS (val := fun y : EC ⊕ Empty => y.isLeft) hrc (agreeP rfl) rfl ?_)
      repeat' (first
        | (refine WLA.m rfl rfl ?_ ?_; first | exact trivial | exact rfl | assumption | omega | (refine ⟨?_, ?_⟩ <;> omega) | (simp only [Room, List.length_set, List.length_append, List.length_cons, List.length_nil, List.length_replicate]; omega) | decide | skip)
        | (refine WLA.nil ?_)
        | (refine WPA.region ?_)
        | (refine WPA.seq ?_)
        | (refine QQ.seq_normal ?_)
        | (refine WPA.skip ?_)
        | (refine WPA.block ?_)
        | (refine WPA.ret ?_)
        | (refine WPA.exit ?_)
        | (refine QQ.seq_ret ?_)
        | (refine QQ.seq_exit ?_)
        | (refine QQ.block_normal ?_)
        | (refine QQ.block_ret ?_)
        | (refine QQ.block_hit ?_)
        | (refine QQ.block_miss rfl ?_)
        | (refine QQ.loop_ret ?_)
        | (refine QQ.loop_exit ?_)
        | (refine WLA.st rfl ?_ ?_; first | exact trivial | exact rfl | assumption | omega | (refine ⟨?_, ?_⟩ <;> omega) | (simp only [Room, List.length_set, List.length_append, List.length_cons, List.length_nil, List.length_replicate]; omega) | decide | skip)
        | (refine WLA.x rfl rfl ?_ (fun x => ?_); first | exact trivial | exact rfl | assumption | omega | (refine ⟨?_, ?_⟩ <;> omega) | (simp only [Room, List.length_set, List.length_append, List.length_cons, List.length_nil, List.length_replicate]; omega) | decide | skip)
        | (refine WLA.x0 rfl ?_ (fun x => ?_); first | exact trivial | exact rfl | assumption | omega | (refine ⟨?_, ?_⟩ <;> omega) | (simp only [Room, List.length_set, List.length_append, List.length_cons, List.length_nil, List.length_replicate]; omega) | decide | skip)
        | (guard_target =~ WPA _ _ _ (.cond _ _ _) _ _ _; first | (refine WPA.ifT ?_) | (refine WPA.ifF ?_) | (refine WPA.ifYes ?_ ?_; (first | assumption | omega | (refine fun h => h ?_; assumption) | (simp only [List.length_append, List.length_cons, List.length_nil, List.length_set] <;> omega))) | (refine WPA.ifNo ?_ ?_; (first | assumption | omega | (refine fun h => h ?_; assumption) | (simp only [List.length_append, List.length_cons, List.length_nil, List.length_set] <;> omega))) | (refine WPA.ifBt ?_ ?_; assumption) | (refine WPA.ifBf ?_ ?_; assumption) | (refine WPA.ifBnt ?_ ?_; assumption) | (refine WPA.ifBnf ?_ ?_; assumption) | (refine WPA.ifs ?_ ?_ <;> intro hc) | (refine WPA.ifB ?_ ?_ <;> intro hc)))
      refine QQ.midS ?_
      by_cases he : xg = g
      · rw [if_pos he] at hcs
        repeat' (first
          | (refine WLA.m rfl rfl ?_ ?_; first | exact trivial | exact rfl | assumption | omega | (refine ⟨?_, ?_⟩ <;> omega) | (simp only [Room, List.length_set, List.length_append, List.length_cons, List.length_nil, List.length_replicate]; omega) | decide | skip)
          | (refine WLA.nil ?_)
          | (refine WPA.region ?_)
          | (refine WPA.seq ?_)
          | (refine QQ.seq_normal ?_)
          | (refine WPA.skip ?_)
          | (refine WPA.block ?_)
          | (refine WPA.ret ?_)
          | (refine WPA.exit ?_)
          | (refine QQ.seq_ret ?_)
          | (refine QQ.seq_exit ?_)
          | (refine QQ.block_normal ?_)
          | (refine QQ.block_ret ?_)
          | (refine QQ.block_hit ?_)
          | (refine QQ.block_miss rfl ?_)
          | (refine QQ.loop_ret ?_)
          | (refine QQ.loop_exit ?_)
          | (guard_target =~ WLA _ _ _ _ _ (⟨_, .call ⟨.value (.func 100), _, _⟩, _, _, _, _⟩ :: _) _ _; refine WLA.cq rfl rfl (Equal_tr hxl) ?_)
          | (refine WLA.st rfl ?_ ?_; first | exact trivial | exact rfl | assumption | omega | (refine ⟨?_, ?_⟩ <;> omega) | (simp only [Room, List.length_set, List.length_append, List.length_cons, List.length_nil, List.length_replicate]; omega) | decide | skip)
          | (refine WLA.x rfl rfl ?_ (fun x => ?_); first | exact trivial | exact rfl | assumption | omega | (refine ⟨?_, ?_⟩ <;> omega) | (simp only [Room, List.length_set, List.length_append, List.length_cons, List.length_nil, List.length_replicate]; omega) | decide | skip)
          | (refine WLA.x0 rfl ?_ (fun x => ?_); first | exact trivial | exact rfl | assumption | omega | (refine ⟨?_, ?_⟩ <;> omega) | (simp only [Room, List.length_set, List.length_append, List.length_cons, List.length_nil, List.length_replicate]; omega) | decide | skip)
          | (guard_target =~ WPA _ _ _ (.cond _ _ _) _ _ _; first | (refine WPA.ifT ?_) | (refine WPA.ifF ?_) | (refine WPA.ifYes ?_ ?_; (first | assumption | omega | (refine fun h => h ?_; assumption) | (simp only [List.length_append, List.length_cons, List.length_nil, List.length_set] <;> omega))) | (refine WPA.ifNo ?_ ?_; (first | assumption | omega | (refine fun h => h ?_; assumption) | (simp only [List.length_append, List.length_cons, List.length_nil, List.length_set] <;> omega))) | (refine WPA.ifBt ?_ ?_; assumption) | (refine WPA.ifBf ?_ ?_; assumption) | (refine WPA.ifBnt ?_ ?_; assumption) | (refine WPA.ifBnf ?_ ?_; assumption) | (refine WPA.ifs ?_ ?_ <;> intro hc) | (refine WPA.ifB ?_ ?_ <;> intro hc)))
        exact QQ.rndN (fun w h => ⟨.inl ⟨i + 1, c + 1⟩, rfl, ⟨⟨hlt, by dsimp only; omega⟩, rfl⟩, h.to⟩)
      · rw [if_neg he] at hcs
        repeat' (first
          | (refine WLA.m rfl rfl ?_ ?_; first | exact trivial | exact rfl | assumption | omega | (refine ⟨?_, ?_⟩ <;> omega) | (simp only [Room, List.length_set, List.length_append, List.length_cons, List.length_nil, List.length_replicate]; omega) | decide | skip)
          | (refine WLA.nil ?_)
          | (refine WPA.region ?_)
          | (refine WPA.seq ?_)
          | (refine QQ.seq_normal ?_)
          | (refine WPA.skip ?_)
          | (refine WPA.block ?_)
          | (refine WPA.ret ?_)
          | (refine WPA.exit ?_)
          | (refine QQ.seq_ret ?_)
          | (refine QQ.seq_exit ?_)
          | (refine QQ.block_normal ?_)
          | (refine QQ.block_ret ?_)
          | (refine QQ.block_hit ?_)
          | (refine QQ.block_miss rfl ?_)
          | (refine QQ.loop_ret ?_)
          | (refine QQ.loop_exit ?_)
          | (guard_target =~ WLA _ _ _ _ _ (⟨_, .call ⟨.value (.func 100), _, _⟩, _, _, _, _⟩ :: _) _ _; refine WLA.cq rfl rfl (Equal_tr hxl) ?_)
          | (refine WLA.st rfl ?_ ?_; first | exact trivial | exact rfl | assumption | omega | (refine ⟨?_, ?_⟩ <;> omega) | (simp only [Room, List.length_set, List.length_append, List.length_cons, List.length_nil, List.length_replicate]; omega) | decide | skip)
          | (refine WLA.x rfl rfl ?_ (fun x => ?_); first | exact trivial | exact rfl | assumption | omega | (refine ⟨?_, ?_⟩ <;> omega) | (simp only [Room, List.length_set, List.length_append, List.length_cons, List.length_nil, List.length_replicate]; omega) | decide | skip)
          | (refine WLA.x0 rfl ?_ (fun x => ?_); first | exact trivial | exact rfl | assumption | omega | (refine ⟨?_, ?_⟩ <;> omega) | (simp only [Room, List.length_set, List.length_append, List.length_cons, List.length_nil, List.length_replicate]; omega) | decide | skip)
          | (guard_target =~ WPA _ _ _ (.cond _ _ _) _ _ _; first | (refine WPA.ifT ?_) | (refine WPA.ifF ?_) | (refine WPA.ifYes ?_ ?_; (first | assumption | omega | (refine fun h => h ?_; assumption) | (simp only [List.length_append, List.length_cons, List.length_nil, List.length_set] <;> omega))) | (refine WPA.ifNo ?_ ?_; (first | assumption | omega | (refine fun h => h ?_; assumption) | (simp only [List.length_append, List.length_cons, List.length_nil, List.length_set] <;> omega))) | (refine WPA.ifBt ?_ ?_; assumption) | (refine WPA.ifBf ?_ ?_; assumption) | (refine WPA.ifBnt ?_ ?_; assumption) | (refine WPA.ifBnf ?_ ?_; assumption) | (refine WPA.ifs ?_ ?_ <;> intro hc) | (refine WPA.ifB ?_ ?_ <;> intro hc)))
        exact QQ.rndN (fun w h => ⟨.inl ⟨i + 1, c⟩, rfl, ⟨⟨hlt, by dsimp only; omega⟩, rfl⟩, h.to⟩)
    · rintro (⟨i, c⟩ | z) w hb
      · have e1 : c = cntN (eachL gs g.length) g i := hb.1.1.2
        have e2 : i = (eachL gs g.length).length := hb.1.2
        refine ⟨⟨⟨i, c⟩, by rw [← e2]; exact e1⟩, rfl, ?_⟩
        have h := hb.2
        dsimp only at h ⊢
        exact h.to
      · exact z.elim
  · rintro ⟨⟨i, c⟩, hc⟩
    refine ⟨by simp, ?_⟩
    show QQ _ _ _ _
    dsimp only at hc ⊢
    rw [← hc]
    repeat' (first
      | (refine WLA.m rfl rfl ?_ ?_; first | exact trivial | exact rfl | assumption | omega | (refine ⟨?_, ?_⟩ <;> omega) | (simp only [Room, List.length_set, List.length_append, List.length_cons, List.length_nil, List.length_replicate]; omega) | decide | skip)
      | (refine WLA.nil ?_)
      | (refine WPA.region ?_)
      | (refine WPA.seq ?_)
      | (refine QQ.seq_normal ?_)
      | (refine WPA.skip ?_)
      | (refine WPA.block ?_)
      | (refine WPA.ret ?_)
      | (refine WPA.exit ?_)
      | (refine QQ.seq_ret ?_)
      | (refine QQ.seq_exit ?_)
      | (refine QQ.block_normal ?_)
      | (refine QQ.block_ret ?_)
      | (refine QQ.block_hit ?_)
      | (refine QQ.block_miss rfl ?_)
      | (refine QQ.loop_ret ?_)
      | (refine QQ.loop_exit ?_)
      | (refine WLA.st rfl ?_ ?_; first | exact trivial | exact rfl | assumption | omega | (refine ⟨?_, ?_⟩ <;> omega) | (simp only [Room, List.length_set, List.length_append, List.length_cons, List.length_nil, List.length_replicate]; omega) | decide | skip)
      | (refine WLA.x rfl rfl ?_ (fun x => ?_); first | exact trivial | exact rfl | assumption | omega | (refine ⟨?_, ?_⟩ <;> omega) | (simp only [Room, List.length_set, List.length_append, List.length_cons, List.length_nil, List.length_replicate]; omega) | decide | skip)
      | (refine WLA.x0 rfl ?_ (fun x => ?_); first | exact trivial | exact rfl | assumption | omega | (refine ⟨?_, ?_⟩ <;> omega) | (simp only [Room, List.length_set, List.length_append, List.length_cons, List.length_nil, List.length_replicate]; omega) | decide | skip)
      | (guard_target =~ WPA _ _ _ (.cond _ _ _) _ _ _; first | (refine WPA.ifT ?_) | (refine WPA.ifF ?_) | (refine WPA.ifYes ?_ ?_; (first | assumption | omega | (refine fun h => h ?_; assumption) | (simp only [List.length_append, List.length_cons, List.length_nil, List.length_set] <;> omega))) | (refine WPA.ifNo ?_ ?_; (first | assumption | omega | (refine fun h => h ?_; assumption) | (simp only [List.length_append, List.length_cons, List.length_nil, List.length_set] <;> omega))) | (refine WPA.ifBt ?_ ?_; assumption) | (refine WPA.ifBf ?_ ?_; assumption) | (refine WPA.ifBnt ?_ ?_; assumption) | (refine WPA.ifBnf ?_ ?_; assumption) | (refine WPA.ifs ?_ ?_ <;> intro hc) | (refine WPA.ifB ?_ ?_ <;> intro hc)))
    exact QQ.fin [D] (L' := L) rfl (EntC.out (L' := Ob D (.deferred (some [])) :: L)) rfl () rfl fun w h => h.unI
end
end Go.Proofs.Ytlodbajaoadhdaa
