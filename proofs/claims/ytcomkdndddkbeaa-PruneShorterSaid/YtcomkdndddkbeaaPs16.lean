/- Texts that PruneShorter_law leans on, part 16. Conditions: none. -/
import Derived.Test.YtcomkdndddkbeaaPs15
namespace Go.Proofs.Ytcomkdndddkbeaa
open Go Go.Fw Go.RowKit
set_option linter.unusedVariables false
set_option linter.unusedSimpArgs false
set_option maxRecDepth 100000
set_option maxHeartbeats 16000000
set_option synthInstance.maxHeartbeats 200000
set_option synthInstance.maxSize 100000
attribute [local irreducible] WPA WLA WDA WDQ WDE QQ seqQ blockQ loopQ fnQ OpP OpT Tr TrP SL SLd OwnS LitS Bk BkE Ob
def GridH (x : SV) (bss : List (List Bool)) : HP := exH fun svs : List SV => pureH (svs.length = bss.length) (star (OwnS 35 x svs) (RowH 4 svs bss))
def GdI (J : Foot) (x : SV) (bss : List (List Bool)) : Prop := ∃ svs : List SV, SlI J x SV inferInstance svs ∧ svs.length = bss.length ∧ ∀ k : Nat, k < bss.length → SlI J (at_ svs (k : Int)) Bool inferInstance (bss.getD k [])
theorem GdI.sub {J J' : Foot} {x : SV} {bss : List (List Bool)} (h : GdI J x bss) (hs : SubI J' J) : GdI J' x bss := by
  obtain ⟨svs, h1, h2, h3⟩ := h
  exact ⟨svs, h1.sub, h2, fun k hk => (h3 k hk).sub⟩
theorem GridH.gd {J R : Foot} {x : SV} {bss : List (List Bool)} (h : GridH x bss R) (hs : SubI J R) : GdI J x bss := by
  obtain ⟨svs, h1, R1, R2, h2, h3, rfl⟩ := h
  have s1 : SubI J R1 := ⟨fun x hx => hs.out (List.mem_append_left _ hx)⟩
  have s2 : SubI J R2 := ⟨fun x hx => hs.out (List.mem_append_right _ hx)⟩
  refine ⟨svs, (SlI.ofOwn h2).sub, h1, fun k hk => ?_⟩
  have h := RowH.frozen h3 k (by omega) hk
  exact h.sub
theorem GridH.fold {x : SV} {svs : List SV} {bss : List (List Bool)} {L : List HP} (h : svs.length = bss.length) : Ent (OwnS 35 x svs :: RowH 4 svs bss :: L) (GridH x bss :: L) := Ent.ex svs (Ent.pure h (Ent.star Ent.refl))
def chR (n : Nat) (K : Nat → Bool) (k : Nat) : List Bool := (List.range n).map fun i : Nat => decide (k = 0) || K i
def chS (re : SV → List En) (gr : List SV) (K : Nat → Nat → Bool) : List (List Bool) := (List.range gr.length).map fun k : Nat => chR (re (at_ gr (k : Int))).length (K k) k
theorem chR_get {n : Nat} {K : Nat → Bool} {k i : Nat} (hi : i < n) : (chR n K k)[i]? = some (decide (k = 0) || K i) := by simp [chR, hi]
theorem chS_get {re : SV → List En} {gr : List SV} {K : Nat → Nat → Bool} {k : Nat} (hk : k < gr.length) : (chS re gr K)[k]? = some (chR (re (at_ gr (k : Int))).length (K k) k) := by simp [chS, hk]
theorem chS_len {re : SV → List En} {gr : List SV} {K : Nat → Nat → Bool} : (chS re gr K).length = gr.length := by simp [chS]
theorem take_set_snoc {α : Type} {l : List α} {k : Nat} (hk : k < l.length) (x : α) : (l.set k x).take (k + 1) = l.take k ++ [x] := by
  rw [List.take_add_one, List.take_set_of_le (Nat.le_refl _), List.getElem?_set_self hk]; rfl
theorem at_set {α : Type} [Enc α] {l : List α} {k : Nat} (hk : k < l.length) (x : α) : at_ (l.set k x) (k : Int) = x := by
  rw [at_nat _ k (by rw [List.length_set]; exact hk), List.getElem_set_self]
section
variable {ro : Option Nat} {P : Program} {N n i : Nat} {ops : Array Oper} {Q : Hnd} {T : World → Prop} {ρ : Env} {A : World → Prop} {r : Plan} {ty : TypeId} {pos : String} {af : Array Edge} {g : Option (Nat × Bool)} {d : Tmp}
theorem WDE.callV {c : Operand} {caps : List Value} {f : FuncId} {args : List Operand} {argTypes : Array TypeId} {vs : List Value} {w0 : World} {I : Foot} {L : List HP} {τ : Type} {val : τ → Value} {B : τ → World → Prop} [hv : EvAll ρ args vs] [hcv : Ev ρ c (.func (.func f) #[] caps.toArray)] [hf : Callb P f] [hA : InSL A w0 I L] (hw : Region.wanted ⟨some d, .call { callee := .value c, args := args.toArray, argTypes := argTypes }, ty, pos, af, g⟩ (yieldedE N ops ρ) = true) (hd : Nat.blt d N = true)
    (hc : Tr P f (vs ++ caps).toArray (SL w0 I L) val B) [hdr : ∀ x, DrC (B x)] [hT : ∀ x, SubT (B x) T] (hm : ∀ x w, B x w → A w) (k : ∀ x, WDA ro P N ops Q T n r (put1 ρ d (val x)) (B x)) : WDE ro P N ops Q T n ⟨some d, .call { callee := .value c, args := args.toArray, argTypes := argTypes }, ty, pos, af, g⟩ r ρ A :=
  WDE.ev hw (OpT.callV hc) hdr (fun x => (hT x).out) hm (fun x => by rw [upd_put1 hd]; exact k x)
end
attribute [local irreducible] RowH
section
variable {L : List HP} {w0 : World} {I : Foot}
theorem choice_tr {fid : FuncId} [hf : Callb Try.prog fid] {caps : List Value} {fr : Int} {wv g : SV} {gr : List SV} {re : SV → List En} {K : Nat → Nat → Bool} (hg : SlI I g SV inferInstance gr) (hR : ∀ h ∈ gr, SlI I h En inferInstance (re h)) (hn : gr.length ≤ 1000000) (hl : ∀ h ∈ gr, (re h).length ≤ 1000000)
    (hK : ∀ (k i : Nat) (L : List HP), 0 < k → k < gr.length → i < (re (at_ gr (k : Int))).length → Tr Try.prog fid (([.int .i64 k, .int .i64 i, .agg #[.slice (at_ (re (at_ gr (k : Int))) (i : Int)).1.a (at_ (re (at_ gr (k : Int))) (i : Int)).1.n (at_ (re (at_ gr (k : Int))) (i : Int)).1.cap, .int .i64 (at_ (re (at_ gr (k : Int))) (i : Int)).2.1, .int .i64 (at_ (re (at_ gr (k : Int))) (i : Int)).2.2]] ++ caps : List Value).toArray) (SL w0 I L) (fun _ : Unit => .bool (K k i)) (fun _ => SL w0 I L)) :
    Tr Try.prog 25 #[.agg #[.int .i64 fr, .slice wv.a wv.n wv.cap, .slice g.a g.n g.cap], .func (.func fid) #[] caps.toArray] (SL w0 I L) (fun x : SV => .slice x.a x.n x.cap) (fun x => SL w0 I (GridH x (chS re gr K) :: L)) := by
  refine Tr.intro Try.func25 rfl Try.ntmps25 rfl ?_
  repeat' (first | ((first | refine WLA.m rfl rfl ?_ ?_ | refine WLA.st rfl ?_ ?_ | refine WLA.x rfl rfl ?_ (fun x => ?_) | refine WLA.x0 rfl ?_ (fun x => ?_)); first | exact trivial | exact rfl | assumption | omega | (refine ⟨?_, ?_⟩ <;> omega) | (simp only [Room, List.length_set, List.length_append, List.length_cons, List.length_nil, List.length_replicate]; omega) | decide | skip) | (refine Stp.go ?_) | (refine WPA.ifT ?_) | (refine WPA.ifF ?_) | ((first | refine WPA.dec ?_); first | refine .inl ⟨by first | assumption | omega | with_reducible rfl | (refine fun h => h ?_; first | assumption | with_reducible rfl) | (simp only [List.length_append, List.length_cons, List.length_nil, List.length_set] <;> omega) | decide, ?_⟩ | refine .inr ⟨by first | assumption | omega | with_reducible rfl | (refine fun h => h ?_; first | assumption | with_reducible rfl) | (simp only [List.length_append, List.length_cons, List.length_nil, List.length_set] <;> omega) | decide, ?_⟩) | ((first | refine WPA.ifBt ?_ ?_ | refine WPA.ifBnf ?_ ?_); assumption) | ((first | refine WPA.ifBnt ?_ ?_ | refine WPA.ifBf ?_ ?_); assumption) | ((first | refine WPA.ifs ?_ ?_ | refine WPA.ifB ?_ ?_) <;> intro hc))
  rename_i t2
  revert x; intro o
  rw [show List.replicate (gr.length : Int).toNat SV.nil = List.replicate gr.length SV.nil from rfl]
  refine WPA.loopS (σ := Nat × List SV) (fun y => [(1, .func (.func fid) #[] caps.toArray), (2, .pointer (some ⟨t2, 0, none⟩)), (5, .slice o.a o.n o.cap), (15, .slice g.a g.n g.cap), (16, .int .i64 gr.length), (17, .int .i64 y.1)]) (fun y => y.1 ≤ gr.length ∧ y.2.length = gr.length)
    (fun y => SL w0 I (OwnS 35 o y.2 :: RowH 4 (y.2.take y.1) ((chS re gr K).take y.1) :: Bk t2 25 [.int .i64 fr, .slice wv.a wv.n wv.cap, .slice g.a g.n g.cap] :: L)) (fun y => gr.length - y.1) (0, List.replicate gr.length SV.nil) ⟨rfl, rfl, rfl, rfl, rfl, rfl, trivial⟩ ⟨Nat.zero_le _, by simp⟩ (fun w h => ?_) ?_
  · have h2 := (RowH.nil (α := Bool) (e := 4)).sl h
    show SL w0 I (OwnS 35 o (List.replicate gr.length SV.nil) :: RowH 4 [] ([] : List (List Bool)) :: Bk t2 25 [.int .i64 fr, .slice wv.a wv.n wv.cap, .slice g.a g.n g.cap] :: L) w
    exact h2.to
  rintro ⟨k, svs⟩ ρ ⟨hk, hs⟩
  dsimp only at hk hs ⊢
  by_cases hkl : k < gr.length
  · have hkl' : (k : Int) < gr.length := by omega
    have hks : (k : Int) < svs.length := by omega
    have hme : at_ gr (k : Int) ∈ gr := by rw [at_nat gr k hkl]; exact List.getElem_mem _
    have hRk := hR _ hme
    have hlk := hl _ hme
    have hKk := fun (i : Nat) (L : List HP) (h0 : 0 < k) => hK k i L h0 hkl
    have hget := chS_get (re := re) (K := K) hkl
    generalize re (at_ gr (k : Int)) = es at hRk hlk hKk hget
    repeat' (first | ((first | refine WLA.m rfl rfl ?_ ?_ | refine WLA.st rfl ?_ ?_ | refine WLA.x rfl rfl ?_ (fun x => ?_) | refine WLA.x0 rfl ?_ (fun x => ?_)); first | exact trivial | exact rfl | assumption | omega | (refine ⟨?_, ?_⟩ <;> omega) | (simp only [Room, List.length_set, List.length_append, List.length_cons, List.length_nil, List.length_replicate]; omega) | decide | skip) | (refine Stp.go ?_) | (refine WPA.ifT ?_) | (refine WPA.ifF ?_) | ((first | refine WPA.dec ?_); first | refine .inl ⟨by first | assumption | omega | with_reducible rfl | (refine fun h => h ?_; first | assumption | with_reducible rfl) | (simp only [List.length_append, List.length_cons, List.length_nil, List.length_set] <;> omega) | decide, ?_⟩ | refine .inr ⟨by first | assumption | omega | with_reducible rfl | (refine fun h => h ?_; first | assumption | with_reducible rfl) | (simp only [List.length_append, List.length_cons, List.length_nil, List.length_set] <;> omega) | decide, ?_⟩) | ((first | refine WPA.ifBt ?_ ?_ | refine WPA.ifBnf ?_ ?_); assumption) | ((first | refine WPA.ifBnt ?_ ?_ | refine WPA.ifBf ?_ ?_); assumption) | ((first | refine WPA.ifs ?_ ?_ | refine WPA.ifB ?_ ?_) <;> intro hc))
    revert x; intro c
    have hat : at_ (svs.set k c) (k : Int) = c := at_set (by omega) c
    have hsl : (svs.set k c).length = gr.length := by rw [List.length_set, hs]
    have htk : (svs.set k c).take (k + 1) = svs.take k ++ [c] := take_set_snoc (by omega) c
    rw [show List.replicate (es.length : Int).toNat false = List.replicate es.length false from rfl, show svs.set (k : Int).toNat c = svs.set k c from rfl]
    generalize svs.set k c = svs' at hat hsl htk
    have hks' : (k : Int) < svs'.length := by omega
    refine WPA.loopS (σ := Nat × List Bool) (fun y => [(1, .func (.func fid) #[] caps.toArray), (2, .pointer (some ⟨t2, 0, none⟩)), (5, .slice o.a o.n o.cap), (15, .slice g.a g.n g.cap), (16, .int .i64 gr.length), (17, .int .i64 k), (6, .int .i64 k), (28, .slice (at_ gr (k : Int)).a (at_ gr (k : Int)).n (at_ gr (k : Int)).cap), (29, .int .i64 es.length), (30, .int .i64 y.1)]) (fun y => (y.1 ≤ es.length ∧ y.2.length = es.length) ∧ y.2.take y.1 = (chR es.length (K k) k).take y.1)
      (fun y => SL w0 I (OwnS 4 c y.2 :: OwnS 35 o svs' :: RowH 4 (svs.take k) ((chS re gr K).take k) :: Bk t2 25 [.int .i64 fr, .slice wv.a wv.n wv.cap, .slice g.a g.n g.cap] :: L)) (fun y => es.length - y.1) (0, List.replicate es.length false) ⟨rfl, rfl, rfl, rfl, rfl, rfl, rfl, rfl, rfl, rfl, trivial⟩ ⟨⟨Nat.zero_le _, by simp⟩, rfl⟩ (fun w h => h.to) ?_
    rintro ⟨i, bs⟩ ρ ⟨⟨hi, hb⟩, ht⟩
    dsimp only at hi hb ht ⊢
    by_cases hil : i < es.length
    · have hil' : (i : Int) < es.length := by omega
      have hib : (i : Int) < bs.length := by omega
      have hnew : ∀ b : Bool, b = (decide (k = 0) || K k i) → (bs.set (i : Int).toNat b).take (i + 1) = (chR es.length (K k) k).take (i + 1) := by
        intro b hb'
        rw [show (i : Int).toNat = i from rfl, take_set_snoc (by omega), ht, List.take_add_one, chR_get hil, hb']; rfl
      by_cases h0 : k = 0
      · have h0' : (k : Int) = 0 := by omega
        repeat' (first | ((rw [hat])) | ((first | refine WLA.m rfl rfl ?_ ?_ | refine WDQ.m rfl rfl ?_ ?_ | refine WLA.st rfl ?_ ?_ | refine WLA.x rfl rfl ?_ (fun x => ?_) | refine WLA.x0 rfl ?_ (fun x => ?_)); first | exact trivial | exact rfl | assumption | omega | (refine ⟨?_, ?_⟩ <;> omega) | (simp only [Room, List.length_set, List.length_append, List.length_cons, List.length_nil, List.length_replicate]; omega) | decide | skip) | (refine Stp.go ?_) | (refine WPA.ifT ?_) | (refine WPA.ifF ?_) | (refine WLA.no rfl rfl ?_) | (refine WDQ.no rfl rfl ?_) | ((first | refine WPA.dec ?_ | ((fail_if_success (guard_target =~ WLA _ _ _ _ _ _ (put1 _ _ (.bool true)) _)); (fail_if_success (guard_target =~ WLA _ _ _ _ _ _ (put1 _ _ (.bool false)) _)); refine WLA.dec rfl rfl ?_) | refine WLA.pk ?_ | refine WDQ.dec rfl rfl ?_); first | refine .inl ⟨by first | assumption | omega | with_reducible rfl | (refine fun h => h ?_; first | assumption | with_reducible rfl) | (simp only [List.length_append, List.length_cons, List.length_nil, List.length_set] <;> omega) | decide, ?_⟩ | refine .inr ⟨by first | assumption | omega | with_reducible rfl | (refine fun h => h ?_; first | assumption | with_reducible rfl) | (simp only [List.length_append, List.length_cons, List.length_nil, List.length_set] <;> omega) | decide, ?_⟩) | ((first | refine WPA.ifBt ?_ ?_ | refine WPA.ifBnf ?_ ?_); assumption) | ((first | refine WPA.ifBnt ?_ ?_ | refine WPA.ifBf ?_ ?_); assumption) | ((first | refine WPA.ifs ?_ ?_ | refine WPA.ifB ?_ ?_) <;> intro hc) | ((fail_if_success (guard_target =~ WLA _ _ _ _ _ _ (put1 _ _ (.bool true)) _)); (fail_if_success (guard_target =~ WLA _ _ _ _ _ _ (put1 _ _ (.bool false)) _)); (first | refine WLA.both rfl rfl ?_ ?_ | refine WLA.bothB rfl rfl ?_ ?_) <;> intro hg) | (guard_target =~ WPA _ _ _ (.region 9 _ true) _ _ _; refine WPA.drawT 14 (.q 0 (.q 1 (.q 2 (.q 3 (.q 4 (.q 5 (.q 6 (.q 7 (.q 8 (.q 9 (.q 10 (.q 11 (.q 12 (.q 13 .fin)))))))))))))) mixed ?_ ?_; kernel_rfl) | (refine WDA.finish (tl := [⟨_, _, _, _, _, _⟩, ⟨_, _, _, _, _, _⟩]) rfl ?_) | (refine WDQ.see rfl ?_) | ((first | refine WDQ.both rfl rfl ?_ ?_) <;> intro hg))
        all_goals exact QQ.loopS (i + 1, bs.set (i : Int).toNat true) ⟨rfl, rfl, rfl, rfl, rfl, rfl, rfl, rfl, rfl, rfl, trivial⟩ ⟨⟨hil, by simp [hb]⟩, hnew true (by simp [h0])⟩ (by dsimp only; omega) (fun w h => h.to)
      · have h0' : ¬ (k : Int) = 0 := by omega
        have hKi := fun L => hKk i L (by omega) hil
        repeat' (first | ((rw [hat])) | ((first | refine WLA.m rfl rfl ?_ ?_ | refine WDQ.m rfl rfl ?_ ?_ | refine WLA.st rfl ?_ ?_ | refine WLA.x rfl rfl ?_ (fun x => ?_) | refine WLA.x0 rfl ?_ (fun x => ?_)); first | exact trivial | exact rfl | assumption | omega | (refine ⟨?_, ?_⟩ <;> omega) | (simp only [Room, List.length_set, List.length_append, List.length_cons, List.length_nil, List.length_replicate]; omega) | decide | skip) | (refine Stp.go ?_) | (guard_target =~ WLA _ _ _ _ _ (⟨_, .call ⟨.value (.tmp _), _, _⟩, _, _, _, _⟩ :: _) _ _; refine WLA.callV rfl rfl (hKi _) ?_; rintro ⟨⟩) | (refine WPA.ifT ?_) | (refine WPA.ifF ?_) | (refine WLA.no rfl rfl ?_) | (refine WDQ.no rfl rfl ?_) | ((first | refine WPA.dec ?_ | ((fail_if_success (guard_target =~ WLA _ _ _ _ _ _ (put1 _ _ (.bool true)) _)); (fail_if_success (guard_target =~ WLA _ _ _ _ _ _ (put1 _ _ (.bool false)) _)); refine WLA.dec rfl rfl ?_) | refine WLA.pk ?_ | refine WDQ.dec rfl rfl ?_); first | refine .inl ⟨by first | assumption | omega | with_reducible rfl | (refine fun h => h ?_; first | assumption | with_reducible rfl) | (simp only [List.length_append, List.length_cons, List.length_nil, List.length_set] <;> omega) | decide, ?_⟩ | refine .inr ⟨by first | assumption | omega | with_reducible rfl | (refine fun h => h ?_; first | assumption | with_reducible rfl) | (simp only [List.length_append, List.length_cons, List.length_nil, List.length_set] <;> omega) | decide, ?_⟩) | ((first | refine WPA.ifBt ?_ ?_ | refine WPA.ifBnf ?_ ?_); assumption) | ((first | refine WPA.ifBnt ?_ ?_ | refine WPA.ifBf ?_ ?_); assumption) | ((first | refine WPA.ifs ?_ ?_ | refine WPA.ifB ?_ ?_) <;> intro hc) | ((fail_if_success (guard_target =~ WLA _ _ _ _ _ _ (put1 _ _ (.bool true)) _)); (fail_if_success (guard_target =~ WLA _ _ _ _ _ _ (put1 _ _ (.bool false)) _)); (first | refine WLA.both rfl rfl ?_ ?_ | refine WLA.bothB rfl rfl ?_ ?_) <;> intro hg) | (guard_target =~ WPA _ _ _ (.region 9 _ true) _ _ _; refine WPA.drawT 14 (.q 0 (.q 1 (.q 2 (.q 3 (.q 4 (.q 5 (.q 6 (.q 7 (.q 8 (.q 9 (.q 10 (.q 11 (.e 12 (.q 13 .fin)))))))))))))) mixed ?_ ?_; kernel_rfl) | (refine WDA.finish (tl := [⟨_, _, _, _, _, _⟩, ⟨_, _, _, _, _, _⟩]) rfl ?_) | (refine WDQ.see rfl ?_) | (refine WDE.see rfl ?_) | (refine WDE.alloc rfl rfl (fun w h => h) (fun x => ?_)) | (refine WDE.stE rfl ?_) | (refine WDE.x rfl rfl ?_ ?_ (fun x => ?_); rotate_left 1; (intro x w h; first | exact h | exact Ent.drop1.sl h | exact SL.unI h | exact SL.to h); rotate_left 1; first | exact trivial | exact rfl | assumption | omega | (refine ⟨?_, ?_⟩ <;> omega) | (simp only [Room, List.length_set, List.length_append, List.length_cons, List.length_nil, List.length_replicate]; omega) | decide | skip) | (guard_target =~ WDE _ _ _ _ _ _ _ ⟨_, .call ⟨.value (.tmp _), _, _⟩, _, _, _, _⟩ _ _ _; refine WDE.callV rfl rfl (hKi _) ?_ ?_; (intro x w h; first | exact h | exact Ent.drop1.sl h | exact SL.unI h | exact SL.to h); rintro ⟨⟩) | ((first | refine WDQ.both rfl rfl ?_ ?_) <;> intro hg))
        all_goals exact QQ.loopS (i + 1, bs.set (i : Int).toNat (K k i)) ⟨rfl, rfl, rfl, rfl, rfl, rfl, rfl, rfl, rfl, rfl, trivial⟩ ⟨⟨hil, by simp [hb]⟩, hnew (K k i) (by simp [h0])⟩ (by dsimp only; omega) (fun w h => h.to)
    · have hil' : ¬ (i : Int) < es.length := by omega
      rw [List.take_of_length_le (by omega), List.take_of_length_le (by simp [chR]; omega)] at ht
      repeat' (first | ((first | refine WLA.m rfl rfl ?_ ?_ | refine WLA.st rfl ?_ ?_ | refine WLA.x rfl rfl ?_ (fun x => ?_) | refine WLA.x0 rfl ?_ (fun x => ?_)); first | exact trivial | exact rfl | assumption | omega | (refine ⟨?_, ?_⟩ <;> omega) | (simp only [Room, List.length_set, List.length_append, List.length_cons, List.length_nil, List.length_replicate]; omega) | decide | skip) | (refine Stp.go ?_) | (refine WPA.ifT ?_) | (refine WPA.ifF ?_) | ((first | refine WPA.dec ?_); first | refine .inl ⟨by first | assumption | omega | with_reducible rfl | (refine fun h => h ?_; first | assumption | with_reducible rfl) | (simp only [List.length_append, List.length_cons, List.length_nil, List.length_set] <;> omega) | decide, ?_⟩ | refine .inr ⟨by first | assumption | omega | with_reducible rfl | (refine fun h => h ?_; first | assumption | with_reducible rfl) | (simp only [List.length_append, List.length_cons, List.length_nil, List.length_set] <;> omega) | decide, ?_⟩) | ((first | refine WPA.ifBt ?_ ?_ | refine WPA.ifBnf ?_ ?_); assumption) | ((first | refine WPA.ifBnt ?_ ?_ | refine WPA.ifBf ?_ ?_); assumption) | ((first | refine WPA.ifs ?_ ?_ | refine WPA.ifB ?_ ?_) <;> intro hc))
      refine QQ.loopS (k + 1, svs') ⟨rfl, rfl, rfl, rfl, rfl, rfl, trivial⟩ ⟨by dsimp only; omega, hsl⟩ (by dsimp only; omega) (fun w h => ?_)
      dsimp only
      have e : (chS re gr K).take (k + 1) = (chS re gr K).take k ++ [bs] := by rw [List.take_add_one, hget, ht]; rfl
      rw [e, htk]
      have h2 := (EntC.out (L' := OwnS 4 c bs :: RowH 4 (svs.take k) ((chS re gr K).take k) :: OwnS 35 o svs' :: Bk t2 25 [.int .i64 fr, .slice wv.a wv.n wv.cap, .slice g.a g.n g.cap] :: L)).sl h
      have h3 := (RowH.snoc (by rw [List.length_take, List.length_take, chS_len]; omega)).sl h2
      exact h3.to
  · have hkl' : ¬ (k : Int) < gr.length := by omega
    rw [List.take_of_length_le (by omega), List.take_of_length_le (by rw [chS_len]; omega)]
    repeat' (first | ((first | refine WLA.m rfl rfl ?_ ?_ | refine WLA.st rfl ?_ ?_ | refine WLA.x rfl rfl ?_ (fun x => ?_) | refine WLA.x0 rfl ?_ (fun x => ?_)); first | exact trivial | exact rfl | assumption | omega | (refine ⟨?_, ?_⟩ <;> omega) | (simp only [Room, List.length_set, List.length_append, List.length_cons, List.length_nil, List.length_replicate]; omega) | decide | skip) | (refine Stp.go ?_) | (refine WPA.ifT ?_) | (refine WPA.ifF ?_) | ((first | refine WPA.dec ?_); first | refine .inl ⟨by first | assumption | omega | with_reducible rfl | (refine fun h => h ?_; first | assumption | with_reducible rfl) | (simp only [List.length_append, List.length_cons, List.length_nil, List.length_set] <;> omega) | decide, ?_⟩ | refine .inr ⟨by first | assumption | omega | with_reducible rfl | (refine fun h => h ?_; first | assumption | with_reducible rfl) | (simp only [List.length_append, List.length_cons, List.length_nil, List.length_set] <;> omega) | decide, ?_⟩) | ((first | refine WPA.ifBt ?_ ?_ | refine WPA.ifBnf ?_ ?_); assumption) | ((first | refine WPA.ifBnt ?_ ?_ | refine WPA.ifBf ?_ ?_); assumption) | ((first | refine WPA.ifs ?_ ?_ | refine WPA.ifB ?_ ?_) <;> intro hc))
    exact QQ.end_ rfl o rfl fun w h => ((GridH.fold (by rw [chS_len]; exact hs)).sl h).to
end
end Go.Proofs.Ytcomkdndddkbeaa
namespace Go.Proofs.Ytcomkdndddkbeaa
open Go Go.Fw Go.RowKit
set_option linter.unusedVariables false
set_option linter.unusedSimpArgs false
set_option maxRecDepth 100000
set_option maxHeartbeats 16000000
set_option synthInstance.maxHeartbeats 200000
set_option synthInstance.maxSize 100000
attribute [local irreducible] WPA WLA WDA WDQ WDE QQ seqQ blockQ loopQ fnQ OpP OpT Tr TrP SL SLd OwnS LitS Bk BkE Ob
attribute [local irreducible] TblH VocH GridH RowH
def FitP (re : SV → List En) (gr cs : List SV) (cl : SV → Nat) : Prop := cs.length = gr.length ∧ ∀ k : Nat, k < gr.length → cl (at_ cs (k : Int)) = (re (at_ gr (k : Int))).length
section
variable {L : List HP} {w0 : World} {I : Foot}
theorem fitsB_tr {fr : Int} {wv g c : SV} {gr cs : List SV} {re : SV → List En} {cn : SV → List Bool} {b : Bool} (hg : SlI I g SV inferInstance gr) (hR : ∀ h ∈ gr, SlI I h En inferInstance (re h)) (hc : SlI I c SV inferInstance cs) (hC : ∀ h ∈ cs, SlI I h Bool inferInstance (cn h)) (hn : gr.length ≤ 1000000) (hb : b = true ↔ FitP re gr cs fun h => (cn h).length) :
    Tr Try.prog 24 #[.agg #[.int .i64 fr, .slice wv.a wv.n wv.cap, .slice g.a g.n g.cap], .slice c.a c.n c.cap] (SL w0 I L) (fun _ : Unit => .bool b) (fun _ => SL w0 I L) := by
  refine Tr.intro Try.func24 rfl Try.ntmps24 rfl ?_
  by_cases h1 : cs.length = gr.length
  · have h1' : ¬ (cs.length : Int) ≠ gr.length := by omega
    repeat' (first | ((first | refine WLA.m rfl rfl ?_ ?_ | refine WLA.st rfl ?_ ?_ | refine WLA.x rfl rfl ?_ (fun x => ?_) | refine WLA.x0 rfl ?_ (fun x => ?_)); first | exact trivial | exact rfl | assumption | omega | (refine ⟨?_, ?_⟩ <;> omega) | (simp only [Room, List.length_set, List.length_append, List.length_cons, List.length_nil, List.length_replicate]; omega) | decide | skip) | (refine Stp.go ?_) | (refine WPA.ifT ?_) | (refine WPA.ifF ?_) | ((first | refine WPA.dec ?_); first | refine .inl ⟨by first | assumption | omega | with_reducible rfl | (refine fun h => h ?_; first | assumption | with_reducible rfl) | (simp only [List.length_append, List.length_cons, List.length_nil, List.length_set] <;> omega) | decide, ?_⟩ | refine .inr ⟨by first | assumption | omega | with_reducible rfl | (refine fun h => h ?_; first | assumption | with_reducible rfl) | (simp only [List.length_append, List.length_cons, List.length_nil, List.length_set] <;> omega) | decide, ?_⟩) | ((first | refine WPA.ifBt ?_ ?_ | refine WPA.ifBnf ?_ ?_); assumption) | ((first | refine WPA.ifBnt ?_ ?_ | refine WPA.ifBf ?_ ?_); assumption) | ((first | refine WPA.ifs ?_ ?_ | refine WPA.ifB ?_ ?_) <;> intro hc))
    revert x; intro t2
    refine WPA.loopS (σ := Nat) (fun i => [(1, .slice c.a c.n c.cap), (2, .pointer (some ⟨t2, 0, none⟩)), (13, .int .i64 cs.length), (14, .int .i64 i)]) (fun i => i ≤ cs.length ∧ ∀ k : Nat, k < i → (cn (at_ cs (k : Int))).length = (re (at_ gr (k : Int))).length)
      (fun _ => SL w0 I (Bk t2 25 [.int .i64 fr, .slice wv.a wv.n wv.cap, .slice g.a g.n g.cap] :: L)) (fun i => cs.length - i) 0 ⟨rfl, rfl, rfl, rfl, trivial⟩ ⟨Nat.zero_le _, fun k hk => absurd hk (Nat.not_lt_zero _)⟩ (fun w h => h.to) ?_
    rintro i ρ ⟨hi, hf⟩
    by_cases hil : i < cs.length
    · have hil' : (i : Int) < cs.length := by omega
      have hig : (i : Int) < gr.length := by omega
      have m1 : at_ cs (i : Int) ∈ cs := by rw [at_nat cs i hil]; exact List.getElem_mem _
      have m2 : at_ gr (i : Int) ∈ gr := by rw [at_nat gr i (by omega)]; exact List.getElem_mem _
      have c1 := hC _ m1
      have c2 := hR _ m2
      by_cases he : (cn (at_ cs (i : Int))).length = (re (at_ gr (i : Int))).length
      · have he' : ¬ ((cn (at_ cs (i : Int))).length : Int) ≠ (re (at_ gr (i : Int))).length := by omega
        repeat' (first | ((first | refine WLA.m rfl rfl ?_ ?_ | refine WDQ.m rfl rfl ?_ ?_ | refine WLA.st rfl ?_ ?_ | refine WLA.x rfl rfl ?_ (fun x => ?_) | refine WLA.x0 rfl ?_ (fun x => ?_)); first | exact trivial | exact rfl | assumption | omega | (refine ⟨?_, ?_⟩ <;> omega) | (simp only [Room, List.length_set, List.length_append, List.length_cons, List.length_nil, List.length_replicate]; omega) | decide | skip) | (refine Stp.go ?_) | (refine WPA.ifT ?_) | (refine WPA.ifF ?_) | ((first | refine WPA.dec ?_); first | refine .inl ⟨by first | assumption | omega | with_reducible rfl | (refine fun h => h ?_; first | assumption | with_reducible rfl) | (simp only [List.length_append, List.length_cons, List.length_nil, List.length_set] <;> omega) | decide, ?_⟩ | refine .inr ⟨by first | assumption | omega | with_reducible rfl | (refine fun h => h ?_; first | assumption | with_reducible rfl) | (simp only [List.length_append, List.length_cons, List.length_nil, List.length_set] <;> omega) | decide, ?_⟩) | ((first | refine WPA.ifBt ?_ ?_ | refine WPA.ifBnf ?_ ?_); assumption) | ((first | refine WPA.ifBnt ?_ ?_ | refine WPA.ifBf ?_ ?_); assumption) | ((first | refine WPA.ifs ?_ ?_ | refine WPA.ifB ?_ ?_) <;> intro hc) | (guard_target =~ WPA _ _ _ (.region 6 _ true) _ _ _; refine WPA.drawT 11 (.q 0 (.q 1 (.q 2 (.q 3 (.q 4 (.q 5 (.q 6 (.q 7 (.q 8 (.q 9 (.q 10 .fin))))))))))) mixed ?_ ?_; kernel_rfl) | (refine WDA.finish (tl := [⟨_, _, _, _, _, _⟩]) rfl ?_) | (refine WDQ.see rfl ?_))
        all_goals exact QQ.loopS (i + 1) ⟨rfl, rfl, rfl, rfl, trivial⟩ ⟨hil, fun k hk => by by_cases hki : k = i; (subst hki; exact he); exact hf k (by omega)⟩ (by omega) (fun w h => h.to)
      · have he' : ((cn (at_ cs (i : Int))).length : Int) ≠ (re (at_ gr (i : Int))).length := by omega
        repeat' (first | ((first | refine WLA.m rfl rfl ?_ ?_ | refine WDQ.m rfl rfl ?_ ?_ | refine WLA.st rfl ?_ ?_ | refine WLA.x rfl rfl ?_ (fun x => ?_) | refine WLA.x0 rfl ?_ (fun x => ?_)); first | exact trivial | exact rfl | assumption | omega | (refine ⟨?_, ?_⟩ <;> omega) | (simp only [Room, List.length_set, List.length_append, List.length_cons, List.length_nil, List.length_replicate]; omega) | decide | skip) | (refine Stp.go ?_) | (refine WPA.ifT ?_) | (refine WPA.ifF ?_) | ((first | refine WPA.dec ?_); first | refine .inl ⟨by first | assumption | omega | with_reducible rfl | (refine fun h => h ?_; first | assumption | with_reducible rfl) | (simp only [List.length_append, List.length_cons, List.length_nil, List.length_set] <;> omega) | decide, ?_⟩ | refine .inr ⟨by first | assumption | omega | with_reducible rfl | (refine fun h => h ?_; first | assumption | with_reducible rfl) | (simp only [List.length_append, List.length_cons, List.length_nil, List.length_set] <;> omega) | decide, ?_⟩) | ((first | refine WPA.ifBt ?_ ?_ | refine WPA.ifBnf ?_ ?_); assumption) | ((first | refine WPA.ifBnt ?_ ?_ | refine WPA.ifBf ?_ ?_); assumption) | ((first | refine WPA.ifs ?_ ?_ | refine WPA.ifB ?_ ?_) <;> intro hc) | (guard_target =~ WPA _ _ _ (.region 6 _ true) _ _ _; refine WPA.drawT 11 (.q 0 (.q 1 (.q 2 (.q 3 (.q 4 (.q 5 (.q 6 (.q 7 (.q 8 (.q 9 (.q 10 .fin))))))))))) mixed ?_ ?_; kernel_rfl) | (refine WDA.finish (tl := [⟨_, _, _, _, _, _⟩]) rfl ?_) | (refine WDQ.see rfl ?_))
        all_goals exact QQ.end_ rfl () (congrArg Value.bool (by cases b; rfl; exact absurd ((hb.1 rfl).2 i (by omega)) he)) fun w h => h.to
    · have hil' : ¬ (i : Int) < cs.length := by omega
      repeat' (first | ((first | refine WLA.m rfl rfl ?_ ?_ | refine WLA.st rfl ?_ ?_ | refine WLA.x rfl rfl ?_ (fun x => ?_) | refine WLA.x0 rfl ?_ (fun x => ?_)); first | exact trivial | exact rfl | assumption | omega | (refine ⟨?_, ?_⟩ <;> omega) | (simp only [Room, List.length_set, List.length_append, List.length_cons, List.length_nil, List.length_replicate]; omega) | decide | skip) | (refine Stp.go ?_) | (refine WPA.ifT ?_) | (refine WPA.ifF ?_) | ((first | refine WPA.dec ?_); first | refine .inl ⟨by first | assumption | omega | with_reducible rfl | (refine fun h => h ?_; first | assumption | with_reducible rfl) | (simp only [List.length_append, List.length_cons, List.length_nil, List.length_set] <;> omega) | decide, ?_⟩ | refine .inr ⟨by first | assumption | omega | with_reducible rfl | (refine fun h => h ?_; first | assumption | with_reducible rfl) | (simp only [List.length_append, List.length_cons, List.length_nil, List.length_set] <;> omega) | decide, ?_⟩) | ((first | refine WPA.ifBt ?_ ?_ | refine WPA.ifBnf ?_ ?_); assumption) | ((first | refine WPA.ifBnt ?_ ?_ | refine WPA.ifBf ?_ ?_); assumption) | ((first | refine WPA.ifs ?_ ?_ | refine WPA.ifB ?_ ?_) <;> intro hc))
      exact QQ.end_ rfl () (congrArg Value.bool (hb.2 ⟨h1, fun k hk => hf k (by omega)⟩).symm) fun w h => h.to
  · have h1' : (cs.length : Int) ≠ gr.length := by omega
    repeat' (first | ((first | refine WLA.m rfl rfl ?_ ?_ | refine WLA.st rfl ?_ ?_ | refine WLA.x rfl rfl ?_ (fun x => ?_) | refine WLA.x0 rfl ?_ (fun x => ?_)); first | exact trivial | exact rfl | assumption | omega | (refine ⟨?_, ?_⟩ <;> omega) | (simp only [Room, List.length_set, List.length_append, List.length_cons, List.length_nil, List.length_replicate]; omega) | decide | skip) | (refine Stp.go ?_) | (refine WPA.ifT ?_) | (refine WPA.ifF ?_) | ((first | refine WPA.dec ?_); first | refine .inl ⟨by first | assumption | omega | with_reducible rfl | (refine fun h => h ?_; first | assumption | with_reducible rfl) | (simp only [List.length_append, List.length_cons, List.length_nil, List.length_set] <;> omega) | decide, ?_⟩ | refine .inr ⟨by first | assumption | omega | with_reducible rfl | (refine fun h => h ?_; first | assumption | with_reducible rfl) | (simp only [List.length_append, List.length_cons, List.length_nil, List.length_set] <;> omega) | decide, ?_⟩) | ((first | refine WPA.ifBt ?_ ?_ | refine WPA.ifBnf ?_ ?_); assumption) | ((first | refine WPA.ifBnt ?_ ?_ | refine WPA.ifBf ?_ ?_); assumption) | ((first | refine WPA.ifs ?_ ?_ | refine WPA.ifB ?_ ?_) <;> intro hc))
    exact QQ.end_ rfl () (congrArg Value.bool (by cases b; rfl; exact absurd (hb.1 rfl).1 h1)) fun w h => h.to
end
end Go.Proofs.Ytcomkdndddkbeaa
namespace Go.Proofs.Ytcomkdndddkbeaa
open Go Go.Fw Go.RowKit
set_option linter.unusedVariables false
set_option linter.unusedSimpArgs false
set_option maxRecDepth 100000
set_option maxHeartbeats 16000000
set_option synthInstance.maxHeartbeats 200000
set_option synthInstance.maxSize 100000
attribute [local irreducible] WPA WLA WDA WDQ WDE QQ seqQ blockQ loopQ fnQ OpP OpT Tr TrP SL SLd OwnS LitS Bk BkE Ob
attribute [local irreducible] TblH VocH RowH
theorem take_one {α : Type} {l : List α} {k : Nat} {x : α} (h : l[k]? = some x) : l.take (k + 1) = l.take k ++ [x] := by rw [List.take_add_one, h]; rfl
theorem getD_some {α : Type} {l : List α} {k : Nat} {x d : α} (h : l[k]? = some x) : l.getD k d = x := by rw [List.getD_eq_getElem?_getD, h]; rfl
end Go.Proofs.Ytcomkdndddkbeaa
namespace Go.Proofs.Ytcomkdndddkbeaa
open Go Go.Fw Go.RowKit
set_option linter.unusedVariables false
set_option linter.unusedSimpArgs false
set_option maxRecDepth 100000
set_option maxHeartbeats 16000000
set_option synthInstance.maxHeartbeats 200000
set_option synthInstance.maxSize 100000
attribute [local irreducible] WPA WLA WDA WDQ WDE QQ seqQ blockQ loopQ fnQ OpP OpT Tr TrP SL SLd OwnS LitS Bk BkE Ob
attribute [local irreducible] TblH VocH GridH RowH
def stV (kg : SV → List Int) (re : SV → List En) (gr : List SV) (k : Nat) (xs : List Int) : Int := bckN kg re gr (xs.take k) + prbN kg re gr (at_ xs (k : Int)) ((xs.take k).drop 1)
def stP (least p b v : Int) : Prop := b ≠ 0 ∨ least < max p v - min p v
instance (least p b v : Int) : Decidable (stP least p b v) := inferInstanceAs (Decidable (_ ∨ _))
def stK (kg : SV → List Int) (re : SV → List En) (gr : List SV) (least : Int) (k i : Nat) : Bool :=
  decide (stP least (at_ (re (at_ gr (k : Int))) (i : Int)).2.1 (at_ (re (at_ gr (k : Int))) (i : Int)).2.2 (stV kg re gr k (kg (at_ (re (at_ gr (k : Int))) (i : Int)).1)))
section
variable {L : List HP} {w0 : World} {I : Foot}
theorem gap_tr {a b : Int} (h : -2305843009213693952 ≤ a ∧ a ≤ 2305843009213693952) (k : -2305843009213693952 ≤ b ∧ b ≤ 2305843009213693952) : TrP Try.prog 38 #[.int .i64 a, .int .i64 b] (SL w0 I L) (.int .i64 (max a b - min a b)) := by
  refine TrP.ofD fun u => Tr.intro Try.func38 rfl Try.ntmps38 rfl ?_
  have hs : -9223372036854775808 ≤ max a b - min a b ∧ max a b - min a b ≤ 9223372036854775807 := by omega
  repeat' (first | ((first | refine WLA.m rfl rfl ?_ ?_ | refine WLA.st rfl ?_ ?_ | refine WLA.x rfl rfl ?_ (fun x => ?_) | refine WLA.x0 rfl ?_ (fun x => ?_)); first | exact trivial | exact rfl | assumption | omega | (refine ⟨?_, ?_⟩ <;> omega) | (simp only [Room, List.length_set, List.length_append, List.length_cons, List.length_nil, List.length_replicate]; omega) | decide | skip) | (refine Stp.go ?_) | (refine WPA.ifT ?_) | (refine WPA.ifF ?_) | ((first | refine WPA.dec ?_); first | refine .inl ⟨by first | assumption | omega | with_reducible rfl | (refine fun h => h ?_; first | assumption | with_reducible rfl) | (simp only [List.length_append, List.length_cons, List.length_nil, List.length_set] <;> omega) | decide, ?_⟩ | refine .inr ⟨by first | assumption | omega | with_reducible rfl | (refine fun h => h ?_; first | assumption | with_reducible rfl) | (simp only [List.length_append, List.length_cons, List.length_nil, List.length_set] <;> omega) | decide, ?_⟩) | ((first | refine WPA.ifBt ?_ ?_ | refine WPA.ifBnf ?_ ?_); assumption) | ((first | refine WPA.ifBnt ?_ ?_ | refine WPA.ifBf ?_ ?_); assumption) | ((first | refine WPA.ifs ?_ ?_ | refine WPA.ifB ?_ ?_) <;> intro hc))
  exact QQ.end_ rfl () rfl fun w h => h
end
section
variable {kg : SV → List Int} {re : SV → List En} {L : List HP} {w0 : World} {I : Foot}
theorem Find_any {fr : Int} {w g s : SV} {ws : List ByteArray} {gr : List SV} {gs : List Int} [hr : RdS I L s Int inferInstance gs] (hM : MdI I kg re w g ws gr) (hS : ∀ h ∈ gr, RisE kg (re h)) (hl : gs.length ≤ 1000000) :
    Tr Try.prog 37 #[.agg #[.int .i64 fr, .slice w.a w.n w.cap, .slice g.a g.n g.cap], .slice s.a s.n s.cap] (SL w0 I L) (fun r : { r : SV × Int × Bool × List Int // CodesP re gr → CodeP (bckN kg re gr gs) } => .tuple #[.agg #[.slice r.1.1.a r.1.1.n r.1.1.cap, .int .i64 r.1.2.1, .int .i64 (bckN kg re gr gs)], .bool r.1.2.2.1]) (fun r => SL w0 I (OwnS 3 r.1.1 r.1.2.2.2 :: L)) := by
  by_cases hF : FndP kg re gr gs
  · have hb : bckN kg re gr gs = (cdsG kg re gr gs).2 := if_pos hF
    exact (Find_y hM hS hl hF).conv (fun w h => h) (fun r w h => ⟨⟨(r, (cdsG kg re gr gs).1, true, gs), fun hC => bck_code hC⟩, by dsimp only; rw [hb], h⟩)
  · have hb : bckN kg re gr gs = 0 := if_neg hF
    exact (Find_n hM hS hl hF).conv (fun w h => h) (fun _ w h => ⟨⟨(SV.nil, 0, false, []), fun hC => bck_code hC⟩, by dsimp only; rw [hb], h.to⟩)
theorem chkM_few {fr : Int} {ws : List ByteArray} {gr : List SV} (h : chkM kg re fr ws gr = 0) : gr.length ≤ 8 := by
  unfold chkM at h
  split at h
  · cases h
  · rename_i h1; omega
theorem Strong1_tr {fr least : Int} {w g : SV} {ws : List ByteArray} {gr : List SV} {b1 b2 : Nat} {k i : Nat} [hb1 : InI I b1 25 [.int .i64 fr, .slice w.a w.n w.cap, .slice g.a g.n g.cap]] [hb2 : InI I b2 3 [.int .i64 least]] (hM : MdI I kg re w g ws gr) (hck : chkM kg re fr ws gr = 0) (h0 : 0 < k) (hk : k < gr.length) (hi : i < (re (at_ gr (k : Int))).length) :
    Tr Try.prog 36 #[.int .i64 k, .int .i64 i, .agg #[.slice (at_ (re (at_ gr (k : Int))) (i : Int)).1.a (at_ (re (at_ gr (k : Int))) (i : Int)).1.n (at_ (re (at_ gr (k : Int))) (i : Int)).1.cap, .int .i64 (at_ (re (at_ gr (k : Int))) (i : Int)).2.1, .int .i64 (at_ (re (at_ gr (k : Int))) (i : Int)).2.2], .pointer (some ⟨b1, 0, none⟩), .pointer (some ⟨b2, 0, none⟩)] (SL w0 I L) (fun _ : Unit => .bool (stK kg re gr least k i)) (fun _ => SL w0 I L) := by
  refine Tr.intro Try.func36 rfl Try.ntmps36 rfl ?_
  obtain ⟨z1, z2, z3⟩ := chkM_zero hck
  obtain ⟨y1, y2, y3⟩ := chkM_words hck
  have hg8 := chkM_few hck
  have hme : at_ gr (k : Int) ∈ gr := by rw [at_nat gr k hk]; exact List.getElem_mem _
  have hmi : at_ (re (at_ gr (k : Int))) (i : Int) ∈ re (at_ gr (k : Int)) := by rw [at_nat _ i hi]; exact List.getElem_mem _
  have hG := hM.elems _ hme _ hmi
  have hxl := y1 k hk _ hmi
  have hcp := z3 _ hme _ hmi
  unfold stK
  generalize at_ (re (at_ gr (k : Int))) (i : Int) = e at hG hxl hcp
  obtain ⟨eg, ep, eb⟩ := e
  dsimp only at hG hxl hcp ⊢
  generalize kg eg = xs at hG hxl
  have hkx : (0 : Int) ≤ k ∧ (k : Int) < xs.length := by omega
  have hs1 : SlI I (eg.cut 1 0 (k : Int)) Int inferInstance (xs.take k) := by
    have hci : SlI I (eg.cut 1 0 (k : Int)) Int inferInstance (cutL xs 0 (k : Int)) := inferInstance
    rwa [cut_take (by omega)] at hci
  have htl : (xs.take k).length = k := by rw [List.length_take]; omega
  have htl2 : (xs.take k).length ≤ 1000000 := by omega
  have hs2 : SlI I ((eg.cut 1 0 (k : Int)).cut 1 1 ((cutL xs 0 (k : Int)).length : Int)) Int inferInstance ((xs.take k).drop 1) := by
    have hci : SlI I ((eg.cut 1 0 (k : Int)).cut 1 1 ((cutL xs 0 (k : Int)).length : Int)) Int inferInstance (cutL (xs.take k) 1 ((cutL xs 0 (k : Int)).length : Int)) := inferInstance
    rw [cut_take (by omega)] at hci ⊢
    rwa [show (1 : Int) = ((1 : Nat) : Int) from rfl, cut_drop (by omega)] at hci
  have h1k : (1 : Int) ≤ ((cutL xs 0 (k : Int)).length : Int) := by rw [cut_take (by omega)]; omega
  have hdl : ((xs.take k).drop 1).length ≤ 8 := by rw [List.length_drop]; omega
  have htr : truL gr.length ((xs.take k).drop 1) = (xs.take k).drop 1 := if_neg (by rw [List.length_drop]; omega)
  have hPt := fun {L : List HP} => Prob_tr (w0 := w0) (L := L) (fr := fr) (w := at_ xs (k : Int)) (s := (eg.cut 1 0 (k : Int)).cut 1 1 ((cutL xs 0 (k : Int)).length : Int)) (hs := (xs.take k).drop 1) hM z2 z3 (by omega) z1
  rw [htr] at hPt
  have hbd := prb_bd (kg := kg) (w := at_ xs (k : Int)) z3 ((xs.take k).drop 1)
  unfold stV
  generalize prbN kg re gr (at_ xs (k : Int)) ((xs.take k).drop 1) = pv at hPt hbd
  repeat' (first | ((first | refine WLA.m rfl rfl ?_ ?_ | refine WDQ.m rfl rfl ?_ ?_ | refine WLA.st rfl ?_ ?_ | refine WLA.x rfl rfl ?_ (fun x => ?_) | refine WLA.x0 rfl ?_ (fun x => ?_)); first | exact trivial | exact rfl | assumption | omega | (refine ⟨?_, ?_⟩ <;> omega) | (simp only [Room, List.length_set, List.length_append, List.length_cons, List.length_nil, List.length_replicate]; omega) | decide | skip) | (refine Stp.go ?_) | (guard_target =~ WLA _ _ _ _ _ (⟨_, .call ⟨.value (.func 37), _, _⟩, _, _, _, _⟩ :: _) _ _; first | (refine WLA.call rfl rfl (Find_any (hr := RdS.imm (h := hs1)) hM z2 htl2) ?_; rintro ⟨⟨r, cp, fb, fs⟩, hbc⟩; dsimp only; have hbc := hbc z3) | (refine WLA.call0 rfl (Find_any (hr := RdS.imm (h := hs1)) hM z2 htl2) ?_; rintro ⟨⟨r, cp, fb, fs⟩, hbc⟩; dsimp only; have hbc := hbc z3)) | (refine WPA.ifT ?_) | (refine WPA.ifF ?_) | ((first | refine WPA.dec ?_); first | refine .inl ⟨by first | assumption | omega | with_reducible rfl | (refine fun h => h ?_; first | assumption | with_reducible rfl) | (simp only [List.length_append, List.length_cons, List.length_nil, List.length_set] <;> omega) | decide, ?_⟩ | refine .inr ⟨by first | assumption | omega | with_reducible rfl | (refine fun h => h ?_; first | assumption | with_reducible rfl) | (simp only [List.length_append, List.length_cons, List.length_nil, List.length_set] <;> omega) | decide, ?_⟩) | ((first | refine WPA.ifBt ?_ ?_ | refine WPA.ifBnf ?_ ?_); assumption) | ((first | refine WPA.ifBnt ?_ ?_ | refine WPA.ifBf ?_ ?_); assumption) | ((first | refine WPA.ifs ?_ ?_ | refine WPA.ifB ?_ ?_) <;> intro hc) | (guard_target =~ WPA _ _ _ (.region 1 _ true) _ _ _; refine WPA.drawT 10 (.q 0 (.q 1 (.q 2 (.q 3 (.q 4 (.q 5 (.q 6 (.q 7 (.q 8 (.q 9 .fin)))))))))) mixed ?_ ?_; kernel_rfl) | (refine WDA.finish (tl := [⟨_, _, _, _, _, _⟩]) rfl ?_) | (refine WDQ.see rfl ?_) | (guard_target =~ WDE _ _ _ _ _ _ _ ⟨_, .call ⟨.value (.func 37), _, _⟩, _, _, _, _⟩ _ _ _; refine WDE.call rfl rfl (Find_any (hr := RdS.imm (h := hs1)) hM z2 htl2) ?_ ?_; (intro x w h; first | exact h | exact Ent.drop1.sl h | exact SL.unI h | exact SL.to h); rintro ⟨⟨r, cp, fb, fs⟩, hbc⟩; dsimp only; have hbc := hbc z3) | (guard_target =~ WDW _ _ _ _ _ _ _ ⟨_, .call ⟨.value (.func 37), _, _⟩, _, _, _, _⟩ _ _ _; refine WDW.call rfl rfl (Find_any (hr := RdS.imm (h := hs1)) hM z2 htl2) ?_; rintro ⟨⟨r, cp, fb, fs⟩, hbc⟩; dsimp only; have hbc := hbc z3))
  generalize bckN kg re gr (xs.take k) = bv at hbc
  have hsm : -9223372036854775808 ≤ bv + pv ∧ bv + pv ≤ 9223372036854775807 := by omega
  have hga : -2305843009213693952 ≤ ep ∧ ep ≤ 2305843009213693952 := by omega
  have hgb : -2305843009213693952 ≤ bv + pv ∧ bv + pv ≤ 2305843009213693952 := by omega
  by_cases hb : eb ≠ 0
  · skip
    repeat' (first | ((first | refine WLA.m rfl rfl ?_ ?_ | refine WDQ.m rfl rfl ?_ ?_ | refine WLA.st rfl ?_ ?_ | refine WLA.x rfl rfl ?_ (fun x => ?_) | refine WLA.x0 rfl ?_ (fun x => ?_)); first | exact trivial | exact rfl | assumption | omega | (refine ⟨?_, ?_⟩ <;> omega) | (simp only [Room, List.length_set, List.length_append, List.length_cons, List.length_nil, List.length_replicate]; omega) | decide | skip) | (refine Stp.go ?_) | (guard_target =~ WLA _ _ _ _ _ (⟨_, .call ⟨.value (.func 38), _, _⟩, _, _, _, _⟩ :: _) _ _; refine WLA.cq rfl rfl (gap_tr hga hgb) ?_) | (refine WPA.ifT ?_) | (refine WPA.ifF ?_) | (refine WLA.no rfl rfl ?_) | (refine WDQ.no rfl rfl ?_) | ((first | refine WPA.dec ?_ | ((fail_if_success (guard_target =~ WLA _ _ _ _ _ _ (put1 _ _ (.bool true)) _)); (fail_if_success (guard_target =~ WLA _ _ _ _ _ _ (put1 _ _ (.bool false)) _)); refine WLA.dec rfl rfl ?_) | refine WLA.pk ?_ | refine WDQ.dec rfl rfl ?_); first | refine .inl ⟨by first | assumption | omega | with_reducible rfl | (refine fun h => h ?_; first | assumption | with_reducible rfl) | (simp only [List.length_append, List.length_cons, List.length_nil, List.length_set] <;> omega) | decide, ?_⟩ | refine .inr ⟨by first | assumption | omega | with_reducible rfl | (refine fun h => h ?_; first | assumption | with_reducible rfl) | (simp only [List.length_append, List.length_cons, List.length_nil, List.length_set] <;> omega) | decide, ?_⟩) | ((first | refine WPA.ifBt ?_ ?_ | refine WPA.ifBnf ?_ ?_); assumption) | ((first | refine WPA.ifBnt ?_ ?_ | refine WPA.ifBf ?_ ?_); assumption) | ((first | refine WPA.ifs ?_ ?_ | refine WPA.ifB ?_ ?_) <;> intro hc) | ((fail_if_success (guard_target =~ WLA _ _ _ _ _ _ (put1 _ _ (.bool true)) _)); (fail_if_success (guard_target =~ WLA _ _ _ _ _ _ (put1 _ _ (.bool false)) _)); (first | refine WLA.both rfl rfl ?_ ?_ | refine WLA.bothB rfl rfl ?_ ?_) <;> intro hg) | (guard_target =~ WPA _ _ _ (.region 3 _ true) _ _ _; refine WPA.drawT 16 (.q 0 (.q 1 (.q 2 (.q 3 (.q 4 (.q 5 (.q 6 (.q 7 (.q 8 (.q 9 (.q 10 (.q 11 (.q 12 (.q 13 (.q 14 (.q 15 .fin)))))))))))))))) mixed ?_ ?_; kernel_rfl) | (refine WDA.finish (tl := [⟨_, _, _, _, _, _⟩, ⟨_, _, _, _, _, _⟩, ⟨_, _, _, _, _, _⟩]) rfl ?_) | (refine WDQ.see rfl ?_) | (guard_target =~ WDQ _ _ _ _ _ _ _ ⟨_, .call ⟨.value (.func 38), _, _⟩, _, _, _, _⟩ _ _ _; refine WDQ.cq rfl rfl (gap_tr hga hgb) ?_) | ((first | refine WDQ.both rfl rfl ?_ ?_) <;> intro hg))
    all_goals exact QQ.end_ rfl () (congrArg Value.bool (decide_eq_true (Or.inl hb)).symm) fun w h => h.to
  · have hbx : eb = 0 := Classical.byContradiction hb
    repeat' (first | ((first | refine WLA.m rfl rfl ?_ ?_ | refine WDQ.m rfl rfl ?_ ?_ | refine WLA.st rfl ?_ ?_ | refine WLA.x rfl rfl ?_ (fun x => ?_) | refine WLA.x0 rfl ?_ (fun x => ?_)); first | exact trivial | exact rfl | assumption | omega | (refine ⟨?_, ?_⟩ <;> omega) | (simp only [Room, List.length_set, List.length_append, List.length_cons, List.length_nil, List.length_replicate]; omega) | decide | skip) | (refine Stp.go ?_) | (guard_target =~ WLA _ _ _ _ _ (⟨_, .call ⟨.value (.func 39), _, _⟩, _, _, _, _⟩ :: _) _ _; first | (refine WLA.call rfl rfl (hPt) ?_; rintro ⟨⟩) | (refine WLA.call0 rfl (hPt) ?_; rintro ⟨⟩)) | (guard_target =~ WLA _ _ _ _ _ (⟨_, .call ⟨.value (.func 38), _, _⟩, _, _, _, _⟩ :: _) _ _; refine WLA.cq rfl rfl (gap_tr hga hgb) ?_) | (refine WPA.ifT ?_) | (refine WPA.ifF ?_) | (refine WLA.no rfl rfl ?_) | (refine WDQ.no rfl rfl ?_) | ((first | refine WPA.dec ?_ | ((fail_if_success (guard_target =~ WLA _ _ _ _ _ _ (put1 _ _ (.bool true)) _)); (fail_if_success (guard_target =~ WLA _ _ _ _ _ _ (put1 _ _ (.bool false)) _)); refine WLA.dec rfl rfl ?_) | refine WLA.pk ?_ | refine WDQ.dec rfl rfl ?_); first | refine .inl ⟨by first | assumption | omega | with_reducible rfl | (refine fun h => h ?_; first | assumption | with_reducible rfl) | (simp only [List.length_append, List.length_cons, List.length_nil, List.length_set] <;> omega) | decide, ?_⟩ | refine .inr ⟨by first | assumption | omega | with_reducible rfl | (refine fun h => h ?_; first | assumption | with_reducible rfl) | (simp only [List.length_append, List.length_cons, List.length_nil, List.length_set] <;> omega) | decide, ?_⟩) | ((first | refine WPA.ifBt ?_ ?_ | refine WPA.ifBnf ?_ ?_); assumption) | ((first | refine WPA.ifBnt ?_ ?_ | refine WPA.ifBf ?_ ?_); assumption) | ((first | refine WPA.ifs ?_ ?_ | refine WPA.ifB ?_ ?_) <;> intro hc) | ((fail_if_success (guard_target =~ WLA _ _ _ _ _ _ (put1 _ _ (.bool true)) _)); (fail_if_success (guard_target =~ WLA _ _ _ _ _ _ (put1 _ _ (.bool false)) _)); (first | refine WLA.both rfl rfl ?_ ?_ | refine WLA.bothB rfl rfl ?_ ?_) <;> intro hg) | (guard_target =~ WPA _ _ _ (.region 3 _ true) _ _ _; refine WPA.drawT 16 (.q 0 (.q 1 (.q 2 (.q 3 (.q 4 (.q 5 (.q 6 (.q 7 (.q 8 (.q 9 (.q 10 (.q 11 (.q 15 (.e 12 (.q 13 (.q 14 .fin)))))))))))))))) mixed ?_ ?_; kernel_rfl) | (refine WDA.finish (tl := [⟨_, _, _, _, _, _⟩, ⟨_, _, _, _, _, _⟩, ⟨_, _, _, _, _, _⟩]) rfl ?_) | (refine WDQ.see rfl ?_) | (refine WDE.see rfl ?_) | (refine WDE.alloc rfl rfl (fun w h => h) (fun x => ?_)) | (refine WDE.stE rfl ?_) | (refine WDE.x rfl rfl ?_ ?_ (fun x => ?_); rotate_left 1; (intro x w h; first | exact h | exact Ent.drop1.sl h | exact SL.unI h | exact SL.to h); rotate_left 1; first | exact trivial | exact rfl | assumption | omega | (refine ⟨?_, ?_⟩ <;> omega) | (simp only [Room, List.length_set, List.length_append, List.length_cons, List.length_nil, List.length_replicate]; omega) | decide | skip) | (guard_target =~ WDE _ _ _ _ _ _ _ ⟨_, .call ⟨.value (.func 39), _, _⟩, _, _, _, _⟩ _ _ _; refine WDE.call rfl rfl (hPt) ?_ ?_; (intro x w h; first | exact h | exact Ent.drop1.sl h | exact SL.unI h | exact SL.to h); rintro ⟨⟩) | (guard_target =~ WDW _ _ _ _ _ _ _ ⟨_, .call ⟨.value (.func 39), _, _⟩, _, _, _, _⟩ _ _ _; refine WDW.call rfl rfl (hPt) ?_; rintro ⟨⟩) | (guard_target =~ WDQ _ _ _ _ _ _ _ ⟨_, .call ⟨.value (.func 38), _, _⟩, _, _, _, _⟩ _ _ _; refine WDQ.cq rfl rfl (gap_tr hga hgb) ?_) | ((first | refine WDQ.both rfl rfl ?_ ?_) <;> intro hg))
    all_goals exact QQ.end_ rfl () (congrArg Value.bool (decide_eq_decide.2 ⟨Or.inr, fun h => h.resolve_left hb⟩)) fun w h => h.to
theorem Strong_ok {fr least : Int} {wv g : SV} {ws : List ByteArray} {gr : List SV} (hM : MdI I kg re wv g ws gr) (hck : chkM kg re fr ws gr = 0) (hl : ¬ least < 0) :
    Tr Try.prog 15 #[.agg #[.int .i64 fr, .slice wv.a wv.n wv.cap, .slice g.a g.n g.cap], .int .i64 least] (SL w0 I L) (fun x : SV => .tuple #[.slice x.a x.n x.cap, .int .i64 0]) (fun x => SL w0 I (GridH x (chS re gr (stK kg re gr least)) :: L)) := by
  refine Tr.intro Try.func15 rfl Try.ntmps15 rfl ?_
  have hck' : ¬ chkM kg re fr ws gr ≠ 0 := fun h => h hck
  repeat' ((fail_if_success (guard_target =~ WPA _ _ _ (.region 6 _ _) _ _ _)); first | ((first | refine WLA.m rfl rfl ?_ ?_ | refine WLA.st rfl ?_ ?_ | refine WLA.x rfl rfl ?_ (fun x => ?_) | refine WLA.x0 rfl ?_ (fun x => ?_)); first | exact trivial | exact rfl | assumption | omega | (refine ⟨?_, ?_⟩ <;> omega) | (simp only [Room, List.length_set, List.length_append, List.length_cons, List.length_nil, List.length_replicate]; omega) | decide | skip) | (refine Stp.go ?_) | (guard_target =~ WLA _ _ _ _ _ (⟨_, .call ⟨.value (.func 23), _, _⟩, _, _, _, _⟩ :: _) _ _; first | (refine WLA.call rfl rfl (Check_tr hM) ?_; rintro ⟨⟩) | (refine WLA.call0 rfl (Check_tr hM) ?_; rintro ⟨⟩)) | (refine WPA.ifT ?_) | (refine WPA.ifF ?_) | ((first | refine WPA.dec ?_); first | refine .inl ⟨by first | assumption | omega | with_reducible rfl | (refine fun h => h ?_; first | assumption | with_reducible rfl) | (simp only [List.length_append, List.length_cons, List.length_nil, List.length_set] <;> omega) | decide, ?_⟩ | refine .inr ⟨by first | assumption | omega | with_reducible rfl | (refine fun h => h ?_; first | assumption | with_reducible rfl) | (simp only [List.length_append, List.length_cons, List.length_nil, List.length_set] <;> omega) | decide, ?_⟩) | ((first | refine WPA.ifBt ?_ ?_ | refine WPA.ifBnf ?_ ?_); assumption) | ((first | refine WPA.ifBnt ?_ ?_ | refine WPA.ifBf ?_ ?_); assumption) | ((first | refine WPA.ifs ?_ ?_ | refine WPA.ifB ?_ ?_) <;> intro hc))
  rename_i t3
  revert x; intro t4
  refine WPA.freezeBk (b := t3) ?_
  refine WPA.freezeBk (b := t4) ?_
  have hg := hM.grams
  repeat' (first | ((first | refine WLA.m rfl rfl ?_ ?_ | refine WLA.st rfl ?_ ?_ | refine WLA.x rfl rfl ?_ (fun x => ?_) | refine WLA.x0 rfl ?_ (fun x => ?_)); first | exact trivial | exact rfl | assumption | omega | (refine ⟨?_, ?_⟩ <;> omega) | (simp only [Room, List.length_set, List.length_append, List.length_cons, List.length_nil, List.length_replicate]; omega) | decide | skip) | (refine Stp.go ?_) | (guard_target =~ WLA _ _ _ _ _ (⟨_, .call ⟨.value (.func 25), _, _⟩, _, _, _, _⟩ :: _) _ _; first | (refine WLA.call rfl rfl (choice_tr (fid := 36) (caps := [.pointer (some ⟨t3, 0, none⟩), .pointer (some ⟨t4, 0, none⟩)]) (K := stK kg re gr least) (SlI.sub (h := hg)) (fun h hh ↦ (hM.rows h hh).sub) hM.gln hM.rln (fun k i L h0 hk hi ↦ Strong1_tr hM.sub hck h0 hk hi)) ?_; rintro x) | (refine WLA.call0 rfl (choice_tr (fid := 36) (caps := [.pointer (some ⟨t3, 0, none⟩), .pointer (some ⟨t4, 0, none⟩)]) (K := stK kg re gr least) (SlI.sub (h := hg)) (fun h hh ↦ (hM.rows h hh).sub) hM.gln hM.rln (fun k i L h0 hk hi ↦ Strong1_tr hM.sub hck h0 hk hi)) ?_; rintro x)) | (refine WPA.ifT ?_) | (refine WPA.ifF ?_) | ((first | refine WPA.dec ?_); first | refine .inl ⟨by first | assumption | omega | with_reducible rfl | (refine fun h => h ?_; first | assumption | with_reducible rfl) | (simp only [List.length_append, List.length_cons, List.length_nil, List.length_set] <;> omega) | decide, ?_⟩ | refine .inr ⟨by first | assumption | omega | with_reducible rfl | (refine fun h => h ?_; first | assumption | with_reducible rfl) | (simp only [List.length_append, List.length_cons, List.length_nil, List.length_set] <;> omega) | decide, ?_⟩) | ((first | refine WPA.ifBt ?_ ?_ | refine WPA.ifBnf ?_ ?_); assumption) | ((first | refine WPA.ifBnt ?_ ?_ | refine WPA.ifBf ?_ ?_); assumption) | ((first | refine WPA.ifs ?_ ?_ | refine WPA.ifB ?_ ?_) <;> intro hc))
  exact QQ.end_ rfl x rfl fun w h => h.unI.unI.to
end
end Go.Proofs.Ytcomkdndddkbeaa
namespace Go.Proofs.Ytcomkdndddkbeaa
open Go Go.Fw Go.RowKit
set_option linter.unusedVariables false
set_option linter.unusedSimpArgs false
set_option maxRecDepth 100000
set_option maxHeartbeats 16000000
set_option synthInstance.maxHeartbeats 200000
set_option synthInstance.maxSize 100000
attribute [local irreducible] WPA WLA WDA WDQ WDE QQ seqQ blockQ loopQ fnQ OpP OpT Tr TrP SL SLd OwnS LitS Bk BkE Ob
section
abbrev EV := (Int × Int) × List Int
end
section
def LstE (J : Foot) (v : SV) (es : List EV) : Prop := ∃ cs : List En, SlI J v En inferInstance cs ∧ cs.map Prod.snd = es.map Prod.fst ∧ ∀ i : Nat, i < cs.length → SlI J (at_ cs (i : Int)).1 Int inferInstance (es.getD i ((0, 0), [])).2
end
section
def MdL (J : Foot) (w g : SV) (ws : List ByteArray) (A : List (List EV)) : Prop := SlI J w ByteArray inferInstance ws ∧ ∃ gr : List SV, SlI J g SV inferInstance gr ∧ gr.length = A.length ∧ ∀ k : Nat, k < A.length → LstE J (at_ gr (k : Int)) (A.getD k [])
end
section
theorem LstE.sub {J J' : Foot} {v : SV} {es : List EV} (h : LstE J v es) (hs : SubI J' J) : LstE J' v es := by
  obtain ⟨cs, h1, h2, h3⟩ := h
  exact ⟨cs, h1.sub, h2, fun i hi => (h3 i hi).sub⟩
end
section
theorem MdL.sub {J J' : Foot} {w g : SV} {ws : List ByteArray} {A : List (List EV)} (h : MdL J w g ws A) (hs : SubI J' J) : MdL J' w g ws A := by
  obtain ⟨h0, gr, h1, h2, h3⟩ := h
  exact ⟨h0.sub, gr, h1.sub, h2, fun i hi => (h3 i hi).sub hs⟩
end
section
structure MdQ (J : Foot) (w g : SV) (ws : List ByteArray) (gr : List SV) (A : List (List EV)) : Prop where
  words : SlI J w ByteArray inferInstance ws
  grams : SlI J g SV inferInstance gr
  rows : ∀ h ∈ gr, SlI J h En inferInstance (rd En J h) ∧ EnG J (rd Int J) (rd En J h)
  cont : gr.map (fun h => enV (rd Int J) (rd En J h)) = A
end
section
theorem LstE.nst {J : Foot} {v : SV} {es : List EV} (h : LstE J v es) {w0 : World} {L : List HP} {w : World} (hw : SL w0 J L w) : (SlI J v En inferInstance (rd En J v) ∧ EnG J (rd Int J) (rd En J v)) ∧ enV (rd Int J) (rd En J v) = es := by
  obtain ⟨cs, k1, k2, k3⟩ := h
  have e := k1.rd.det k1 hw
  have e1 : cs.length = es.length := by have := congrArg List.length k2; simpa using this
  rw [e]
  refine ⟨⟨k1, fun p hp => ?_⟩, List.ext_getElem (by simp [enV, e1]) fun j j1 j2 => ?_⟩
  · obtain ⟨j, hj, rfl⟩ := List.getElem_of_mem hp
    have := k3 j hj
    rw [at_nat cs j hj] at this
    exact this.rd
  · unfold enV at j1 ⊢
    rw [List.length_map] at j1
    have q := k3 j j1
    rw [at_nat cs j j1, List.getD_eq_getElem?_getD, List.getElem?_eq_getElem j2, Option.getD_some] at q
    have q2 := congrArg (fun l => l[j]?) k2
    simp only [List.getElem?_map, List.getElem?_eq_getElem j1, List.getElem?_eq_getElem j2, Option.map_some] at q2
    rw [List.getElem_map]
    exact Prod.ext (by injection q2) (q.rd.det q hw)
end
section
theorem MdL.nst {J : Foot} {w g : SV} {ws : List ByteArray} {A : List (List EV)} (h : MdL J w g ws A) {w0 : World} {L : List HP} {u : World} (hw : SL w0 J L u) : ∃ gr, MdQ J w g ws gr A := by
  obtain ⟨h0, gr, h1, h2, h3⟩ := h
  refine ⟨gr, h0, h1, fun v hv => ?_, List.ext_getElem (by simp [h2]) fun i i1 i2 => ?_⟩
  · obtain ⟨i, hi, rfl⟩ := List.getElem_of_mem hv
    have := (h3 i (by omega)).nst hw
    rw [at_nat gr i hi] at this
    exact this.1
  · rw [List.length_map] at i1
    have := (h3 i (by omega)).nst hw
    rw [at_nat gr i i1, List.getD_eq_getElem?_getD, List.getElem?_eq_getElem i2, Option.getD_some] at this
    rw [List.getElem_map]
    exact this.2
end
section
theorem MdR.toL {J : Foot} {kg : SV → List Int} {re : SV → List En} {w g : SV} {ws : List ByteArray} {gr : List SV} (h : MdR J kg re w g ws gr) : MdL J w g ws (gr.map fun h => enV kg (re h)) := by
  refine ⟨h.words, gr, h.grams, by simp, fun k hk => ?_⟩
  rw [List.length_map] at hk
  have hm : at_ gr (k : Int) ∈ gr := by rw [at_nat gr k hk]; exact List.getElem_mem _
  rw [List.getD_eq_getElem?_getD, List.getElem?_map, List.getElem?_eq_getElem hk, ← at_nat gr k hk]
  refine ⟨re (at_ gr (k : Int)), h.rows _ hm, by unfold enV; simp [List.map_map, Function.comp_def], fun i hi => ?_⟩
  have hp := h.elems _ hm _ (List.getElem_mem hi)
  show SlI J _ Int _ ((enV kg (re (at_ gr (k : Int)))).getD i ((0, 0), [])).2
  unfold enV
  rw [List.getD_eq_getElem?_getD, List.getElem?_map, List.getElem?_eq_getElem hi, at_nat _ i hi]
  exact hp
end
section
def FewA (ws : List ByteArray) (A : List (List EV)) : Prop := (ws.length ≤ 1000000 ∧ A.length ≤ 1000000) ∧ ∀ es ∈ A, es.length ≤ 1000000 ∧ ∀ e ∈ es, e.2.length ≤ 1000000
end
section
variable {L : List HP} {w0 : World} {I : Foot}
theorem MdQ.at {w g : SV} {ws : List ByteArray} {gr : List SV} {A : List (List EV)} (h : MdQ I w g ws gr A) (f : FewA ws A) {i : Nat} (hi : i < gr.length) :
    (SlI I (at_ gr (i : Int)) En inferInstance (rd En I (at_ gr (i : Int))) ∧ EnG I (rd Int I) (rd En I (at_ gr (i : Int)))) ∧ A[i]? = some (enV (rd Int I) (rd En I (at_ gr (i : Int)))) ∧ (rd En I (at_ gr (i : Int))).length ≤ 1000000 ∧ ∀ p ∈ rd En I (at_ gr (i : Int)), (rd Int I p.1).length ≤ 1000000 := by
  have hm : at_ gr (i : Int) ∈ gr := by rw [at_nat gr i hi]; exact List.getElem_mem _
  have hc : A[i]? = some (enV (rd Int I) (rd En I (at_ gr (i : Int)))) := by rw [← h.cont, List.getElem?_map, List.getElem?_eq_getElem hi, at_nat gr i hi]; rfl
  obtain ⟨f1, f2⟩ := f.2 _ (List.mem_of_getElem? hc)
  refine ⟨h.rows _ hm, hc, by simpa [enV] using f1, fun p hp => ?_⟩
  exact f2 (p.2, rd Int I p.1) (List.mem_map.2 ⟨p, hp, rfl⟩)
end
section
variable {L : List HP} {w0 : World} {I : Foot}
theorem MdQ.len {w g : SV} {ws : List ByteArray} {gr : List SV} {A : List (List EV)} (h : MdQ I w g ws gr A) : gr.length = A.length := by rw [← h.cont, List.length_map]
end
section
variable {L : List HP} {w0 : World} {I : Foot}
theorem rSame_trQ {w g w2 g2 : SV} {ws ws2 : List ByteArray} {gr gr2 : List SV} {A B : List (List EV)} {fr fr2 : Int} (ha : MdQ I w g ws gr A) (hb : MdQ I w2 g2 ws2 gr2 B) (fa : FewA ws A) (fb : FewA ws2 B) :
    Tr Try.prog 11 #[.agg #[.int .i64 fr, .slice w.a w.n w.cap, .slice g.a g.n g.cap], .agg #[.int .i64 fr2, .slice w2.a w2.n w2.cap, .slice g2.a g2.n g2.cap]] (SL w0 I L) (fun _ : Unit => .bool (decide (fr = fr2 ∧ ws = ws2 ∧ A = B))) (fun _ => SL w0 I L) := by
  refine Tr.intro Try.func11 rfl Try.ntmps11 rfl ?_
  have h1 := ha.words
  have h2 := hb.words
  have h3 := ha.grams
  have h4 := hb.grams
  have hwl : ws.length ≤ 1000000000 := by have := fa.1.1; omega
  have hga := ha.len
  have hgb := hb.len
  have hgl : gr.length ≤ 1000000 := by have := fa.1.2; omega
  have no : ¬ (fr = fr2 ∧ ws = ws2 ∧ A = B) → decide (fr = fr2 ∧ ws = ws2 ∧ A = B) = false := decide_eq_false
  by_cases c1 : fr = fr2
  · have c1' : ¬ fr ≠ fr2 := fun h => h c1
    by_cases c2 : gr.length = gr2.length
    · have c2' : ¬ (gr.length : Int) ≠ gr2.length := by omega
      by_cases c3 : ws = ws2
      · have c3' : ¬ ¬ ws = ws2 := fun h => h c3
        repeat' (first | ((first | refine WLA.m rfl rfl ?_ ?_ | refine WLA.st rfl ?_ ?_ | refine WLA.x rfl rfl ?_ (fun x => ?_) | refine WLA.x0 rfl ?_ (fun x => ?_)); first | exact trivial | exact rfl | assumption | omega | (refine ⟨?_, ?_⟩ <;> omega) | (simp only [Room, List.length_set, List.length_append, List.length_cons, List.length_nil, List.length_replicate]; omega) | decide | skip) | (refine Stp.go ?_) | (guard_target =~ WLA _ _ _ _ _ (⟨_, .call ⟨.value (.func 33), _, _⟩, _, _, _, _⟩ :: _) _ _; refine WLA.cq rfl rfl (Same_tr hwl) ?_) | (refine WPA.ifT ?_) | (refine WPA.ifF ?_) | (refine WLA.no rfl rfl ?_) | ((first | refine WPA.dec ?_ | ((fail_if_success (guard_target =~ WLA _ _ _ _ _ _ (put1 _ _ (.bool true)) _)); (fail_if_success (guard_target =~ WLA _ _ _ _ _ _ (put1 _ _ (.bool false)) _)); refine WLA.dec rfl rfl ?_) | refine WLA.pk ?_); first | refine .inl ⟨by first | assumption | omega | with_reducible rfl | (refine fun h => h ?_; first | assumption | with_reducible rfl) | (simp only [List.length_append, List.length_cons, List.length_nil, List.length_set] <;> omega) | decide, ?_⟩ | refine .inr ⟨by first | assumption | omega | with_reducible rfl | (refine fun h => h ?_; first | assumption | with_reducible rfl) | (simp only [List.length_append, List.length_cons, List.length_nil, List.length_set] <;> omega) | decide, ?_⟩) | ((first | refine WPA.ifBt ?_ ?_ | refine WPA.ifBnf ?_ ?_); assumption) | ((first | refine WPA.ifBnt ?_ ?_ | refine WPA.ifBf ?_ ?_); assumption) | ((first | refine WPA.ifs ?_ ?_ | refine WPA.ifB ?_ ?_) <;> intro hc) | ((fail_if_success (guard_target =~ WLA _ _ _ _ _ _ (put1 _ _ (.bool true)) _)); (fail_if_success (guard_target =~ WLA _ _ _ _ _ _ (put1 _ _ (.bool false)) _)); (first | refine WLA.both rfl rfl ?_ ?_ | refine WLA.bothB rfl rfl ?_ ?_) <;> intro hg))
        rename_i t2
        revert x; intro t3
        refine WPA.loopS (σ := Nat) (fun i => [(2, .pointer (some ⟨t2, 0, none⟩)), (3, .pointer (some ⟨t3, 0, none⟩)), (5, .int .i64 i)]) (fun i => i ≤ gr.length ∧ A.take i = B.take i)
          (fun _ => SL w0 I (Bk t3 25 [.int .i64 fr2, .slice w2.a w2.n w2.cap, .slice g2.a g2.n g2.cap] :: Bk t2 25 [.int .i64 fr, .slice w.a w.n w.cap, .slice g.a g.n g.cap] :: L)) (fun i => gr.length - i) 0 ⟨rfl, rfl, rfl, trivial⟩ ⟨Nat.zero_le _, rfl⟩ (fun w h => h.to) ?_
        rintro i ρ ⟨hi, he⟩
        by_cases hlt : i < gr.length
        · have hlt' : (i : Int) < gr.length := by omega
          have hlt2 : (i : Int) < gr2.length := by omega
          obtain ⟨⟨p1, p2⟩, p3, p4, p5⟩ := ha.at fa hlt
          obtain ⟨⟨q1, q2⟩, q3, q4, q5⟩ := hb.at fb (show i < gr2.length by omega)
          generalize rd En I (at_ gr (i : Int)) = xs at p1 p2 p3 p4 p5
          generalize rd En I (at_ gr2 (i : Int)) = ys at q1 q2 q3 q4 q5
          have hp5 : ∀ p ∈ xs, (rd Int I p.1).length ≤ 1000000000 := fun p hp => by have := p5 p hp; omega
          by_cases c4 : enV (rd Int I) xs = enV (rd Int I) ys
          · have c4' : ¬ ¬ enV (rd Int I) xs = enV (rd Int I) ys := fun h => h c4
            repeat' (first | ((first | refine WLA.m rfl rfl ?_ ?_ | refine WDQ.m rfl rfl ?_ ?_ | refine WLA.st rfl ?_ ?_ | refine WLA.x rfl rfl ?_ (fun x => ?_) | refine WLA.x0 rfl ?_ (fun x => ?_)); first | exact trivial | exact rfl | assumption | omega | (refine ⟨?_, ?_⟩ <;> omega) | (simp only [Room, List.length_set, List.length_append, List.length_cons, List.length_nil, List.length_replicate]; omega) | decide | skip) | (refine Stp.go ?_) | (guard_target =~ WLA _ _ _ _ _ (⟨_, .call ⟨.value (.func 34), _, _⟩, _, _, _, _⟩ :: _) _ _; refine WLA.cq rfl rfl (Entries_tr (fun p hp ↦ RdS.imm (h := p2 p hp)) (fun p hp ↦ RdS.imm (h := q2 p hp)) (by omega) hp5) ?_) | (refine WPA.ifT ?_) | (refine WPA.ifF ?_) | ((first | refine WPA.dec ?_); first | refine .inl ⟨by first | assumption | omega | with_reducible rfl | (refine fun h => h ?_; first | assumption | with_reducible rfl) | (simp only [List.length_append, List.length_cons, List.length_nil, List.length_set] <;> omega) | decide, ?_⟩ | refine .inr ⟨by first | assumption | omega | with_reducible rfl | (refine fun h => h ?_; first | assumption | with_reducible rfl) | (simp only [List.length_append, List.length_cons, List.length_nil, List.length_set] <;> omega) | decide, ?_⟩) | ((first | refine WPA.ifBt ?_ ?_ | refine WPA.ifBnf ?_ ?_); assumption) | ((first | refine WPA.ifBnt ?_ ?_ | refine WPA.ifBf ?_ ?_); assumption) | ((first | refine WPA.ifs ?_ ?_ | refine WPA.ifB ?_ ?_) <;> intro hc) | (guard_target =~ WPA _ _ _ (.region 6 _ true) _ _ _; refine WPA.drawT 10 (.q 0 (.q 1 (.q 2 (.q 3 (.q 4 (.q 5 (.q 6 (.q 7 (.q 8 (.q 9 .fin)))))))))) mixed ?_ ?_; kernel_rfl) | (refine WDA.finish (tl := [⟨_, _, _, _, _, _⟩, ⟨_, _, _, _, _, _⟩]) rfl ?_) | (refine WDQ.see rfl ?_) | (guard_target =~ WDQ _ _ _ _ _ _ _ ⟨_, .call ⟨.value (.func 34), _, _⟩, _, _, _, _⟩ _ _ _; refine WDQ.cq rfl rfl (Entries_tr (fun p hp ↦ RdS.imm (h := p2 p hp)) (fun p hp ↦ RdS.imm (h := q2 p hp)) (by omega) hp5) ?_))
            exact QQ.loopS (i + 1) ⟨rfl, rfl, rfl, trivial⟩ ⟨hlt, by rw [List.take_add_one, List.take_add_one, he, p3, q3, c4]⟩ (by omega) (fun w h => h.to)
          · skip
            repeat' (first | ((first | refine WLA.m rfl rfl ?_ ?_ | refine WDQ.m rfl rfl ?_ ?_ | refine WLA.st rfl ?_ ?_ | refine WLA.x rfl rfl ?_ (fun x => ?_) | refine WLA.x0 rfl ?_ (fun x => ?_)); first | exact trivial | exact rfl | assumption | omega | (refine ⟨?_, ?_⟩ <;> omega) | (simp only [Room, List.length_set, List.length_append, List.length_cons, List.length_nil, List.length_replicate]; omega) | decide | skip) | (refine Stp.go ?_) | (guard_target =~ WLA _ _ _ _ _ (⟨_, .call ⟨.value (.func 34), _, _⟩, _, _, _, _⟩ :: _) _ _; refine WLA.cq rfl rfl (Entries_tr (fun p hp ↦ RdS.imm (h := p2 p hp)) (fun p hp ↦ RdS.imm (h := q2 p hp)) (by omega) hp5) ?_) | (refine WPA.ifT ?_) | (refine WPA.ifF ?_) | ((first | refine WPA.dec ?_); first | refine .inl ⟨by first | assumption | omega | with_reducible rfl | (refine fun h => h ?_; first | assumption | with_reducible rfl) | (simp only [List.length_append, List.length_cons, List.length_nil, List.length_set] <;> omega) | decide, ?_⟩ | refine .inr ⟨by first | assumption | omega | with_reducible rfl | (refine fun h => h ?_; first | assumption | with_reducible rfl) | (simp only [List.length_append, List.length_cons, List.length_nil, List.length_set] <;> omega) | decide, ?_⟩) | ((first | refine WPA.ifBt ?_ ?_ | refine WPA.ifBnf ?_ ?_); assumption) | ((first | refine WPA.ifBnt ?_ ?_ | refine WPA.ifBf ?_ ?_); assumption) | ((first | refine WPA.ifs ?_ ?_ | refine WPA.ifB ?_ ?_) <;> intro hc) | (guard_target =~ WPA _ _ _ (.region 6 _ true) _ _ _; refine WPA.drawT 10 (.q 0 (.q 1 (.q 2 (.q 3 (.q 4 (.q 5 (.q 6 (.q 7 (.q 8 (.q 9 .fin)))))))))) mixed ?_ ?_; kernel_rfl) | (refine WDA.finish (tl := [⟨_, _, _, _, _, _⟩, ⟨_, _, _, _, _, _⟩]) rfl ?_) | (refine WDQ.see rfl ?_) | (guard_target =~ WDQ _ _ _ _ _ _ _ ⟨_, .call ⟨.value (.func 34), _, _⟩, _, _, _, _⟩ _ _ _; refine WDQ.cq rfl rfl (Entries_tr (fun p hp ↦ RdS.imm (h := p2 p hp)) (fun p hp ↦ RdS.imm (h := q2 p hp)) (by omega) hp5) ?_))
            exact QQ.end_ rfl () (by rw [no fun h => c4 (by have e := h.2.2; rw [e, q3] at p3; injection p3 with p3; exact p3.symm)]) fun w h => h.to
        · have hlt' : ¬ (i : Int) < gr.length := by omega
          rw [List.take_of_length_le (by omega), List.take_of_length_le (by omega)] at he
          repeat' (first | ((first | refine WLA.m rfl rfl ?_ ?_ | refine WLA.st rfl ?_ ?_ | refine WLA.x rfl rfl ?_ (fun x => ?_) | refine WLA.x0 rfl ?_ (fun x => ?_)); first | exact trivial | exact rfl | assumption | omega | (refine ⟨?_, ?_⟩ <;> omega) | (simp only [Room, List.length_set, List.length_append, List.length_cons, List.length_nil, List.length_replicate]; omega) | decide | skip) | (refine Stp.go ?_) | (refine WPA.ifT ?_) | (refine WPA.ifF ?_) | ((first | refine WPA.dec ?_); first | refine .inl ⟨by first | assumption | omega | with_reducible rfl | (refine fun h => h ?_; first | assumption | with_reducible rfl) | (simp only [List.length_append, List.length_cons, List.length_nil, List.length_set] <;> omega) | decide, ?_⟩ | refine .inr ⟨by first | assumption | omega | with_reducible rfl | (refine fun h => h ?_; first | assumption | with_reducible rfl) | (simp only [List.length_append, List.length_cons, List.length_nil, List.length_set] <;> omega) | decide, ?_⟩) | ((first | refine WPA.ifBt ?_ ?_ | refine WPA.ifBnf ?_ ?_); assumption) | ((first | refine WPA.ifBnt ?_ ?_ | refine WPA.ifBf ?_ ?_); assumption) | ((first | refine WPA.ifs ?_ ?_ | refine WPA.ifB ?_ ?_) <;> intro hc))
          exact QQ.end_ rfl () (by rw [decide_eq_true ⟨c1, c3, he⟩]) fun w h => h.to
      · skip
        repeat' (first | ((first | refine WLA.m rfl rfl ?_ ?_ | refine WLA.st rfl ?_ ?_ | refine WLA.x rfl rfl ?_ (fun x => ?_) | refine WLA.x0 rfl ?_ (fun x => ?_)); first | exact trivial | exact rfl | assumption | omega | (refine ⟨?_, ?_⟩ <;> omega) | (simp only [Room, List.length_set, List.length_append, List.length_cons, List.length_nil, List.length_replicate]; omega) | decide | skip) | (refine Stp.go ?_) | (guard_target =~ WLA _ _ _ _ _ (⟨_, .call ⟨.value (.func 33), _, _⟩, _, _, _, _⟩ :: _) _ _; refine WLA.cq rfl rfl (Same_tr hwl) ?_) | (refine WPA.ifT ?_) | (refine WPA.ifF ?_) | (refine WLA.no rfl rfl ?_) | ((first | refine WPA.dec ?_ | ((fail_if_success (guard_target =~ WLA _ _ _ _ _ _ (put1 _ _ (.bool true)) _)); (fail_if_success (guard_target =~ WLA _ _ _ _ _ _ (put1 _ _ (.bool false)) _)); refine WLA.dec rfl rfl ?_) | refine WLA.pk ?_); first | refine .inl ⟨by first | assumption | omega | with_reducible rfl | (refine fun h => h ?_; first | assumption | with_reducible rfl) | (simp only [List.length_append, List.length_cons, List.length_nil, List.length_set] <;> omega) | decide, ?_⟩ | refine .inr ⟨by first | assumption | omega | with_reducible rfl | (refine fun h => h ?_; first | assumption | with_reducible rfl) | (simp only [List.length_append, List.length_cons, List.length_nil, List.length_set] <;> omega) | decide, ?_⟩) | ((first | refine WPA.ifBt ?_ ?_ | refine WPA.ifBnf ?_ ?_); assumption) | ((first | refine WPA.ifBnt ?_ ?_ | refine WPA.ifBf ?_ ?_); assumption) | ((first | refine WPA.ifs ?_ ?_ | refine WPA.ifB ?_ ?_) <;> intro hc) | ((fail_if_success (guard_target =~ WLA _ _ _ _ _ _ (put1 _ _ (.bool true)) _)); (fail_if_success (guard_target =~ WLA _ _ _ _ _ _ (put1 _ _ (.bool false)) _)); (first | refine WLA.both rfl rfl ?_ ?_ | refine WLA.bothB rfl rfl ?_ ?_) <;> intro hg))
        exact QQ.end_ rfl () (by rw [no fun h => c3 h.2.1]) fun w h => h.to
    · have c2' : (gr.length : Int) ≠ gr2.length := by omega
      repeat' (first | ((first | refine WLA.m rfl rfl ?_ ?_ | refine WLA.st rfl ?_ ?_ | refine WLA.x rfl rfl ?_ (fun x => ?_) | refine WLA.x0 rfl ?_ (fun x => ?_)); first | exact trivial | exact rfl | assumption | omega | (refine ⟨?_, ?_⟩ <;> omega) | (simp only [Room, List.length_set, List.length_append, List.length_cons, List.length_nil, List.length_replicate]; omega) | decide | skip) | (refine Stp.go ?_) | (refine WPA.ifT ?_) | (refine WPA.ifF ?_) | (refine WLA.no rfl rfl ?_) | ((first | refine WPA.dec ?_ | ((fail_if_success (guard_target =~ WLA _ _ _ _ _ _ (put1 _ _ (.bool true)) _)); (fail_if_success (guard_target =~ WLA _ _ _ _ _ _ (put1 _ _ (.bool false)) _)); refine WLA.dec rfl rfl ?_) | refine WLA.pk ?_); first | refine .inl ⟨by first | assumption | omega | with_reducible rfl | (refine fun h => h ?_; first | assumption | with_reducible rfl) | (simp only [List.length_append, List.length_cons, List.length_nil, List.length_set] <;> omega) | decide, ?_⟩ | refine .inr ⟨by first | assumption | omega | with_reducible rfl | (refine fun h => h ?_; first | assumption | with_reducible rfl) | (simp only [List.length_append, List.length_cons, List.length_nil, List.length_set] <;> omega) | decide, ?_⟩) | ((first | refine WPA.ifBt ?_ ?_ | refine WPA.ifBnf ?_ ?_); assumption) | ((first | refine WPA.ifBnt ?_ ?_ | refine WPA.ifBf ?_ ?_); assumption) | ((first | refine WPA.ifs ?_ ?_ | refine WPA.ifB ?_ ?_) <;> intro hc) | ((fail_if_success (guard_target =~ WLA _ _ _ _ _ _ (put1 _ _ (.bool true)) _)); (fail_if_success (guard_target =~ WLA _ _ _ _ _ _ (put1 _ _ (.bool false)) _)); (first | refine WLA.both rfl rfl ?_ ?_ | refine WLA.bothB rfl rfl ?_ ?_) <;> intro hg))
      exact QQ.end_ rfl () (by rw [no fun h => c2 (by rw [hga, hgb, h.2.2])]) fun w h => h.to
  · skip
    repeat' (first | ((first | refine WLA.m rfl rfl ?_ ?_ | refine WLA.st rfl ?_ ?_ | refine WLA.x rfl rfl ?_ (fun x => ?_) | refine WLA.x0 rfl ?_ (fun x => ?_)); first | exact trivial | exact rfl | assumption | omega | (refine ⟨?_, ?_⟩ <;> omega) | (simp only [Room, List.length_set, List.length_append, List.length_cons, List.length_nil, List.length_replicate]; omega) | decide | skip) | (refine Stp.go ?_) | (refine WPA.ifT ?_) | (refine WPA.ifF ?_) | (refine WLA.no rfl rfl ?_) | ((first | refine WPA.dec ?_ | ((fail_if_success (guard_target =~ WLA _ _ _ _ _ _ (put1 _ _ (.bool true)) _)); (fail_if_success (guard_target =~ WLA _ _ _ _ _ _ (put1 _ _ (.bool false)) _)); refine WLA.dec rfl rfl ?_) | refine WLA.pk ?_); first | refine .inl ⟨by first | assumption | omega | with_reducible rfl | (refine fun h => h ?_; first | assumption | with_reducible rfl) | (simp only [List.length_append, List.length_cons, List.length_nil, List.length_set] <;> omega) | decide, ?_⟩ | refine .inr ⟨by first | assumption | omega | with_reducible rfl | (refine fun h => h ?_; first | assumption | with_reducible rfl) | (simp only [List.length_append, List.length_cons, List.length_nil, List.length_set] <;> omega) | decide, ?_⟩) | ((first | refine WPA.ifBt ?_ ?_ | refine WPA.ifBnf ?_ ?_); assumption) | ((first | refine WPA.ifBnt ?_ ?_ | refine WPA.ifBf ?_ ?_); assumption) | ((first | refine WPA.ifs ?_ ?_ | refine WPA.ifB ?_ ?_) <;> intro hc) | ((fail_if_success (guard_target =~ WLA _ _ _ _ _ _ (put1 _ _ (.bool true)) _)); (fail_if_success (guard_target =~ WLA _ _ _ _ _ _ (put1 _ _ (.bool false)) _)); (first | refine WLA.both rfl rfl ?_ ?_ | refine WLA.bothB rfl rfl ?_ ?_) <;> intro hg))
    exact QQ.end_ rfl () (by rw [no fun h => c1 h.1]) fun w h => h.to
end
section
theorem WPA.know {ro : Option Nat} {P : Program} {n : Nat} {Q : Hnd} {ρ : Env} {A : World → Prop} {c : Code} {φ : Prop} (h : ∀ w, A w → φ) (k : φ → WPA ro P n c Q ρ A) : WPA ro P n c Q ρ A := by
  unfold WPA at k ⊢; exact fun m a w ha hA => k (h w hA) m a w ha hA
end
section
def RowE (v : SV) (es : List EV) : HP := exH fun cs : List En => pureH (cs.map Prod.snd = es.map Prod.fst) (star (OwnS 54 v cs) (RowH 3 (cs.map Prod.fst) (es.map Prod.snd)))
end
section
def RowsE : List SV → List (List EV) → HP
  | v :: vs, es :: A => star (RowE v es) (RowsE vs A)
  | _, _ => fun R => R = []
end
section
def ClM (w : SV) (x : SV × List ByteArray × List (List EV)) : HP := exH fun vs : List SV => pureH (vs.length = x.2.2.length) (star (OwnS 9 w x.2.1) (star (OwnS 36 x.1 vs) (RowsE vs x.2.2)))
end
section
theorem RowE.fold {v : SV} {es : List EV} {cs : List En} {ks : List (List Int)} {L : List HP} (h1 : cs.map Prod.snd = es.map Prod.fst) (h2 : ks = es.map Prod.snd) : Ent (OwnS 54 v cs :: RowH 3 (cs.map Prod.fst) ks :: L) (RowE v es :: L) := by
  subst h2; exact Ent.ex cs (Ent.pure h1 (Ent.star Ent.refl))
end
section
theorem RowsE.nil {L : List HP} : Ent L (RowsE [] [] :: L) := Ent.intro1 rfl
end
section
theorem RowsE.snoc {v : SV} {es : List EV} : ∀ {vs : List SV} {A : List (List EV)} {L : List HP}, vs.length = A.length → Ent (RowE v es :: RowsE vs A :: L) (RowsE (vs ++ [v]) (A ++ [es]) :: L)
  | [], [], L, _ => Ent.star (Ent.cons Ent.drop1 |>.trans (Ent.cons RowsE.nil))
  | u :: vs, t :: A, L, h => by
    simp only [List.cons_append, RowsE]
    exact (Ent.cons Ent.unstar).trans (Ent.swap.trans ((Ent.cons (RowsE.snoc (by simpa using h))).trans (Ent.star Ent.refl)))
  | [], t :: A, L, h => by simp at h
  | u :: vs, [], L, h => by simp at h
end
section
theorem ClM.fold {w g : SV} {ws : List ByteArray} {A : List (List EV)} {vs : List SV} {L : List HP} (h : vs.length = A.length) : Ent (OwnS 9 w ws :: OwnS 36 g vs :: RowsE vs A :: L) (ClM w (g, ws, A) :: L) :=
  Ent.ex vs (Ent.pure h (Ent.star (Ent.cons (Ent.star Ent.refl))))
end
section
theorem RowE.lst {v : SV} {es : List EV} {R J : Foot} (h : RowE v es R) (hs : SubI J R) : LstE J v es := by
  obtain ⟨cs, h1, R1, R2, h2, h3, rfl⟩ := h
  have e1 : cs.length = es.length := by have := congrArg List.length h1; simpa using this
  have s1 : SubI J R1 := ⟨fun x hx => hs.out (List.mem_append_left _ hx)⟩
  have s2 : SubI J R2 := ⟨fun x hx => hs.out (List.mem_append_right _ hx)⟩
  refine ⟨cs, (SlI.ofOwn h2).sub, h1, fun i hi => ?_⟩
  have h := RowH.frozen h3 i (by rw [List.length_map]; exact hi) (by rw [List.length_map]; omega)
  rw [List.getD_eq_getElem?_getD, List.getD_eq_getElem?_getD, List.getElem?_map, List.getElem?_map, List.getElem?_eq_getElem hi, List.getElem?_eq_getElem (show i < es.length by omega)] at h
  rw [at_nat cs i hi, List.getD_eq_getElem?_getD, List.getElem?_eq_getElem (show i < es.length by omega)]
  exact h.sub
end
section
theorem RowsE.lst : ∀ {vs : List SV} {A : List (List EV)} {R J : Foot}, RowsE vs A R → vs.length = A.length → SubI J R → ∀ k (hk : k < vs.length) (hk2 : k < A.length), LstE J vs[k] A[k]
  | v :: vs, es :: A, R, J, h, hl, hs, k, hk, hk2 => by
    obtain ⟨R1, R2, h1, h2, rfl⟩ := h
    cases k with
    | zero => exact h1.lst ⟨fun x hx => hs.out (List.mem_append_left _ hx)⟩
    | succ k => exact RowsE.lst h2 (by simpa using hl) ⟨fun x hx => hs.out (List.mem_append_right _ hx)⟩ k (by simpa using hk) (by simpa using hk2)
end
section
theorem ClM.md {w g : SV} {ws : List ByteArray} {A : List (List EV)} {R J : Foot} (h : ClM w (g, ws, A) R) (hs : SubI J R) : MdL J w g ws A := by
  obtain ⟨vs, hl, R1, R2, h1, ⟨R3, R4, h2, h3, rfl⟩, rfl⟩ := h
  dsimp only at hl h1 h2 h3
  have s1 : SubI J R1 := ⟨fun x hx => hs.out (List.mem_append_left _ hx)⟩
  have s3 : SubI J R3 := ⟨fun x hx => hs.out (List.mem_append_right _ (List.mem_append_left _ hx))⟩
  have s4 : SubI J R4 := ⟨fun x hx => hs.out (List.mem_append_right _ (List.mem_append_right _ hx))⟩
  refine ⟨(SlI.ofOwn h1).sub, vs, (SlI.ofOwn h2).sub, hl, fun k hk => ?_⟩
  have := RowsE.lst h3 hl s4 k (by omega) hk
  rw [at_nat vs k (by omega), List.getD_eq_getElem?_getD, List.getElem?_eq_getElem hk]
  exact this
end
section
variable {L : List HP} {w0 : World} {I : Foot}
theorem rSame_trI {w g w2 g2 : SV} {ws ws2 : List ByteArray} {A B : List (List EV)} {fr fr2 : Int} (ha : MdL I w g ws A) (hb : MdL I w2 g2 ws2 B) (fa : FewA ws A) (fb : FewA ws2 B) :
    Tr Try.prog 11 #[.agg #[.int .i64 fr, .slice w.a w.n w.cap, .slice g.a g.n g.cap], .agg #[.int .i64 fr2, .slice w2.a w2.n w2.cap, .slice g2.a g2.n g2.cap]] (SL w0 I L) (fun _ : Unit => .bool (decide (fr = fr2 ∧ ws = ws2 ∧ A = B))) (fun _ => SL w0 I L) := by
  refine Tr.mk fun u hu => ?_
  obtain ⟨gr, hq⟩ := ha.nst hu
  obtain ⟨gr2, hq2⟩ := hb.nst hu
  exact (rSame_trQ hq hq2 fa fb).ap hu
end
section
variable {L : List HP} {w0 : World} {I : Foot}
theorem CloneS_tr {a : SV} {xs : List ByteArray} [ha : RdS I L a ByteArray inferInstance xs] (hn : xs.length ≤ 1000000) : Tr Try.prog 48 #[.slice a.a a.n a.cap] (SL w0 I L) (fun r : SV => .slice r.a r.n r.cap) (fun r => SL w0 I (OwnS 9 r xs :: L)) := by
  refine Tr.intro Try.func48 rfl Try.ntmps48 rfl ?_
  repeat' (first | ((first | refine WLA.m rfl rfl ?_ ?_ | refine WLA.st rfl ?_ ?_ | refine WLA.x rfl rfl ?_ (fun x => ?_) | refine WLA.x0 rfl ?_ (fun x => ?_)); first | exact trivial | exact rfl | assumption | omega | (refine ⟨?_, ?_⟩ <;> omega) | (simp only [Room, List.length_set, List.length_append, List.length_cons, List.length_nil, List.length_replicate]; omega) | decide | skip) | (refine Stp.go ?_) | (refine WPA.ifT ?_) | (refine WPA.ifF ?_) | ((first | refine WPA.dec ?_); first | refine .inl ⟨by first | assumption | omega | with_reducible rfl | (refine fun h => h ?_; first | assumption | with_reducible rfl) | (simp only [List.length_append, List.length_cons, List.length_nil, List.length_set] <;> omega) | decide, ?_⟩ | refine .inr ⟨by first | assumption | omega | with_reducible rfl | (refine fun h => h ?_; first | assumption | with_reducible rfl) | (simp only [List.length_append, List.length_cons, List.length_nil, List.length_set] <;> omega) | decide, ?_⟩) | ((first | refine WPA.ifBt ?_ ?_ | refine WPA.ifBnf ?_ ?_); assumption) | ((first | refine WPA.ifBnt ?_ ?_ | refine WPA.ifBf ?_ ?_); assumption) | ((first | refine WPA.ifs ?_ ?_ | refine WPA.ifB ?_ ?_) <;> intro hc))
  · refine QQ.end_ rfl SV.nil rfl fun w h => ?_
    have hr := ha.out w0 w h
    have h0 : xs = [] := by
      have hn := hr.len
      rcases hr.plain with h0 | ⟨b, o, e⟩
      · exact List.eq_nil_of_length_eq_zero (by omega)
      · rw [e] at hc; cases hc
    rw [h0]
    exact h.to
  · exact QQ.end_ rfl x rfl fun w h => h.to
end
section
variable {ro : Option Nat} {P : Program} {n : Nat} {Q : Hnd} {ρ : Env} {L : List HP} {w0 : World} {I : Foot} {c : Code}
theorem WPA.clm {w g : SV} {ws : List ByteArray} {A : List (List EV)} (k : ∀ vs : List SV, vs.length = A.length → WPA ro P n c Q ρ (SL w0 I (OwnS 9 w ws :: OwnS 36 g vs :: RowsE vs A :: L))) : WPA ro P n c Q ρ (SL w0 I (ClM w (g, ws, A) :: L)) :=
  WPA.exH fun vs => WPA.pureH fun h => WPA.star (WPA.ent (Ent.cons Ent.unstar) (k vs h))
end
section
variable {ro : Option Nat} {P : Program} {n : Nat} {Q : Hnd} {ρ : Env} {L : List HP} {w0 : World} {I : Foot} {c : Code}
theorem RowsE.uncons {v : SV} {vs : List SV} {es : List EV} {A : List (List EV)} : Ent (RowsE (v :: vs) (es :: A) :: L) (RowE v es :: RowsE vs A :: L) := Ent.unstar
end
section
variable {ro : Option Nat} {P : Program} {n : Nat} {Q : Hnd} {ρ : Env} {L : List HP} {w0 : World} {I : Foot} {c : Code}
theorem WPA.rowE {v : SV} {es : List EV} (k : ∀ cs : List En, cs.map Prod.snd = es.map Prod.fst → WPA ro P n c Q ρ (SL w0 I (OwnS 54 v cs :: RowH 3 (cs.map Prod.fst) (es.map Prod.snd) :: L))) : WPA ro P n c Q ρ (SL w0 I (RowE v es :: L)) :=
  WPA.exH fun cs => WPA.pureH fun h => WPA.star (k cs h)
end
section
variable {ro : Option Nat} {P : Program} {n : Nat} {Q : Hnd} {ρ : Env} {L : List HP} {w0 : World} {I : Foot} {c : Code}
theorem RowH.uncons {e : TypeId} {s : SV} {ss : List SV} {t : List Int} {ts : List (List Int)} : Ent (RowH e (s :: ss) (t :: ts) :: L) (OwnS e s t :: RowH e ss ts :: L) := Ent.unstar
end
section
theorem FewP.fewA {kg : SV → List Int} {re : SV → List En} {ws : List ByteArray} {gr : List SV} (f : FewP kg re ws gr) : FewA ws (gr.map fun h => enV kg (re h)) := by
  obtain ⟨⟨f1, f2⟩, f3⟩ := f
  refine ⟨⟨by omega, by rw [List.length_map]; omega⟩, fun es hes => ?_⟩
  obtain ⟨h, hh, rfl⟩ := List.mem_map.1 hes
  obtain ⟨g1, g2⟩ := f3 h hh
  refine ⟨by unfold enV; rw [List.length_map]; omega, fun e he => ?_⟩
  unfold enV at he
  obtain ⟨p, hp, rfl⟩ := List.mem_map.1 he
  have := g2 p hp
  dsimp only; omega
end
end Go.Proofs.Ytcomkdndddkbeaa
