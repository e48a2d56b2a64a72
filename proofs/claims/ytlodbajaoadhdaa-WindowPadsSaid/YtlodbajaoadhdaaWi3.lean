/- The n-grams of lists, gone over. Conditions: none. -/
import Derived.Test.YtlodbajaoadhdaaWi2
namespace Go.Proofs.Ytlodbajaoadhdaa
open Go Go.Fw Go.RowKit
set_option linter.unusedVariables false
set_option linter.unusedSimpArgs false
set_option maxRecDepth 100000
set_option maxHeartbeats 16000000
set_option synthInstance.maxHeartbeats 200000
set_option synthInstance.maxSize 100000
attribute [local irreducible] WPA WLA WDA WDQ WDE QQ seqQ blockQ loopQ fnQ OpP OpT Tr TrP SL SLd OwnS LitS Bk BkE Ob
/-- What is not looked into meanwhile. -/
def Fr (_ : Unit) (p : HP) : HP := p
def baseN (gs : List (List Int)) (n : Int) (j : Nat) : Nat := (eachL (gs.take j) n).length
theorem each_split {gs : List (List Int)} {n : Int} {j : Nat} (hj : j < gs.length) : eachL gs n = eachL (gs.take j) n ++ (gramsL (gs.getD j []) n ++ eachL (gs.drop (j + 1)) n) := by
  have e : gs = gs.take j ++ (gs.getD j [] :: gs.drop (j + 1)) := by
    rw [List.getD_eq_getElem?_getD, List.getElem?_eq_getElem hj, Option.getD_some, List.getElem_cons_drop, List.take_append_drop]
  conv => lhs; rw [e]
  unfold eachL
  rw [List.flatMap_append, List.flatMap_cons]
theorem base_succ {gs : List (List Int)} {n : Int} {j : Nat} (hj : j < gs.length) : baseN gs n (j + 1) = baseN gs n j + gramN (gs.getD j []) n := by
  unfold baseN eachL
  rw [List.take_add_one, List.getElem?_eq_getElem hj, List.flatMap_append, List.length_append]
  simp [gramsL_len, List.getD_eq_getElem?_getD, hj]
theorem base_all (gs : List (List Int)) (n : Int) : baseN gs n gs.length = (eachL gs n).length := by unfold baseN; rw [List.take_length]
theorem base_le {gs : List (List Int)} {n : Int} {j : Nat} (hj : j < gs.length) : baseN gs n (j + 1) ≤ (eachL gs n).length := by
  rw [base_succ hj, each_split (n := n) hj, List.length_append, List.length_append, gramsL_len]
  show baseN gs n j + _ ≤ baseN gs n j + _
  omega
theorem each_get {gs : List (List Int)} {n : Int} {j i : Nat} (hj : j < gs.length) (hi : i < gramN (gs.getD j []) n) : (eachL gs n).getD (baseN gs n j + i) [] = gramA (gs.getD j []) n i := by
  rw [each_split (n := n) hj, List.getD_eq_getElem?_getD, List.getElem?_append_right (by unfold baseN; omega), show baseN gs n j + i - (eachL (gs.take j) n).length = i by unfold baseN; omega, List.getElem?_append_left (by rw [gramsL_len]; exact hi), ← List.getD_eq_getElem?_getD]
  exact gramsL_get hi
attribute [local irreducible] Fr MarksH
structure EJ (τ : Type) where
  j : Nat
  ds : List Nat
  x : τ
theorem Each1_tr {b lb : Nat} {gs : List (List Int)} {n : Int} {τ ω : Type} {w0 : World} {I : Foot} (Lk : τ → List HP) (ix : τ → Nat) (C : τ → Prop) (Lz : ω → List HP) (hE : EaI I b gs n) (hl : ∀ g ∈ gs, g.length ≤ 1000000) (hnb : n ≤ 9223372036854775807) (hgs : gs.length ≤ 1000)
    (hy : ∀ (p : HP) (g : SV) (x : τ), C x → ix x < (eachL gs n).length → YTr Try.prog lb #[.slice g.a g.n g.cap] (SL w0 I (OwnS 3 g ((eachL gs n).getD (ix x) []) :: Fr () p :: Lk x)) (fun y : τ ⊕ ω => .bool y.isLeft)
      (fun y w => match y with | .inl x' => (C x' ∧ ix x' = ix x + 1) ∧ SL w0 I (Fr () p :: Lk x') w | .inr z => SL w0 I (Fr () p :: Lz z) w))
    (x0 : τ) (hC : C x0) (h0 : ix x0 = 0) :
    Tr Try.prog 142 #[.func (.yield lb) #[] #[], .pointer (some ⟨b, 0, none⟩)] (SL w0 I (Lk x0)) (fun _ : τ ⊕ ω => .tuple #[])
      (fun y w => match y with | .inl x' => (C x' ∧ ix x' = (eachL gs n).length) ∧ SL w0 I (Lk x') w | .inr z => SL w0 I (Lz z) w) := by
  obtain ⟨own, fs, hb, hown, hfl, hf⟩ := hE
  refine Tr.intro Try.func142 rfl Try.ntmps142 rfl ?_
  repeat' (first
    | (refine WLA.m rfl rfl ?_ ?_; first | exact trivial | exact rfl | assumption | omega | (refine ⟨?_, ?_⟩ <;> omega) | (simp only [Room, List.length_set, List.length_append, List.length_cons, List.length_nil, List.length_replicate]; omega) | decide | skip)
    | (refine WLA.nil ?_)
    | (refine WPA.region ?_)
    | (refine WPA.seq ?_)
    | (refine QQ.seq_normal ?_)
    | (refine WPA.skip ?_)
    | (refine WPA.block ?_)
    | (refine WPA.ret ?_)
    | (refine WPA.exit ?_)
    | (refine QQ.seq_ret ?_)
    | (refine QQ.seq_exit ?_)
    | (refine QQ.block_normal ?_)
    | (refine QQ.block_ret ?_)
    | (refine QQ.block_hit ?_)
    | (refine QQ.block_miss rfl ?_)
    | (refine QQ.loop_ret ?_)
    | (refine QQ.loop_exit ?_)
    | (refine WLA.st rfl ?_ ?_; first | exact trivial | exact rfl | assumption | omega | (refine ⟨?_, ?_⟩ <;> omega) | (simp only [Room, List.length_set, List.length_append, List.length_cons, List.length_nil, List.length_replicate]; omega) | decide | skip)
    | (refine WLA.x rfl rfl ?_ (fun x => ?_); first | exact trivial | exact rfl | assumption | omega | (refine ⟨?_, ?_⟩ <;> omega) | (simp only [Room, List.length_set, List.length_append, List.length_cons, List.length_nil, List.length_replicate]; omega) | decide | skip)
    | (refine WLA.x0 rfl ?_ (fun x => ?_); first | exact trivial | exact rfl | assumption | omega | (refine ⟨?_, ?_⟩ <;> omega) | (simp only [Room, List.length_set, List.length_append, List.length_cons, List.length_nil, List.length_replicate]; omega) | decide | skip)
    | (guard_target =~ WPA _ _ _ (.cond _ _ _) _ _ _; first | (refine WPA.ifT ?_) | (refine WPA.ifF ?_) | (refine WPA.ifYes ?_ ?_; (first | assumption | omega | (refine fun h => h ?_; assumption) | (simp only [List.length_append, List.length_cons, List.length_nil, List.length_set] <;> omega))) | (refine WPA.ifNo ?_ ?_; (first | assumption | omega | (refine fun h => h ?_; assumption) | (simp only [List.length_append, List.length_cons, List.length_nil, List.length_set] <;> omega))) | (refine WPA.ifBt ?_ ?_; assumption) | (refine WPA.ifBf ?_ ?_; assumption) | (refine WPA.ifBnt ?_ ?_; assumption) | (refine WPA.ifBnf ?_ ?_; assumption) | (refine WPA.ifs ?_ ?_ <;> intro hc) | (refine WPA.ifB ?_ ?_ <;> intro hc)))
  revert x; intro t2
  refine WPA.loopD (σ := EJ τ) (fun y => y.ds) (fun y => [(2, .pointer (some ⟨t2, 0, none⟩)), (7, .slice own.a own.n own.cap), (8, .int .i64 fs.length), (9, .int .i64 y.j)])
    (fun y => y.j ≤ gs.length ∧ C y.x ∧ ix y.x = baseN gs n y.j) (fun y => SL w0 I (MarksH () y.ds :: Bk t2 58 [.func (.yield lb) #[] #[]] :: Lk y.x)) (fun y => gs.length - y.j) ⟨0, [], x0⟩ ⟨rfl, rfl, rfl, rfl, trivial⟩ ⟨Nat.zero_le _, hC, by rw [h0]; rfl⟩ (fun w h => MarksH.nil.sl h) ?_ rfl
  rintro ⟨j, ds, x⟩ ρ ⟨hj, hCx, hx⟩
  dsimp only at hj hCx hx ⊢
  by_cases hlt : j < gs.length
  · have hlt' : (j : Int) < fs.length := by omega
    obtain ⟨bn, bo, o, hv, i1, i2, i3⟩ := hf j (by omega)
    have hgl : (gs.getD j []).length ≤ 1000000 := by
      rw [List.getD_eq_getElem?_getD, List.getElem?_eq_getElem hlt]; exact hl _ (List.getElem_mem _)
    have hbs := base_succ (n := n) hlt
    have hbl := base_le (n := n) hlt
    have heg : ∀ i, i < gramN (gs.getD j []) n → (eachL gs n).getD (baseN gs n j + i) [] = gramA (gs.getD j []) n i := fun i hi => each_get hlt hi
    generalize gs.getD j [] = p at i3 hgl hbs heg
    repeat' ((fail_if_success (guard_target =~ WPA _ _ _ (.region 4 _ _) _ _ _)); first
      | (refine WLA.m rfl rfl ?_ ?_; first | exact trivial | exact rfl | assumption | omega | (refine ⟨?_, ?_⟩ <;> omega) | (simp only [Room, List.length_set, List.length_append, List.length_cons, List.length_nil, List.length_replicate]; omega) | decide | skip)
      | (refine WLA.nil ?_)
      | (refine WPA.region ?_)
      | (refine WPA.seq ?_)
      | (refine QQ.seq_normal ?_)
      | (refine WPA.skip ?_)
      | (refine WPA.block ?_)
      | (refine WPA.ret ?_)
      | (refine WPA.exit ?_)
      | (refine QQ.seq_ret ?_)
      | (refine QQ.seq_exit ?_)
      | (refine QQ.block_normal ?_)
      | (refine QQ.block_ret ?_)
      | (refine QQ.block_hit ?_)
      | (refine QQ.block_miss rfl ?_)
      | (refine QQ.loop_ret ?_)
      | (refine QQ.loop_exit ?_)
      | (refine WLA.st rfl ?_ ?_; first | exact trivial | exact rfl | assumption | omega | (refine ⟨?_, ?_⟩ <;> omega) | (simp only [Room, List.length_set, List.length_append, List.length_cons, List.length_nil, List.length_replicate]; omega) | decide | skip)
      | (refine WLA.x rfl rfl ?_ (fun x => ?_); first | exact trivial | exact rfl | assumption | omega | (refine ⟨?_, ?_⟩ <;> omega) | (simp only [Room, List.length_set, List.length_append, List.length_cons, List.length_nil, List.length_replicate]; omega) | decide | skip)
      | (refine WLA.x0 rfl ?_ (fun x => ?_); first | exact trivial | exact rfl | assumption | omega | (refine ⟨?_, ?_⟩ <;> omega) | (simp only [Room, List.length_set, List.length_append, List.length_cons, List.length_nil, List.length_replicate]; omega) | decide | skip)
      | (guard_target =~ WPA _ _ _ (.cond _ _ _) _ _ _; first | (refine WPA.ifT ?_) | (refine WPA.ifF ?_) | (refine WPA.ifYes ?_ ?_; (first | assumption | omega | (refine fun h => h ?_; assumption) | (simp only [List.length_append, List.length_cons, List.length_nil, List.length_set] <;> omega))) | (refine WPA.ifNo ?_ ?_; (first | assumption | omega | (refine fun h => h ?_; assumption) | (simp only [List.length_append, List.length_cons, List.length_nil, List.length_set] <;> omega))) | (refine WPA.ifBt ?_ ?_; assumption) | (refine WPA.ifBf ?_ ?_; assumption) | (refine WPA.ifBnt ?_ ?_; assumption) | (refine WPA.ifBnf ?_ ?_; assumption) | (refine WPA.ifs ?_ ?_ <;> intro hc) | (refine WPA.ifB ?_ ?_ <;> intro hc)))
    rw [hv]
    repeat' (first
      | (refine WLA.m rfl rfl ?_ ?_; first | exact trivial | exact rfl | assumption | omega | (refine ⟨?_, ?_⟩ <;> omega) | (simp only [Room, List.length_set, List.length_append, List.length_cons, List.length_nil, List.length_replicate]; omega) | decide | skip)
      | (refine WLA.nil ?_)
      | (refine WPA.region ?_)
      | (refine WPA.seq ?_)
      | (refine QQ.seq_normal ?_)
      | (refine WPA.skip ?_)
      | (refine WPA.block ?_)
      | (refine WPA.ret ?_)
      | (refine WPA.exit ?_)
      | (refine QQ.seq_ret ?_)
      | (refine QQ.seq_exit ?_)
      | (refine QQ.block_normal ?_)
      | (refine QQ.block_ret ?_)
      | (refine QQ.block_hit ?_)
      | (refine QQ.block_miss rfl ?_)
      | (refine QQ.loop_ret ?_)
      | (refine QQ.loop_exit ?_)
      | (refine WLA.st rfl ?_ ?_; first | exact trivial | exact rfl | assumption | omega | (refine ⟨?_, ?_⟩ <;> omega) | (simp only [Room, List.length_set, List.length_append, List.length_cons, List.length_nil, List.length_replicate]; omega) | decide | skip)
      | (refine WLA.x rfl rfl ?_ (fun x => ?_); first | exact trivial | exact rfl | assumption | omega | (refine ⟨?_, ?_⟩ <;> omega) | (simp only [Room, List.length_set, List.length_append, List.length_cons, List.length_nil, List.length_replicate]; omega) | decide | skip)
      | (refine WLA.x0 rfl ?_ (fun x => ?_); first | exact trivial | exact rfl | assumption | omega | (refine ⟨?_, ?_⟩ <;> omega) | (simp only [Room, List.length_set, List.length_append, List.length_cons, List.length_nil, List.length_replicate]; omega) | decide | skip)
      | (guard_target =~ WPA _ _ _ (.cond _ _ _) _ _ _; first | (refine WPA.ifT ?_) | (refine WPA.ifF ?_) | (refine WPA.ifYes ?_ ?_; (first | assumption | omega | (refine fun h => h ?_; assumption) | (simp only [List.length_append, List.length_cons, List.length_nil, List.length_set] <;> omega))) | (refine WPA.ifNo ?_ ?_; (first | assumption | omega | (refine fun h => h ?_; assumption) | (simp only [List.length_append, List.length_cons, List.length_nil, List.length_set] <;> omega))) | (refine WPA.ifBt ?_ ?_; assumption) | (refine WPA.ifBf ?_ ?_; assumption) | (refine WPA.ifBnt ?_ ?_; assumption) | (refine WPA.ifBnf ?_ ?_; assumption) | (refine WPA.ifs ?_ ?_ <;> intro hc) | (refine WPA.ifB ?_ ?_ <;> intro hc)))
    refine WPA.rangeS fun D rc hrc => ?_
    let P : HP := star (Ob (D + 1) (rc .busy none)) (star (Ob D (.deferred (some []))) (star (MarksH () ds) (Bk t2 58 [.func (.yield lb) #[] #[]])))
    have hfo : ∀ {L : List HP}, Ent (Ob (D + 1) (rc .busy none) :: Ob D (.deferred (some [])) :: MarksH () ds :: Bk t2 58 [.func (.yield lb) #[] #[]] :: L) (Fr () P :: L) := by
      intro L; unfold Fr
      exact Ent.star (Ent.trans (Ent.cons (Ent.trans (Ent.cons (Ent.star Ent.refl)) (Ent.star Ent.refl))) (Ent.cons Ent.refl))
    have hun : ∀ {L : List HP}, Ent (Fr () P :: L) (Ob (D + 1) (rc .busy none) :: Ob D (.deferred (some [])) :: MarksH () ds :: Bk t2 58 [.func (.yield lb) #[] #[]] :: L) := by
      intro L; unfold Fr
      exact Ent.unstar.trans (Ent.cons (Ent.unstar.trans (Ent.cons Ent.unstar)))
    refine ⟨{ y : τ // C y ∧ ix y = baseN gs n (j + 1) } ⊕ ω, fun _ => .tuple #[], fun y => match y with | .inl _ => .ready | .inr _ => .done, fun y => match y with | .inl _ => none | .inr _ => some .ret,
      fun y => match y with | .inl y => Ob D (.deferred (some [])) :: MarksH () ds :: Bk t2 58 [.func (.yield lb) #[] #[]] :: Lk y.1 | .inr z => Ob D (.deferred (some [])) :: MarksH () ds :: Bk t2 58 [.func (.yield lb) #[] #[]] :: Lz z, ?_, ?_⟩
    · refine (Grams1_tr (w0 := w0) (I := I) (own := o) (p := p) (n := n) (ω := ω) (fun y => Ob (D + 1) (rc .ready none) :: Ob D (.deferred (some [])) :: MarksH () ds :: Bk t2 58 [.func (.yield lb) #[] #[]] :: Lk y) (fun y => ix y - baseN gs n j) (fun y => C y ∧ baseN gs n j ≤ ix y ∧ ix y ≤ baseN gs n j + gramN p n)
        (fun z w => SL w0 I (Ob (D + 1) (rc .done (some .ret)) :: Ob D (.deferred (some [])) :: MarksH () ds :: Bk t2 58 [.func (.yield lb) #[] #[]] :: Lz z) w) hgl hnb ?_ ?_ x ⟨hCx, by omega, by omega⟩ (by omega)).conv (fun w h => h.to) ?_
      · rintro y ⟨h1, h2, h3⟩; omega
      · rintro g y ⟨h1, h2, h3⟩ hi
        have hlt2 : ix y < (eachL gs n).length := by omega
        have hge := heg (ix y - baseN gs n j) hi
        rw [show baseN gs n j + (ix y - baseN gs n j) = ix y by omega] at hge
        have hyy := hy P g y h1 hlt2
        rw [hge] at hyy
        have hyF : ∀ {L : List HP} [e : EntC L (OwnS 3 g (gramA p n (ix y - baseN gs n j)) :: Ob (D + 1) (rc .busy none) :: Ob D (.deferred (some [])) :: MarksH () ds :: Bk t2 58 [.func (.yield lb) #[] #[]] :: Lk y)], YTr Try.prog lb #[.slice g.a g.n g.cap] (SL w0 I L) (fun y : τ ⊕ ω => .bool y.isLeft)
            (fun y' w => match y' with | .inl x' => (C x' ∧ ix x' = ix y + 1) ∧ SL w0 I (Ob (D + 1) (rc .busy none) :: Ob D (.deferred (some [])) :: MarksH () ds :: Bk t2 58 [.func (.yield lb) #[] #[]] :: Lk x') w | .inr z => SL w0 I (Ob (D + 1) (rc .busy none) :: Ob D (.deferred (some [])) :: MarksH () ds :: Bk t2 58 [.func (.yield lb) #[] #[]] :: Lz z) w) := by
          intro L e
          refine hyy.conv (fun w h => (Ent.cons hfo).sl (e.out.sl h)) fun y' w hb => ⟨y', rfl, ?_⟩
          cases y' with
          | inl x' => exact ⟨hb.1, hun.sl hb.2⟩
          | inr z => exact hun.sl hb
        refine (YTr.ofS (val := fun y : τ ⊕ ω => y.isLeft) hrc (agreeP2 rfl rfl) rfl ?_)
        repeat' (first
          | (refine WLA.m rfl rfl ?_ ?_; first | exact trivial | exact rfl | assumption | omega | (refine ⟨?_, ?_⟩ <;> omega) | (simp only [Room, List.length_set, List.length_append, List.length_cons, List.length_nil, List.length_replicate]; omega) | decide | skip)
          | (refine WLA.nil ?_)
          | (refine WPA.region ?_)
          | (refine WPA.seq ?_)
          | (refine QQ.seq_normal ?_)
          | (refine WPA.skip ?_)
          | (refine WPA.block ?_)
          | (refine WPA.ret ?_)
          | (refine WPA.exit ?_)
          | (refine QQ.seq_ret ?_)
          | (refine QQ.seq_exit ?_)
          | (refine QQ.block_normal ?_)
          | (refine QQ.block_ret ?_)
          | (refine QQ.block_hit ?_)
          | (refine QQ.block_miss rfl ?_)
          | (refine QQ.loop_ret ?_)
          | (refine QQ.loop_exit ?_)
          | (refine WLA.st rfl ?_ ?_; first | exact trivial | exact rfl | assumption | omega | (refine ⟨?_, ?_⟩ <;> omega) | (simp only [Room, List.length_set, List.length_append, List.length_cons, List.length_nil, List.length_replicate]; omega) | decide | skip)
          | (refine WLA.x rfl rfl ?_ (fun x => ?_); first | exact trivial | exact rfl | assumption | omega | (refine ⟨?_, ?_⟩ <;> omega) | (simp only [Room, List.length_set, List.length_append, List.length_cons, List.length_nil, List.length_replicate]; omega) | decide | skip)
          | (refine WLA.x0 rfl ?_ (fun x => ?_); first | exact trivial | exact rfl | assumption | omega | (refine ⟨?_, ?_⟩ <;> omega) | (simp only [Room, List.length_set, List.length_append, List.length_cons, List.length_nil, List.length_replicate]; omega) | decide | skip)
          | (guard_target =~ WPA _ _ _ (.cond _ _ _) _ _ _; first | (refine WPA.ifT ?_) | (refine WPA.ifF ?_) | (refine WPA.ifYes ?_ ?_; (first | assumption | omega | (refine fun h => h ?_; assumption) | (simp only [List.length_append, List.length_cons, List.length_nil, List.length_set] <;> omega))) | (refine WPA.ifNo ?_ ?_; (first | assumption | omega | (refine fun h => h ?_; assumption) | (simp only [List.length_append, List.length_cons, List.length_nil, List.length_set] <;> omega))) | (refine WPA.ifBt ?_ ?_; assumption) | (refine WPA.ifBf ?_ ?_; assumption) | (refine WPA.ifBnt ?_ ?_; assumption) | (refine WPA.ifBnf ?_ ?_; assumption) | (refine WPA.ifs ?_ ?_ <;> intro hc) | (refine WPA.ifB ?_ ?_ <;> intro hc)))
        refine QQ.midS ?_
        repeat' (first
          | (refine WLA.m rfl rfl ?_ ?_; first | exact trivial | exact rfl | assumption | omega | (refine ⟨?_, ?_⟩ <;> omega) | (simp only [Room, List.length_set, List.length_append, List.length_cons, List.length_nil, List.length_replicate]; omega) | decide | skip)
          | (refine WLA.nil ?_)
          | (refine WPA.region ?_)
          | (refine WPA.seq ?_)
          | (refine QQ.seq_normal ?_)
          | (refine WPA.skip ?_)
          | (refine WPA.block ?_)
          | (refine WPA.ret ?_)
          | (refine WPA.exit ?_)
          | (refine QQ.seq_ret ?_)
          | (refine QQ.seq_exit ?_)
          | (refine QQ.block_normal ?_)
          | (refine QQ.block_ret ?_)
          | (refine QQ.block_hit ?_)
          | (refine QQ.block_miss rfl ?_)
          | (refine QQ.loop_ret ?_)
          | (refine QQ.loop_exit ?_)
          | (guard_target =~ WLA _ _ _ _ _ (⟨_, .call ⟨.value (.tmp _), _, _⟩, _, _, _, _⟩ :: _) _ _; refine WLA.yield rfl rfl (hyF) ?_; rintro (x' | z))
          | (refine WLA.st rfl ?_ ?_; first | exact trivial | exact rfl | assumption | omega | (refine ⟨?_, ?_⟩ <;> omega) | (simp only [Room, List.length_set, List.length_append, List.length_cons, List.length_nil, List.length_replicate]; omega) | decide | skip)
          | (refine WLA.x rfl rfl ?_ (fun x => ?_); first | exact trivial | exact rfl | assumption | omega | (refine ⟨?_, ?_⟩ <;> omega) | (simp only [Room, List.length_set, List.length_append, List.length_cons, List.length_nil, List.length_replicate]; omega) | decide | skip)
          | (refine WLA.x0 rfl ?_ (fun x => ?_); first | exact trivial | exact rfl | assumption | omega | (refine ⟨?_, ?_⟩ <;> omega) | (simp only [Room, List.length_set, List.length_append, List.length_cons, List.length_nil, List.length_replicate]; omega) | decide | skip)
          | (guard_target =~ WPA _ _ _ (.cond _ _ _) _ _ _; first | (refine WPA.ifT ?_) | (refine WPA.ifF ?_) | (refine WPA.ifYes ?_ ?_; (first | assumption | omega | (refine fun h => h ?_; assumption) | (simp only [List.length_append, List.length_cons, List.length_nil, List.length_set] <;> omega))) | (refine WPA.ifNo ?_ ?_; (first | assumption | omega | (refine fun h => h ?_; assumption) | (simp only [List.length_append, List.length_cons, List.length_nil, List.length_set] <;> omega))) | (refine WPA.ifBt ?_ ?_; assumption) | (refine WPA.ifBf ?_ ?_; assumption) | (refine WPA.ifBnt ?_ ?_; assumption) | (refine WPA.ifBnf ?_ ?_; assumption) | (refine WPA.ifs ?_ ?_ <;> intro hc) | (refine WPA.ifB ?_ ?_ <;> intro hc)))
        · refine QQ.pre fun hC' => ?_
          exact QQ.rndN (fun w h => ⟨.inl x', rfl, ⟨⟨hC'.1, by have := hC'.2; omega, by have := hC'.2; omega⟩, by have := hC'.2; omega⟩, h.to⟩)
        · dsimp only
          exact QQ.rndR (fun w h => ⟨.inr z, rfl, h.to⟩)
      · rintro (y | z) w hbb
        · exact ⟨.inl ⟨y, hbb.1.1.1, by have := hbb.1.2; have := hbb.1.1.2.1; omega⟩, rfl, hbb.2⟩
        · exact ⟨.inr z, rfl, hbb⟩
    · rintro (⟨y, hCy, hiy⟩ | z) <;> refine ⟨by simp, ?_⟩
      · show QQ _ _ _ _
        dsimp only
        repeat' (first
          | (refine WLA.m rfl rfl ?_ ?_; first | exact trivial | exact rfl | assumption | omega | (refine ⟨?_, ?_⟩ <;> omega) | (simp only [Room, List.length_set, List.length_append, List.length_cons, List.length_nil, List.length_replicate]; omega) | decide | skip)
          | (refine WLA.nil ?_)
          | (refine WPA.region ?_)
          | (refine WPA.seq ?_)
          | (refine QQ.seq_normal ?_)
          | (refine WPA.skip ?_)
          | (refine WPA.block ?_)
          | (refine WPA.ret ?_)
          | (refine WPA.exit ?_)
          | (refine QQ.seq_ret ?_)
          | (refine QQ.seq_exit ?_)
          | (refine QQ.block_normal ?_)
          | (refine QQ.block_ret ?_)
          | (refine QQ.block_hit ?_)
          | (refine QQ.block_miss rfl ?_)
          | (refine QQ.loop_ret ?_)
          | (refine QQ.loop_exit ?_)
          | (refine WLA.st rfl ?_ ?_; first | exact trivial | exact rfl | assumption | omega | (refine ⟨?_, ?_⟩ <;> omega) | (simp only [Room, List.length_set, List.length_append, List.length_cons, List.length_nil, List.length_replicate]; omega) | decide | skip)
          | (refine WLA.x rfl rfl ?_ (fun x => ?_); first | exact trivial | exact rfl | assumption | omega | (refine ⟨?_, ?_⟩ <;> omega) | (simp only [Room, List.length_set, List.length_append, List.length_cons, List.length_nil, List.length_replicate]; omega) | decide | skip)
          | (refine WLA.x0 rfl ?_ (fun x => ?_); first | exact trivial | exact rfl | assumption | omega | (refine ⟨?_, ?_⟩ <;> omega) | (simp only [Room, List.length_set, List.length_append, List.length_cons, List.length_nil, List.length_replicate]; omega) | decide | skip)
          | (guard_target =~ WPA _ _ _ (.cond _ _ _) _ _ _; first | (refine WPA.ifT ?_) | (refine WPA.ifF ?_) | (refine WPA.ifYes ?_ ?_; (first | assumption | omega | (refine fun h => h ?_; assumption) | (simp only [List.length_append, List.length_cons, List.length_nil, List.length_set] <;> omega))) | (refine WPA.ifNo ?_ ?_; (first | assumption | omega | (refine fun h => h ?_; assumption) | (simp only [List.length_append, List.length_cons, List.length_nil, List.length_set] <;> omega))) | (refine WPA.ifBt ?_ ?_; assumption) | (refine WPA.ifBf ?_ ?_; assumption) | (refine WPA.ifBnt ?_ ?_; assumption) | (refine WPA.ifBnf ?_ ?_; assumption) | (refine WPA.ifs ?_ ?_ <;> intro hc) | (refine WPA.ifB ?_ ?_ <;> intro hc)))
        exact QQ.loopD ⟨j + 1, D :: ds, y⟩ ⟨rfl, rfl, rfl, rfl, trivial⟩ ⟨hlt, hCy, hiy⟩ (by dsimp only; omega) (fun w h => MarksH.cons.sl h.to) rfl
      · show QQ _ _ _ _
        dsimp only
        repeat' (first
          | (refine WLA.m rfl rfl ?_ ?_; first | exact trivial | exact rfl | assumption | omega | (refine ⟨?_, ?_⟩ <;> omega) | (simp only [Room, List.length_set, List.length_append, List.length_cons, List.length_nil, List.length_replicate]; omega) | decide | skip)
          | (refine WLA.nil ?_)
          | (refine WPA.region ?_)
          | (refine WPA.seq ?_)
          | (refine QQ.seq_normal ?_)
          | (refine WPA.skip ?_)
          | (refine WPA.block ?_)
          | (refine WPA.ret ?_)
          | (refine WPA.exit ?_)
          | (refine QQ.seq_ret ?_)
          | (refine QQ.seq_exit ?_)
          | (refine QQ.block_normal ?_)
          | (refine QQ.block_ret ?_)
          | (refine QQ.block_hit ?_)
          | (refine QQ.block_miss rfl ?_)
          | (refine QQ.loop_ret ?_)
          | (refine QQ.loop_exit ?_)
          | (refine WLA.st rfl ?_ ?_; first | exact trivial | exact rfl | assumption | omega | (refine ⟨?_, ?_⟩ <;> omega) | (simp only [Room, List.length_set, List.length_append, List.length_cons, List.length_nil, List.length_replicate]; omega) | decide | skip)
          | (refine WLA.x rfl rfl ?_ (fun x => ?_); first | exact trivial | exact rfl | assumption | omega | (refine ⟨?_, ?_⟩ <;> omega) | (simp only [Room, List.length_set, List.length_append, List.length_cons, List.length_nil, List.length_replicate]; omega) | decide | skip)
          | (refine WLA.x0 rfl ?_ (fun x => ?_); first | exact trivial | exact rfl | assumption | omega | (refine ⟨?_, ?_⟩ <;> omega) | (simp only [Room, List.length_set, List.length_append, List.length_cons, List.length_nil, List.length_replicate]; omega) | decide | skip)
          | (guard_target =~ WPA _ _ _ (.cond _ _ _) _ _ _; first | (refine WPA.ifT ?_) | (refine WPA.ifF ?_) | (refine WPA.ifYes ?_ ?_; (first | assumption | omega | (refine fun h => h ?_; assumption) | (simp only [List.length_append, List.length_cons, List.length_nil, List.length_set] <;> omega))) | (refine WPA.ifNo ?_ ?_; (first | assumption | omega | (refine fun h => h ?_; assumption) | (simp only [List.length_append, List.length_cons, List.length_nil, List.length_set] <;> omega))) | (refine WPA.ifBt ?_ ?_; assumption) | (refine WPA.ifBf ?_ ?_; assumption) | (refine WPA.ifBnt ?_ ?_; assumption) | (refine WPA.ifBnf ?_ ?_; assumption) | (refine WPA.ifs ?_ ?_ <;> intro hc) | (refine WPA.ifB ?_ ?_ <;> intro hc)))
        exact QQ.fin (D :: ds) (L' := Lz z) rfl ((Ent.cons (Ent.cons Ent.drop1)).trans ((Ent.cons MarksH.out).trans Ent.refl)) rfl (.inr z) rfl fun w h => h
  · have hlt' : ¬ (j : Int) < fs.length := by omega
    have e : j = gs.length := by omega
    subst e
    rw [base_all] at hx
    repeat' (first
      | (refine WLA.m rfl rfl ?_ ?_; first | exact trivial | exact rfl | assumption | omega | (refine ⟨?_, ?_⟩ <;> omega) | (simp only [Room, List.length_set, List.length_append, List.length_cons, List.length_nil, List.length_replicate]; omega) | decide | skip)
      | (refine WLA.nil ?_)
      | (refine WPA.region ?_)
      | (refine WPA.seq ?_)
      | (refine QQ.seq_normal ?_)
      | (refine WPA.skip ?_)
      | (refine WPA.block ?_)
      | (refine WPA.ret ?_)
      | (refine WPA.exit ?_)
      | (refine QQ.seq_ret ?_)
      | (refine QQ.seq_exit ?_)
      | (refine QQ.block_normal ?_)
      | (refine QQ.block_ret ?_)
      | (refine QQ.block_hit ?_)
      | (refine QQ.block_miss rfl ?_)
      | (refine QQ.loop_ret ?_)
      | (refine QQ.loop_exit ?_)
      | (refine WLA.st rfl ?_ ?_; first | exact trivial | exact rfl | assumption | omega | (refine ⟨?_, ?_⟩ <;> omega) | (simp only [Room, List.length_set, List.length_append, List.length_cons, List.length_nil, List.length_replicate]; omega) | decide | skip)
      | (refine WLA.x rfl rfl ?_ (fun x => ?_); first | exact trivial | exact rfl | assumption | omega | (refine ⟨?_, ?_⟩ <;> omega) | (simp only [Room, List.length_set, List.length_append, List.length_cons, List.length_nil, List.length_replicate]; omega) | decide | skip)
      | (refine WLA.x0 rfl ?_ (fun x => ?_); first | exact trivial | exact rfl | assumption | omega | (refine ⟨?_, ?_⟩ <;> omega) | (simp only [Room, List.length_set, List.length_append, List.length_cons, List.length_nil, List.length_replicate]; omega) | decide | skip)
      | (guard_target =~ WPA _ _ _ (.cond _ _ _) _ _ _; first | (refine WPA.ifT ?_) | (refine WPA.ifF ?_) | (refine WPA.ifYes ?_ ?_; (first | assumption | omega | (refine fun h => h ?_; assumption) | (simp only [List.length_append, List.length_cons, List.length_nil, List.length_set] <;> omega))) | (refine WPA.ifNo ?_ ?_; (first | assumption | omega | (refine fun h => h ?_; assumption) | (simp only [List.length_append, List.length_cons, List.length_nil, List.length_set] <;> omega))) | (refine WPA.ifBt ?_ ?_; assumption) | (refine WPA.ifBf ?_ ?_; assumption) | (refine WPA.ifBnt ?_ ?_; assumption) | (refine WPA.ifBnf ?_ ?_; assumption) | (refine WPA.ifs ?_ ?_ <;> intro hc) | (refine WPA.ifB ?_ ?_ <;> intro hc)))
    exact QQ.finn ds (L' := Lk x) rfl ((Ent.cons Ent.drop1).trans MarksH.out) rfl (.inl x) rfl fun w h => ⟨⟨hCx, hx⟩, h⟩
end Go.Proofs.Ytlodbajaoadhdaa
