/- Texts that TallyStats_law leans on, part 16. Conditions: none. -/
import Derived.MapKept
import Derived.WideMake
import Derived.Shelf.Slices.In.SortNone
import Derived.Shelf.Sort.Plain
import Derived.Shelf.Slices.CompactI
import Derived.Shelf.Slices.SearchI
import Derived.Shelf.Slices.Empties
import Derived.Shelf.Strconv.Itoa0
import Derived.Test.YtamnobjdgjbmbaaGreatProg
import Derived.Test.YtamnobjdgjbmbaaGreatQs15
namespace Go.Proofs.YtamnobjdgjbmbaaGreat
open Go Go.Fw Go.RowKit
set_option linter.unusedVariables false
set_option linter.unusedSimpArgs false
set_option maxRecDepth 100000
set_option maxHeartbeats 16000000
set_option synthInstance.maxHeartbeats 200000
set_option synthInstance.maxSize 100000
attribute [local irreducible] WPA WLA WDA WDQ WDE QQ seqQ blockQ loopQ fnQ OpP OpT Tr TrP SL SLd OwnS LitS Bk BkE Ob
def Fr (_ : Unit) (p : HP) : HP := p
def baseN (gs : List (List Int)) (n : Int) (j : Nat) : Nat := (eachL (gs.take j) n).length
theorem each_split {gs : List (List Int)} {n : Int} {j : Nat} (hj : j < gs.length) : eachL gs n = eachL (gs.take j) n ++ (gramsL (gs.getD j []) n ++ eachL (gs.drop (j + 1)) n) := by
  have e : gs = gs.take j ++ (gs.getD j [] :: gs.drop (j + 1)) := by
    rw [List.getD_eq_getElem?_getD, List.getElem?_eq_getElem hj, Option.getD_some, List.getElem_cons_drop, List.take_append_drop]
  conv => lhs; rw [e]
  unfold eachL
  rw [List.flatMap_append, List.flatMap_cons]
theorem base_succ {gs : List (List Int)} {n : Int} {j : Nat} (hj : j < gs.length) : baseN gs n (j + 1) = baseN gs n j + gramN (gs.getD j []) n := by
  unfold baseN eachL
  rw [List.take_add_one, List.getElem?_eq_getElem hj, List.flatMap_append, List.length_append]
  simp [gramsL_len, List.getD_eq_getElem?_getD, hj]
theorem base_all (gs : List (List Int)) (n : Int) : baseN gs n gs.length = (eachL gs n).length := by unfold baseN; rw [List.take_length]
theorem base_le {gs : List (List Int)} {n : Int} {j : Nat} (hj : j < gs.length) : baseN gs n (j + 1) ≤ (eachL gs n).length := by
  rw [base_succ hj, each_split (n := n) hj, List.length_append, List.length_append, gramsL_len]
  show baseN gs n j + _ ≤ baseN gs n j + _
  omega
theorem each_get {gs : List (List Int)} {n : Int} {j i : Nat} (hj : j < gs.length) (hi : i < gramN (gs.getD j []) n) : (eachL gs n).getD (baseN gs n j + i) [] = gramA (gs.getD j []) n i := by
  rw [each_split (n := n) hj, List.getD_eq_getElem?_getD, List.getElem?_append_right (by unfold baseN; omega), show baseN gs n j + i - (eachL (gs.take j) n).length = i by unfold baseN; omega, List.getElem?_append_left (by rw [gramsL_len]; exact hi), ← List.getD_eq_getElem?_getD]
  exact gramsL_get hi
attribute [local irreducible] Fr MarksH
structure EJ (τ : Type) where
  j : Nat
  ds : List Nat
  x : τ
theorem Each1_tr {b lb : Nat} {gs : List (List Int)} {n : Int} {τ ω : Type} {w0 : World} {I : Foot} (Lk : τ → List HP) (ix : τ → Nat) (C : τ → Prop) (Lz : ω → List HP) (hE : EaI I b gs n) (hl : ∀ g ∈ gs, g.length ≤ 1000000) (hnb : n ≤ 9223372036854775807) (hgs : gs.length ≤ 1000)
    (hy : ∀ (p : HP) (g : SV) (x : τ), C x → ix x < (eachL gs n).length → YTr Tryz.prog lb #[.slice g.a g.n g.cap] (SL w0 I (OwnS 3 g ((eachL gs n).getD (ix x) []) :: Fr () p :: Lk x)) (fun y : τ ⊕ ω => .bool y.isLeft)
      (fun y w => match y with | .inl x' => (C x' ∧ ix x' = ix x + 1) ∧ SL w0 I (Fr () p :: Lk x') w | .inr z => SL w0 I (Fr () p :: Lz z) w))
    (x0 : τ) (hC : C x0) (h0 : ix x0 = 0) :
    Tr Tryz.prog 91 #[.func (.yield lb) #[] #[], .pointer (some ⟨b, 0, none⟩)] (SL w0 I (Lk x0)) (fun _ : τ ⊕ ω => .tuple #[])
      (fun y w => match y with | .inl x' => (C x' ∧ ix x' = (eachL gs n).length) ∧ SL w0 I (Lk x') w | .inr z => SL w0 I (Lz z) w) := by
  obtain ⟨own, fs, hb, hown, hfl, hf⟩ := hE
  refine Tr.intro Tryz.func91 rfl Tryz.ntmps91 rfl ?_
  repeat' (first | ((first | refine WLA.m rfl rfl ?_ ?_ | refine WLA.st rfl ?_ ?_ | refine WLA.x rfl rfl ?_ (fun x => ?_) | refine WLA.x0 rfl ?_ (fun x => ?_)); first | exact trivial | exact rfl | assumption | omega | (refine ⟨?_, ?_⟩ <;> omega) | (simp only [Room, lenS]; omega) | decide | skip) | (refine Stp.go ?_) | (refine WPA.ifT ?_) | (refine WPA.ifF ?_) | ((first | refine WPA.dec ?_); first | refine .inl ⟨by first | assumption | omega | with_reducible rfl | (refine fun h => h ?_; first | assumption | with_reducible rfl) | (simp only [lenS] <;> omega) | decide, ?_⟩ | refine .inr ⟨by first | assumption | omega | with_reducible rfl | (refine fun h => h ?_; first | assumption | with_reducible rfl) | (simp only [lenS] <;> omega) | decide, ?_⟩) | ((first | refine WPA.ifBt ?_ ?_ | refine WPA.ifBnf ?_ ?_); assumption) | ((first | refine WPA.ifBnt ?_ ?_ | refine WPA.ifBf ?_ ?_); assumption) | ((first | refine WPA.ifs ?_ ?_ | refine WPA.ifB ?_ ?_) <;> intro hc))
  revert x; intro t2
  refine WPA.loopD (σ := EJ τ) (fun y => y.ds) (fun y => [(2, .pointer (some ⟨t2, 0, none⟩)), (7, .slice own.a own.n own.cap), (8, .int .i64 fs.length), (9, .int .i64 y.j)])
    (fun y => y.j ≤ gs.length ∧ C y.x ∧ ix y.x = baseN gs n y.j) (fun y => SL w0 I (MarksH () y.ds :: Bk t2 171 [.func (.yield lb) #[] #[]] :: Lk y.x)) (fun y => gs.length - y.j) ⟨0, [], x0⟩ ⟨rfl, rfl, rfl, rfl, trivial⟩ ⟨Nat.zero_le _, hC, by rw [h0]; rfl⟩ (fun w h => MarksH.nil.sl h) ?_ rfl
  rintro ⟨j, ds, x⟩ ρ ⟨hj, hCx, hx⟩
  dsimp only at hj hCx hx ⊢
  by_cases hlt : j < gs.length
  · have hlt' : (j : Int) < fs.length := by omega
    obtain ⟨bn, bo, o, hv, i1, i2, i3⟩ := hf j (by omega)
    have hgl : (gs.getD j []).length ≤ 1000000 := by
      rw [List.getD_eq_getElem?_getD, List.getElem?_eq_getElem hlt]; exact hl _ (List.getElem_mem _)
    have hbs := base_succ (n := n) hlt
    have hbl := base_le (n := n) hlt
    have heg : ∀ i, i < gramN (gs.getD j []) n → (eachL gs n).getD (baseN gs n j + i) [] = gramA (gs.getD j []) n i := fun i hi => each_get hlt hi
    generalize gs.getD j [] = p at i3 hgl hbs heg
    repeat' ((fail_if_success (guard_target =~ WPA _ _ _ (.region 4 _ _) _ _ _)); first | ((first | refine WLA.m rfl rfl ?_ ?_ | refine WLA.st rfl ?_ ?_ | refine WLA.x rfl rfl ?_ (fun x => ?_) | refine WLA.x0 rfl ?_ (fun x => ?_)); first | exact trivial | exact rfl | assumption | omega | (refine ⟨?_, ?_⟩ <;> omega) | (simp only [Room, lenS]; omega) | decide | skip) | (refine Stp.go ?_) | (refine WPA.ifT ?_) | (refine WPA.ifF ?_) | ((first | refine WPA.dec ?_); first | refine .inl ⟨by first | assumption | omega | with_reducible rfl | (refine fun h => h ?_; first | assumption | with_reducible rfl) | (simp only [lenS] <;> omega) | decide, ?_⟩ | refine .inr ⟨by first | assumption | omega | with_reducible rfl | (refine fun h => h ?_; first | assumption | with_reducible rfl) | (simp only [lenS] <;> omega) | decide, ?_⟩) | ((first | refine WPA.ifBt ?_ ?_ | refine WPA.ifBnf ?_ ?_); assumption) | ((first | refine WPA.ifBnt ?_ ?_ | refine WPA.ifBf ?_ ?_); assumption) | ((first | refine WPA.ifs ?_ ?_ | refine WPA.ifB ?_ ?_) <;> intro hc))
    rw [hv]
    repeat' (first | ((first | refine WLA.m rfl rfl ?_ ?_ | refine WLA.st rfl ?_ ?_ | refine WLA.x rfl rfl ?_ (fun x => ?_) | refine WLA.x0 rfl ?_ (fun x => ?_)); first | exact trivial | exact rfl | assumption | omega | (refine ⟨?_, ?_⟩ <;> omega) | (simp only [Room, lenS]; omega) | decide | skip) | (refine Stp.go ?_) | (refine WPA.ifT ?_) | (refine WPA.ifF ?_) | ((first | refine WPA.dec ?_); first | refine .inl ⟨by first | assumption | omega | with_reducible rfl | (refine fun h => h ?_; first | assumption | with_reducible rfl) | (simp only [lenS] <;> omega) | decide, ?_⟩ | refine .inr ⟨by first | assumption | omega | with_reducible rfl | (refine fun h => h ?_; first | assumption | with_reducible rfl) | (simp only [lenS] <;> omega) | decide, ?_⟩) | ((first | refine WPA.ifBt ?_ ?_ | refine WPA.ifBnf ?_ ?_); assumption) | ((first | refine WPA.ifBnt ?_ ?_ | refine WPA.ifBf ?_ ?_); assumption) | ((first | refine WPA.ifs ?_ ?_ | refine WPA.ifB ?_ ?_) <;> intro hc))
    refine WPA.rangeS fun D rc hrc => ?_
    let P : HP := star (Ob (D + 1) (rc .busy none)) (star (Ob D (.deferred (some []))) (star (MarksH () ds) (Bk t2 171 [.func (.yield lb) #[] #[]])))
    have hfo : ∀ {L : List HP}, Ent (Ob (D + 1) (rc .busy none) :: Ob D (.deferred (some [])) :: MarksH () ds :: Bk t2 171 [.func (.yield lb) #[] #[]] :: L) (Fr () P :: L) := by
      intro L; unfold Fr
      exact Ent.star (Ent.trans (Ent.cons (Ent.trans (Ent.cons (Ent.star Ent.refl)) (Ent.star Ent.refl))) (Ent.cons Ent.refl))
    have hun : ∀ {L : List HP}, Ent (Fr () P :: L) (Ob (D + 1) (rc .busy none) :: Ob D (.deferred (some [])) :: MarksH () ds :: Bk t2 171 [.func (.yield lb) #[] #[]] :: L) := by
      intro L; unfold Fr
      exact Ent.unstar.trans (Ent.cons (Ent.unstar.trans (Ent.cons Ent.unstar)))
    refine ⟨{ y : τ // C y ∧ ix y = baseN gs n (j + 1) } ⊕ ω, fun _ => .tuple #[], fun y => match y with | .inl _ => .ready | .inr _ => .done, fun y => match y with | .inl _ => none | .inr _ => some .ret,
      fun y => match y with | .inl y => Ob D (.deferred (some [])) :: MarksH () ds :: Bk t2 171 [.func (.yield lb) #[] #[]] :: Lk y.1 | .inr z => Ob D (.deferred (some [])) :: MarksH () ds :: Bk t2 171 [.func (.yield lb) #[] #[]] :: Lz z, ?_, ?_⟩
    · refine (Grams1_tr (w0 := w0) (I := I) (own := o) (p := p) (n := n) (ω := ω) (fun y => Ob (D + 1) (rc .ready none) :: Ob D (.deferred (some [])) :: MarksH () ds :: Bk t2 171 [.func (.yield lb) #[] #[]] :: Lk y) (fun y => ix y - baseN gs n j) (fun y => C y ∧ baseN gs n j ≤ ix y ∧ ix y ≤ baseN gs n j + gramN p n)
        (fun z w => SL w0 I (Ob (D + 1) (rc .done (some .ret)) :: Ob D (.deferred (some [])) :: MarksH () ds :: Bk t2 171 [.func (.yield lb) #[] #[]] :: Lz z) w) hgl hnb ?_ ?_ x ⟨hCx, by omega, by omega⟩ (by omega)).conv (fun w h => h.to) ?_
      · rintro y ⟨h1, h2, h3⟩; omega
      · rintro g y ⟨h1, h2, h3⟩ hi
        have hlt2 : ix y < (eachL gs n).length := by omega
        have hge := heg (ix y - baseN gs n j) hi
        rw [show baseN gs n j + (ix y - baseN gs n j) = ix y by omega] at hge
        have hyy := hy P g y h1 hlt2
        rw [hge] at hyy
        have hyF : ∀ {L : List HP} [e : EntC L (OwnS 3 g (gramA p n (ix y - baseN gs n j)) :: Ob (D + 1) (rc .busy none) :: Ob D (.deferred (some [])) :: MarksH () ds :: Bk t2 171 [.func (.yield lb) #[] #[]] :: Lk y)], YTr Tryz.prog lb #[.slice g.a g.n g.cap] (SL w0 I L) (fun y : τ ⊕ ω => .bool y.isLeft)
            (fun y' w => match y' with | .inl x' => (C x' ∧ ix x' = ix y + 1) ∧ SL w0 I (Ob (D + 1) (rc .busy none) :: Ob D (.deferred (some [])) :: MarksH () ds :: Bk t2 171 [.func (.yield lb) #[] #[]] :: Lk x') w | .inr z => SL w0 I (Ob (D + 1) (rc .busy none) :: Ob D (.deferred (some [])) :: MarksH () ds :: Bk t2 171 [.func (.yield lb) #[] #[]] :: Lz z) w) := by
          intro L e
          refine hyy.conv (fun w h => (Ent.cons hfo).sl (e.out.sl h)) fun y' w hb => ⟨y', rfl, ?_⟩
          cases y' with
          | inl x' => exact ⟨hb.1, hun.sl hb.2⟩
          | inr z => exact hun.sl hb
        refine (YTr.ofS (val := fun y : τ ⊕ ω => y.isLeft) hrc (agreeP2 rfl rfl) rfl ?_)
        repeat' (first | ((first | refine WLA.m rfl rfl ?_ ?_ | refine WLA.st rfl ?_ ?_ | refine WLA.x rfl rfl ?_ (fun x => ?_) | refine WLA.x0 rfl ?_ (fun x => ?_)); first | exact trivial | exact rfl | assumption | omega | (refine ⟨?_, ?_⟩ <;> omega) | (simp only [Room, lenS]; omega) | decide | skip) | (refine Stp.go ?_) | (refine WPA.ifT ?_) | (refine WPA.ifF ?_) | ((first | refine WPA.dec ?_); first | refine .inl ⟨by first | assumption | omega | with_reducible rfl | (refine fun h => h ?_; first | assumption | with_reducible rfl) | (simp only [lenS] <;> omega) | decide, ?_⟩ | refine .inr ⟨by first | assumption | omega | with_reducible rfl | (refine fun h => h ?_; first | assumption | with_reducible rfl) | (simp only [lenS] <;> omega) | decide, ?_⟩) | ((first | refine WPA.ifBt ?_ ?_ | refine WPA.ifBnf ?_ ?_); assumption) | ((first | refine WPA.ifBnt ?_ ?_ | refine WPA.ifBf ?_ ?_); assumption) | ((first | refine WPA.ifs ?_ ?_ | refine WPA.ifB ?_ ?_) <;> intro hc))
        refine QQ.midS ?_
        repeat' (first | ((first | refine WLA.m rfl rfl ?_ ?_ | refine WLA.st rfl ?_ ?_ | refine WLA.x rfl rfl ?_ (fun x => ?_) | refine WLA.x0 rfl ?_ (fun x => ?_)); first | exact trivial | exact rfl | assumption | omega | (refine ⟨?_, ?_⟩ <;> omega) | (simp only [Room, lenS]; omega) | decide | skip) | (refine Stp.go ?_) | (guard_target =~ WLA _ _ _ _ _ (⟨_, .call ⟨.value (.tmp _), _, _⟩, _, _, _, _⟩ :: _) _ _; refine WLA.yield rfl rfl (hyF) ?_; rintro (x' | z)) | (refine WPA.ifT ?_) | (refine WPA.ifF ?_) | ((first | refine WPA.dec ?_); first | refine .inl ⟨by first | assumption | omega | with_reducible rfl | (refine fun h => h ?_; first | assumption | with_reducible rfl) | (simp only [lenS] <;> omega) | decide, ?_⟩ | refine .inr ⟨by first | assumption | omega | with_reducible rfl | (refine fun h => h ?_; first | assumption | with_reducible rfl) | (simp only [lenS] <;> omega) | decide, ?_⟩) | ((first | refine WPA.ifBt ?_ ?_ | refine WPA.ifBnf ?_ ?_); assumption) | ((first | refine WPA.ifBnt ?_ ?_ | refine WPA.ifBf ?_ ?_); assumption) | ((first | refine WPA.ifs ?_ ?_ | refine WPA.ifB ?_ ?_) <;> intro hc))
        · refine QQ.pre fun hC' => ?_
          exact QQ.rndN (fun w h => ⟨.inl x', rfl, ⟨⟨hC'.1, by have := hC'.2; omega, by have := hC'.2; omega⟩, by have := hC'.2; omega⟩, h.to⟩)
        · dsimp only
          exact QQ.rndR (fun w h => ⟨.inr z, rfl, h.to⟩)
      · rintro (y | z) w hbb
        · exact ⟨.inl ⟨y, hbb.1.1.1, by have := hbb.1.2; have := hbb.1.1.2.1; omega⟩, rfl, hbb.2⟩
        · exact ⟨.inr z, rfl, hbb⟩
    · rintro (⟨y, hCy, hiy⟩ | z) <;> refine ⟨by simp, ?_⟩
      · show QQ _ _ _ _
        dsimp only
        repeat' (first | ((first | refine WLA.m rfl rfl ?_ ?_ | refine WLA.st rfl ?_ ?_ | refine WLA.x rfl rfl ?_ (fun x => ?_) | refine WLA.x0 rfl ?_ (fun x => ?_)); first | exact trivial | exact rfl | assumption | omega | (refine ⟨?_, ?_⟩ <;> omega) | (simp only [Room, lenS]; omega) | decide | skip) | (refine Stp.go ?_) | (refine WPA.ifT ?_) | (refine WPA.ifF ?_) | ((first | refine WPA.dec ?_); first | refine .inl ⟨by first | assumption | omega | with_reducible rfl | (refine fun h => h ?_; first | assumption | with_reducible rfl) | (simp only [lenS] <;> omega) | decide, ?_⟩ | refine .inr ⟨by first | assumption | omega | with_reducible rfl | (refine fun h => h ?_; first | assumption | with_reducible rfl) | (simp only [lenS] <;> omega) | decide, ?_⟩) | ((first | refine WPA.ifBt ?_ ?_ | refine WPA.ifBnf ?_ ?_); assumption) | ((first | refine WPA.ifBnt ?_ ?_ | refine WPA.ifBf ?_ ?_); assumption) | ((first | refine WPA.ifs ?_ ?_ | refine WPA.ifB ?_ ?_) <;> intro hc))
        exact QQ.loopD ⟨j + 1, D :: ds, y⟩ ⟨rfl, rfl, rfl, rfl, trivial⟩ ⟨hlt, hCy, hiy⟩ (by dsimp only; omega) (fun w h => MarksH.cons.sl h.to) rfl
      · show QQ _ _ _ _
        dsimp only
        repeat' (first | ((first | refine WLA.m rfl rfl ?_ ?_ | refine WLA.st rfl ?_ ?_ | refine WLA.x rfl rfl ?_ (fun x => ?_) | refine WLA.x0 rfl ?_ (fun x => ?_)); first | exact trivial | exact rfl | assumption | omega | (refine ⟨?_, ?_⟩ <;> omega) | (simp only [Room, lenS]; omega) | decide | skip) | (refine Stp.go ?_) | (refine WPA.ifT ?_) | (refine WPA.ifF ?_) | ((first | refine WPA.dec ?_); first | refine .inl ⟨by first | assumption | omega | with_reducible rfl | (refine fun h => h ?_; first | assumption | with_reducible rfl) | (simp only [lenS] <;> omega) | decide, ?_⟩ | refine .inr ⟨by first | assumption | omega | with_reducible rfl | (refine fun h => h ?_; first | assumption | with_reducible rfl) | (simp only [lenS] <;> omega) | decide, ?_⟩) | ((first | refine WPA.ifBt ?_ ?_ | refine WPA.ifBnf ?_ ?_); assumption) | ((first | refine WPA.ifBnt ?_ ?_ | refine WPA.ifBf ?_ ?_); assumption) | ((first | refine WPA.ifs ?_ ?_ | refine WPA.ifB ?_ ?_) <;> intro hc))
        exact QQ.fin (D :: ds) (L' := Lz z) rfl ((Ent.cons (Ent.cons Ent.drop1)).trans ((Ent.cons MarksH.out).trans Ent.refl)) rfl (.inr z) rfl fun w h => h
  · have hlt' : ¬ (j : Int) < fs.length := by omega
    have e : j = gs.length := by omega
    subst e
    rw [base_all] at hx
    repeat' (first | ((first | refine WLA.m rfl rfl ?_ ?_ | refine WLA.st rfl ?_ ?_ | refine WLA.x rfl rfl ?_ (fun x => ?_) | refine WLA.x0 rfl ?_ (fun x => ?_)); first | exact trivial | exact rfl | assumption | omega | (refine ⟨?_, ?_⟩ <;> omega) | (simp only [Room, lenS]; omega) | decide | skip) | (refine Stp.go ?_) | (refine WPA.ifT ?_) | (refine WPA.ifF ?_) | ((first | refine WPA.dec ?_); first | refine .inl ⟨by first | assumption | omega | with_reducible rfl | (refine fun h => h ?_; first | assumption | with_reducible rfl) | (simp only [lenS] <;> omega) | decide, ?_⟩ | refine .inr ⟨by first | assumption | omega | with_reducible rfl | (refine fun h => h ?_; first | assumption | with_reducible rfl) | (simp only [lenS] <;> omega) | decide, ?_⟩) | ((first | refine WPA.ifBt ?_ ?_ | refine WPA.ifBnf ?_ ?_); assumption) | ((first | refine WPA.ifBnt ?_ ?_ | refine WPA.ifBf ?_ ?_); assumption) | ((first | refine WPA.ifs ?_ ?_ | refine WPA.ifB ?_ ?_) <;> intro hc))
    exact QQ.finn ds (L' := Lk x) rfl ((Ent.cons Ent.drop1).trans MarksH.out) rfl (.inl x) rfl fun w h => ⟨⟨hCx, hx⟩, h⟩
end Go.Proofs.YtamnobjdgjbmbaaGreat
namespace Go.Fw
open Go Go.RowKit Go.MapKept
set_option linter.unusedVariables false
set_option linter.unusedSimpArgs false
structure Keyed (es : Array MapEntry) (f : Int → Int) : Prop where
  key : ∀ (i : Nat) (e : MapEntry), es[i]? = some e → ∃ k, e.key = .int .i64 k ∧ e.val = .int .i64 (f k)
  inj : ∀ (i j : Nat) (e e' : MapEntry), es[i]? = some e → es[j]? = some e' → e.key = e'.key → i = j
  out : ∀ k : Int, (∀ (i : Nat) (e : MapEntry), es[i]? = some e → e.key ≠ .int .i64 k) → f k = 0
theorem Keyed.nil : Keyed #[] (fun _ => 0) := ⟨fun i e h => by simp at h, fun i j e e' h => by simp at h, fun k h => rfl⟩
def setF (f : Int → Int) (k v : Int) : Int → Int := fun j => if j = k then v else f j
theorem Keyed.push {es : Array MapEntry} {f : Int → Int} (h : Keyed es f) {k v : Int} {c : Nat} (hn : ∀ (i : Nat) (e : MapEntry), es[i]? = some e → e.key ≠ .int .i64 k) : Keyed (es.push { key := .int .i64 k, val := .int .i64 v, born := c }) (setF f k v) := by
  have hp : ∀ (i : Nat) (e : MapEntry), (es.push { key := .int .i64 k, val := .int .i64 v, born := c })[i]? = some e → (i < es.size ∧ es[i]? = some e) ∨ (i = es.size ∧ e = { key := .int .i64 k, val := .int .i64 v, born := c }) := by
    intro i e hi
    rw [Array.getElem?_push] at hi
    split at hi
    · rename_i e1; exact .inr ⟨e1, (Option.some.inj hi).symm⟩
    · exact .inl ⟨(Array.getElem?_eq_some_iff.1 hi).1, hi⟩
  refine ⟨fun i e hi => ?_, fun i j e e' hi hj he => ?_, fun j hj => ?_⟩
  · rcases hp i e hi with ⟨_, h1⟩ | ⟨_, rfl⟩
    · obtain ⟨q, h2, h3⟩ := h.key i e h1
      have hq : q ≠ k := fun e1 => hn i e h1 (by rw [h2, e1])
      exact ⟨q, h2, by rw [h3, setF, if_neg hq]⟩
    · exact ⟨k, rfl, by rw [setF, if_pos rfl]⟩
  · rcases hp i e hi with ⟨h1, h2⟩ | ⟨h1, rfl⟩ <;> rcases hp j e' hj with ⟨h3, h4⟩ | ⟨h3, rfl⟩
    · exact h.inj i j e e' h2 h4 he
    · exact absurd he (hn i e h2)
    · exact absurd he.symm (hn j e' h4)
    · omega
  · have hjk : j ≠ k := fun e1 => by
      subst e1
      exact hj es.size _ (by rw [Array.getElem?_push, if_pos rfl]) rfl
    rw [setF, if_neg hjk]
    refine h.out j fun i e hi => hj i e ?_
    rw [Array.getElem?_push, if_neg]
    · exact hi
    · have := (Array.getElem?_eq_some_iff.1 hi).1; omega
theorem Keyed.upd {es : Array MapEntry} {f : Int → Int} (h : Keyed es f) {k v : Int} {j : Nat} {e0 : MapEntry} (hj : es[j]? = some e0) (hk : e0.key = .int .i64 k) : Keyed (es.modify j fun e => { e with key := .int .i64 k, val := .int .i64 v }) (setF f k v) := by
  have hp : ∀ (i : Nat) (e : MapEntry), (es.modify j fun e => { e with key := .int .i64 k, val := .int .i64 v })[i]? = some e → (i ≠ j ∧ es[i]? = some e) ∨ (i = j ∧ e.key = .int .i64 k ∧ e.val = .int .i64 v) := by
    intro i e hi
    rw [Array.getElem?_modify] at hi
    split at hi
    · rename_i e1
      subst e1
      rw [hj] at hi
      have := Option.some.inj hi
      subst this
      exact .inr ⟨rfl, rfl, rfl⟩
    · rename_i e1; exact .inl ⟨fun e2 => e1 e2.symm, hi⟩
  refine ⟨fun i e hi => ?_, fun i i' e e' hi hi' he => ?_, fun q hq => ?_⟩
  · rcases hp i e hi with ⟨h0, h1⟩ | ⟨_, h1, h2⟩
    · obtain ⟨q, h2, h3⟩ := h.key i e h1
      have hq : q ≠ k := fun e1 => h0 (h.inj i j e e0 h1 hj (by rw [h2, hk, e1]))
      exact ⟨q, h2, by rw [h3, setF, if_neg hq]⟩
    · exact ⟨k, h1, by rw [h2, setF, if_pos rfl]⟩
  · rcases hp i e hi with ⟨h0, h1⟩ | ⟨h0, h1, _⟩ <;> rcases hp i' e' hi' with ⟨h3, h4⟩ | ⟨h3, h4, _⟩
    · exact h.inj i i' e e' h1 h4 he
    · exact absurd (h.inj i j e e0 h1 hj (by rw [he, h4, hk])) h0
    · exact absurd (h.inj i' j e' e0 h4 hj (by rw [← he, h1, hk])) h3
    · omega
  · have hqk : q ≠ k := fun e1 => by
      subst e1
      exact hq j { e0 with key := .int .i64 q, val := .int .i64 v } (by rw [Array.getElem?_modify, if_pos rfl, hj]; rfl) rfl
    rw [setF, if_neg hqk]
    refine h.out q fun i e hi => ?_
    by_cases e1 : i = j
    · subst e1
      rw [hj] at hi
      rw [← Option.some.inj hi, hk]
      intro e2; injection e2 with _ e2; exact hqk e2.symm
    · exact hq i e (by rw [Array.getElem?_modify, if_neg (fun e2 => e1 e2.symm)]; exact hi)
def MapH (r : Nat) (f : Int → Int) : HP := fun R => ∃ es clock, Keyed es f ∧ R = [(r, .map es clock)]
theorem SL.map {w0 w : World} {I : Foot} {L : List HP} {r : Nat} {f : Int → Int} (h : SL w0 I (MapH r f :: L) w) : ∃ es clock, Keyed es f ∧ w.heap[r]? = some (.map es clock) := by
  obtain ⟨R, ⟨es, clock, hk, rfl⟩, hm⟩ := h.heap
  exact ⟨es, clock, hk, hm _ _ (List.mem_singleton.2 rfl)⟩
theorem Keyed.find {es : Array MapEntry} {f : Int → Int} (h : Keyed es f) (k : Int) :
    (Instr.findNow (.int .i64) (.int .i64 k) es.toList 0 = some none ∧ ∀ (i : Nat) (e : MapEntry), es[i]? = some e → e.key ≠ .int .i64 k) ∨ ∃ j e, Instr.findNow (.int .i64) (.int .i64 k) es.toList 0 = some (some (j, e.val)) ∧ es[j]? = some e ∧ e.key = .int .i64 k := by
  have hks : ∀ x ∈ es.toList, IsKey (.int .i64) x.key := fun x hx => by
    obtain ⟨i, hi, e⟩ := List.mem_iff_getElem.1 hx
    obtain ⟨q, h1, _⟩ := h.key i x (by rw [← e, Array.getElem_toList, Array.getElem?_eq_getElem])
    rw [h1]; rfl
  rcases findNow_spec (d := .int .i64) (k := .int .i64 k) rfl es.toList 0 hks with ⟨h1, h2⟩ | ⟨j, e, h1, h2, h3⟩
  · exact .inl ⟨h1, fun i e hi => h2 e (by rw [Array.mem_toList_iff]; exact Array.mem_of_getElem? hi)⟩
  · refine .inr ⟨j, e, by rw [h1, Nat.zero_add], ?_, h3⟩
    rw [Array.getElem?_toList] at h2; exact h2
class ZeroV (P : Program) (t : TypeId) (v : Value) : Prop where
  out : (P.info? t).bind (·.zero) = some v
theorem ZeroV.run {P : Program} {t : TypeId} {v : Value} (h : ZeroV P t v) {w : World} : (zeroValue t).run P w = .ok v w := by
  obtain ⟨i, h1, h2⟩ := Option.bind_eq_some_iff.1 h.out
  simp [zeroValue, typeInfo, h1, h2, Result.andThen, go_sem]
section
variable {P : Program} {ρ : Env} {A : World → Prop} {ty : TypeId} {w0 : World} {I : Foot} {L : List HP}
instance {t : TypeId} [hA : InSL A w0 I L] : OpE P ρ A (.makeMap t none) ty Nat (fun r => .map (some r)) (fun r => SL w0 I (MapH r (fun _ => 0) :: L)) True := ⟨fun _ => OpT.sl fun w hw d pos af g => by
  have e : (execOp (evalE ρ) ⟨d, .makeMap t none, ty, pos, af, g⟩).run P w = .ok (.value (.map (some w.heap.size))) (w.alloc (.map #[] 0)) := by
    simp [execOp, run_makeMap_plain, Result.andThen, go_sem]
  rw [e]
  exact ⟨w.heap.size, rfl, hw.push _ _ ⟨#[], 0, Keyed.nil, rfl⟩⟩⟩
instance {t kt et : TypeId} {x y : Operand} {r : Nat} {k : Int} {f : Int → Int} {L' : List HP} [hx : Ev ρ x (.map (some r))] [hy : Ev ρ y (.int .i64 k)] [ht : Und P t (.map kt et)] [hk : Und P kt (.int .i64)] [hz : ZeroV P et (.int .i64 0)] [hA : InSL A w0 I L] [hm : FindK L MapH r f L'] :
    OpM P ρ A (.lookup t x y false) ty (.int .i64 (f k)) True := ⟨fun _ => OpP.at fun w hw => by
  obtain ⟨es, clock, hK, hb⟩ := (hm.out.sl (hA.out w hw)).map
  intro d pos af g u hu
  subst hu
  have hkk : IsKey (.int .i64) (.int .i64 k) := rfl
  rcases hK.find k with ⟨h1, h2⟩ | ⟨j, e, h1, h2, h3⟩
  · have h0 := hK.out k h2
    simp [execOp, Instr.lookup, hx.out, hy.out, run_underlying ht.out, Go.MapKept.run_getObj_map hb, run_checkKey hk.out hkk, run_findKey hk.out h1, Result.andThen, go_sem, hz.run, h0]
  · obtain ⟨q, h4, h5⟩ := hK.key j e h2
    have hq : q = k := by rw [h3] at h4; injection h4 with _ h4; exact h4.symm
    subst hq
    simp [execOp, Instr.lookup, hx.out, hy.out, run_underlying ht.out, Go.MapKept.run_getObj_map hb, run_checkKey hk.out hkk, run_findKey hk.out h1, Result.andThen, go_sem, h5]⟩
instance {t kt et : TypeId} {x y z : Operand} {r : Nat} {k v : Int} {f : Int → Int} {L' : List HP} [hx : Ev ρ x (.map (some r))] [hy : Ev ρ y (.int .i64 k)] [hz : Ev ρ z (.int .i64 v)] [ht : Und P t (.map kt et)] [hk : Und P kt (.int .i64)] [hA : InSL A w0 I L] [hm : FindK L MapH r f L'] :
    OpS P ρ A (.mapUpdate t x y z) ty (SL w0 I (MapH r (setF f k v) :: L')) True := ⟨fun _ => OpT.slS fun w hw d pos af g => by
  obtain ⟨H, R, Rs, h1, ⟨es, clock, hK, rfl⟩, h3, h4⟩ := (hm.out.sl hw).uncons
  have hb : w.heap[r]? = some (.map es clock) := h4.at_ (j := 0) rfl
  have hkk : IsKey (.int .i64) (.int .i64 k) := rfl
  have fin : ∀ (es' : Array MapEntry) (clock' : Nat), Keyed es' (setF f k v) → SL w0 I (MapH r (setF f k v) :: L') (w.putObj r (.map es' clock')) := fun es' clock' hk' => SL.cons h1 (R := [(r, .map es' clock')]) ⟨es', clock', hk', rfl⟩ h3 (h4.putObj _)
  rcases hK.find k with ⟨h5, h6⟩ | ⟨j, e, h5, h6, h7⟩
  · have e1 : (execOp (evalE ρ) ⟨d, .mapUpdate t x y z, ty, pos, af, g⟩).run P w = .ok .skip (w.putObj r (.map (es.push { key := .int .i64 k, val := .int .i64 v, born := clock }) (clock + 1))) := by
      simp [execOp, Instr.mapUpdate, hx.out, hy.out, hz.out, run_underlying ht.out, Go.MapKept.run_getObj_map hb, run_checkKey hk.out hkk, run_findKey hk.out h5, Go.MapKept.run_setObj_map _ hb, Result.andThen, go_sem, World.putObj]
    rw [e1]
    exact fin _ _ (hK.push h6)
  · have e1 : (execOp (evalE ρ) ⟨d, .mapUpdate t x y z, ty, pos, af, g⟩).run P w = .ok .skip (w.putObj r (.map (es.modify j fun e => { e with key := .int .i64 k, val := .int .i64 v }) clock)) := by
      simp [execOp, Instr.mapUpdate, hx.out, hy.out, hz.out, run_underlying ht.out, Go.MapKept.run_getObj_map hb, run_checkKey hk.out hkk, run_findKey hk.out h5, h6, h7, run_keyThatStays hkk, Go.MapKept.run_setObj_map _ hb, Result.andThen, go_sem, World.putObj]
    rw [e1]
    exact fin _ _ (hK.upd h6 h7)⟩
end
end Go.Fw
namespace Go.Proofs.YtamnobjdgjbmbaaGreat
open Go Go.Fw Go.RowKit
set_option linter.unusedVariables false
set_option linter.unusedSimpArgs false
set_option maxRecDepth 100000
set_option maxHeartbeats 16000000
set_option synthInstance.maxHeartbeats 200000
set_option synthInstance.maxSize 100000
attribute [local irreducible] WPA WLA WDA WDQ WDE QQ seqQ blockQ loopQ fnQ OpP OpT Tr TrP SL SLd OwnS LitS Bk BkE Ob
attribute [local irreducible] vS keyS parL RowH CtsH MapH
instance : ZeroV Tryz.prog 3 (.int .i64 0) := ⟨by kernel_rfl⟩
def cntF (l : List Int) : Int → Int := fun k => (l.count k : Nat)
theorem cnt_snoc (l : List Int) (k : Int) : setF (cntF l) k (cntF l k + 1) = cntF (l ++ [k]) := by
  funext j
  unfold setF cntF
  by_cases e : j = k
  · subst e; rw [if_pos rfl, List.count_append, List.count_singleton_self]; rfl
  · rw [if_neg e, List.count_append, List.count_singleton]; simp [Ne.symm e]
theorem cnt_nil : cntF [] = fun _ => 0 := rfl
theorem nodup_snoc {l : List Int} {k : Int} (h : l.Nodup) : (l ++ [k]).Nodup ↔ ¬ 0 < cntF l k := by
  have hc : 0 < cntF l k ↔ k ∈ l := by unfold cntF; rw [Int.natCast_pos, List.count_pos_iff]
  rw [hc, List.nodup_append]
  constructor
  · exact fun h1 hk => h1.2.2 k hk k (List.mem_singleton.2 rfl) rfl
  · exact fun hk => ⟨h, by simp, fun a ha b hb e => hk (by rw [List.mem_singleton.1 hb] at e; rw [← e]; exact ha)⟩
def ChkA (o : Int) (es : List RE) (ids : List (List Int)) : Prop := (∀ i : Nat, i < es.length → (at_ es (i : Int)).1 = o) ∧ ids.flatten.Nodup
theorem flat_take_succ {ids : List (List Int)} {i : Nat} (h : i < ids.length) : (ids.take (i + 1)).flatten = (ids.take i).flatten ++ ids.getD i [] := by
  rw [List.take_add_one, List.getElem?_eq_getElem h, List.getD_eq_getElem?_getD, List.getElem?_eq_getElem h, List.flatten_append]; simp
theorem flat_pre {ids : List (List Int)} {i j : Nat} (h : i < ids.length) (hn : ids.flatten.Nodup) : ((ids.take i).flatten ++ (ids.getD i []).take j).Nodup := by
  have e : ids.flatten = (ids.take (i + 1)).flatten ++ (ids.drop (i + 1)).flatten := by rw [← List.flatten_append, List.take_append_drop]
  rw [e, flat_take_succ h] at hn
  have h1 := (List.nodup_append.1 hn).1
  exact h1.sublist (List.Sublist.append (List.Sublist.refl _) (List.take_sublist _ _))
section
variable {S : Nat} {m : BS} {L L' : List HP} {w0 : World} {I : Foot}
theorem mck_tr {o f e : Int} {s : SV} {es : List RE} {ids : List (List Int)} [h : FindK L StoreR S m L'] (ho : (1 ≤ o ∧ o ≤ 8) ∧ 2 ≤ f) (hs : SlI I s RE inferInstance es) (hl : es.length = ids.length) (hB : ∀ i : Nat, i < es.length → SlI I (at_ es (i : Int)).2.2 Int inferInstance (ids.getD i []))
    (hn : es.length ≤ 100000) (hi : ∀ x ∈ ids, x.length ≤ 1000000)
    (he : (¬ ChkA o es ids ∧ e = 1) ∨ (ChkA o es ids ∧ (m.tk.length = m.ts.length ∧ TxB m) ∧ ∃ T : Nat → ByteArray, (∀ i : Nat, i < es.length → 0 ≤ (at_ es (i : Int)).2.1 ∧ txtN m (ids.getD i []) (ids.getD i []).length = some (T i)) ∧ e = fstN (fun i => rdE (readS o (at_ es (i : Int)).2.1 (T i))) es.length)) :
    Tr Tryz.prog 42 #[.pointer (some ⟨S, 0, none⟩), .int .i64 o, .slice s.a s.n s.cap, .int .i64 f] (SL w0 I L) (fun _ : Unit => .int .i64 e) (fun _ => SL w0 I (StoreR S m :: L')) := by
  refine Tr.at h.out ?_
  refine Tr.intro Tryz.func42 rfl Tryz.ntmps42 rfl ?_
  repeat' (first | ((first | refine WLA.m rfl rfl ?_ ?_ | refine WLA.st rfl ?_ ?_ | refine WLA.x rfl rfl ?_ (fun x => ?_) | refine WLA.x0 rfl ?_ (fun x => ?_)); first | exact trivial | exact rfl | assumption | omega | (refine ⟨?_, ?_⟩ <;> omega) | (simp only [Room, lenS]; omega) | decide | skip) | (refine Stp.go ?_) | (refine WPA.ifT ?_) | (refine WPA.ifF ?_) | (refine WLA.no rfl rfl ?_) | ((first | refine WPA.dec ?_ | ((fail_if_success (guard_target =~ WLA _ _ _ _ _ _ (put1 _ _ (.bool true)) _)); (fail_if_success (guard_target =~ WLA _ _ _ _ _ _ (put1 _ _ (.bool false)) _)); refine WLA.dec rfl rfl ?_) | refine WLA.pk ?_); first | refine .inl ⟨by first | assumption | omega | with_reducible rfl | (refine fun h => h ?_; first | assumption | with_reducible rfl) | (simp only [lenS] <;> omega) | decide, ?_⟩ | refine .inr ⟨by first | assumption | omega | with_reducible rfl | (refine fun h => h ?_; first | assumption | with_reducible rfl) | (simp only [lenS] <;> omega) | decide, ?_⟩) | ((first | refine WPA.ifBt ?_ ?_ | refine WPA.ifBnf ?_ ?_); assumption) | ((first | refine WPA.ifBnt ?_ ?_ | refine WPA.ifBf ?_ ?_); assumption) | ((first | refine WPA.ifs ?_ ?_ | refine WPA.ifB ?_ ?_) <;> intro hc) | ((fail_if_success (guard_target =~ WLA _ _ _ _ _ _ (put1 _ _ (.bool true)) _)); (fail_if_success (guard_target =~ WLA _ _ _ _ _ _ (put1 _ _ (.bool false)) _)); (first | refine WLA.both rfl rfl ?_ ?_ | refine WLA.bothB rfl rfl ?_ ?_) <;> intro hg))
  revert x; intro M
  refine WPA.loopS (σ := Nat) (fun i => [(0, .pointer (some ⟨S, 0, none⟩)), (1, .int .i64 o), (2, .slice s.a s.n s.cap), (3, .int .i64 f), (8, .int .i64 0), (9, .map (some M)), (31, .slice s.a s.n s.cap), (32, .int .i64 es.length), (33, .int .i64 i)])
    (fun i => i ≤ es.length ∧ (∀ k : Nat, k < i → (at_ es (k : Int)).1 = o) ∧ (ids.take i).flatten.Nodup) (fun i => SL w0 I (MapH M (cntF (ids.take i).flatten) :: StoreR S m :: L')) (fun i => es.length - i) 0 ⟨rfl, rfl, rfl, rfl, rfl, rfl, rfl, rfl, rfl, trivial⟩ ⟨Nat.zero_le _, fun k hk => absurd hk (Nat.not_lt_zero k), by simp⟩ (fun w h => by rw [List.take_zero, List.flatten_nil, cnt_nil]; exact h.to) ?_
  rintro i ρ ⟨hil, hio, hin⟩
  by_cases hlt : i < es.length
  · have hlt' : (i : Int) < es.length := by omega
    have hir : (0 : Int) ≤ i ∧ (i : Int) < es.length := by omega
    have hBi := hB i hlt
    have hpre := fun j hn => flat_pre (ids := ids) (i := i) (j := j) (by omega) hn
    have hsuc := flat_take_succ (ids := ids) (i := i) (by omega)
    have hlen : (ids.getD i []).length ≤ 1000000 := by rw [List.getD_eq_getElem?_getD, List.getElem?_eq_getElem (by omega)]; exact hi _ (List.getElem_mem _)
    generalize ids.getD i [] = cur at hBi hpre hsuc hlen
    by_cases hor : (at_ es (i : Int)).1 = o
    case neg =>
      have he1 : e = 1 := he.elim (fun h => h.2) fun h => absurd (h.1.1 i hlt) hor
      subst he1
      obtain ⟨q, hq⟩ : ∃ q, at_ es (i : Int) = q := ⟨_, rfl⟩
      rw [hq] at hor hBi
      have hor' : q.1 ≠ o := hor
      repeat' (first | ((rw [hq])) | ((first | refine WLA.m rfl rfl ?_ ?_ | refine WLA.st rfl ?_ ?_ | refine WLA.x rfl rfl ?_ (fun x => ?_) | refine WLA.x0 rfl ?_ (fun x => ?_)); first | exact trivial | exact rfl | assumption | omega | (refine ⟨?_, ?_⟩ <;> omega) | (simp only [Room, lenS]; omega) | decide | skip) | (refine Stp.go ?_) | (refine WPA.ifT ?_) | (refine WPA.ifF ?_) | ((first | refine WPA.dec ?_); first | refine .inl ⟨by first | assumption | omega | with_reducible rfl | (refine fun h => h ?_; first | assumption | with_reducible rfl) | (simp only [lenS] <;> omega) | decide, ?_⟩ | refine .inr ⟨by first | assumption | omega | with_reducible rfl | (refine fun h => h ?_; first | assumption | with_reducible rfl) | (simp only [lenS] <;> omega) | decide, ?_⟩) | ((first | refine WPA.ifBt ?_ ?_ | refine WPA.ifBnf ?_ ?_); assumption) | ((first | refine WPA.ifBnt ?_ ?_ | refine WPA.ifBf ?_ ?_); assumption) | ((first | refine WPA.ifs ?_ ?_ | refine WPA.ifB ?_ ?_) <;> intro hc))
      exact QQ.end_ rfl () rfl fun w h => h.to
    obtain ⟨q, hq⟩ : ∃ q, at_ es (i : Int) = q := ⟨_, rfl⟩
    rw [hq] at hor hBi
    obtain ⟨qo, qn, qs⟩ := q
    dsimp only at hor hBi
    subst hor
    have hoo : ¬ qo ≠ qo := fun h => h rfl
    generalize (ids.take i).flatten = pre at hin hpre hsuc
    repeat' (first | ((rw [hq])) | ((first | refine WLA.m rfl rfl ?_ ?_ | refine WLA.st rfl ?_ ?_ | refine WLA.x rfl rfl ?_ (fun x => ?_) | refine WLA.x0 rfl ?_ (fun x => ?_)); first | exact trivial | exact rfl | assumption | omega | (refine ⟨?_, ?_⟩ <;> omega) | (simp only [Room, lenS]; omega) | decide | skip) | (refine Stp.go ?_) | (refine WPA.ifT ?_) | (refine WPA.ifF ?_) | ((first | refine WPA.dec ?_); first | refine .inl ⟨by first | assumption | omega | with_reducible rfl | (refine fun h => h ?_; first | assumption | with_reducible rfl) | (simp only [lenS] <;> omega) | decide, ?_⟩ | refine .inr ⟨by first | assumption | omega | with_reducible rfl | (refine fun h => h ?_; first | assumption | with_reducible rfl) | (simp only [lenS] <;> omega) | decide, ?_⟩) | ((first | refine WPA.ifBt ?_ ?_ | refine WPA.ifBnf ?_ ?_); assumption) | ((first | refine WPA.ifBnt ?_ ?_ | refine WPA.ifBf ?_ ?_); assumption) | ((first | refine WPA.ifs ?_ ?_ | refine WPA.ifB ?_ ?_) <;> intro hc))
    revert x; intro X
    refine WPA.loopS (σ := Nat) (fun j => [(0, .pointer (some ⟨S, 0, none⟩)), (1, .int .i64 qo), (2, .slice s.a s.n s.cap), (3, .int .i64 f), (8, .int .i64 0), (9, .map (some M)), (31, .slice s.a s.n s.cap), (32, .int .i64 es.length), (33, .int .i64 i), (42, .slice qs.a qs.n qs.cap), (43, .int .i64 cur.length), (44, .int .i64 j)])
      (fun j => j ≤ cur.length ∧ (pre ++ cur.take j).Nodup) (fun j => SL w0 I (MapH M (cntF (pre ++ cur.take j)) :: StoreR S m :: L')) (fun j => cur.length - j) 0 ⟨rfl, rfl, rfl, rfl, rfl, rfl, rfl, rfl, rfl, rfl, rfl, rfl, trivial⟩ ⟨Nat.zero_le _, by rw [List.take_zero, List.append_nil]; exact hin⟩ (fun w h => by rw [List.take_zero, List.append_nil]; exact h.to) ?_
    rintro j ρ ⟨hj, hnd⟩
    by_cases hjl : j < cur.length
    · have hjl' : (j : Int) < cur.length := by omega
      have hjr : (0 : Int) ≤ j ∧ (j : Int) < cur.length := by omega
      obtain ⟨k, hk⟩ : ∃ k : Int, at_ cur (j : Int) = k := ⟨_, rfl⟩
      have htk : cur.take (j + 1) = cur.take j ++ [k] := by rw [List.take_add_one, List.getElem?_eq_getElem hjl, ← hk, at_nat cur j hjl]; rfl
      have hns := nodup_snoc (k := k) hnd
      rw [List.append_assoc, ← htk] at hns
      have hcs := cnt_snoc (pre ++ cur.take j) k
      rw [List.append_assoc, ← htk] at hcs
      have hc0 : 0 ≤ cntF (pre ++ cur.take j) k := by unfold cntF; omega
      have hc1 : cntF (pre ++ cur.take j) k ≤ 1 := by unfold cntF; have := List.nodup_iff_count.1 hnd k; omega
      have hself : setF (cntF (pre ++ cur.take j)) k (cntF (pre ++ cur.take j) k + 1) k = cntF (pre ++ cur.take j) k + 1 := if_pos rfl
      have hp1 := hpre (j + 1)
      generalize hnx : pre ++ cur.take (j + 1) = nx at hns hcs hp1
      generalize cntF (pre ++ cur.take j) = g at hns hcs hc0 hc1 hself
      generalize hgk : g k = c at hns hcs hc0 hc1 hself
      by_cases hcp : 0 < c
      · have hcp' : (1 : Int) < c + 1 := by omega
        have he1 : e = 1 := he.elim (fun h => h.2) fun h => absurd hcp (hns.1 (hp1 h.1.2))
        subst he1
        repeat' (first | ((rw [hk])) | ((rw [hgk])) | ((rw [hself])) | ((first | refine WLA.m rfl rfl ?_ ?_ | refine WLA.st rfl ?_ ?_ | refine WLA.x rfl rfl ?_ (fun x => ?_) | refine WLA.x0 rfl ?_ (fun x => ?_)); first | exact trivial | exact rfl | assumption | omega | (refine ⟨?_, ?_⟩ <;> omega) | (simp only [Room, lenS]; omega) | decide | skip) | (refine Stp.go ?_) | (refine WPA.ifT ?_) | (refine WPA.ifF ?_) | ((first | refine WPA.dec ?_); first | refine .inl ⟨by first | assumption | omega | with_reducible rfl | (refine fun h => h ?_; first | assumption | with_reducible rfl) | (simp only [lenS] <;> omega) | decide, ?_⟩ | refine .inr ⟨by first | assumption | omega | with_reducible rfl | (refine fun h => h ?_; first | assumption | with_reducible rfl) | (simp only [lenS] <;> omega) | decide, ?_⟩) | ((first | refine WPA.ifBt ?_ ?_ | refine WPA.ifBnf ?_ ?_); assumption) | ((first | refine WPA.ifBnt ?_ ?_ | refine WPA.ifBf ?_ ?_); assumption) | ((first | refine WPA.ifs ?_ ?_ | refine WPA.ifB ?_ ?_) <;> intro hc))
        exact QQ.end_ rfl () rfl fun w h => h.to
      · have hcp' : ¬ (1 : Int) < c + 1 := by omega
        repeat' (first | ((rw [hk])) | ((rw [hgk])) | ((rw [hself])) | ((first | refine WLA.m rfl rfl ?_ ?_ | refine WLA.st rfl ?_ ?_ | refine WLA.x rfl rfl ?_ (fun x => ?_) | refine WLA.x0 rfl ?_ (fun x => ?_)); first | exact trivial | exact rfl | assumption | omega | (refine ⟨?_, ?_⟩ <;> omega) | (simp only [Room, lenS]; omega) | decide | skip) | (refine Stp.go ?_) | (refine WPA.ifT ?_) | (refine WPA.ifF ?_) | ((first | refine WPA.dec ?_); first | refine .inl ⟨by first | assumption | omega | with_reducible rfl | (refine fun h => h ?_; first | assumption | with_reducible rfl) | (simp only [lenS] <;> omega) | decide, ?_⟩ | refine .inr ⟨by first | assumption | omega | with_reducible rfl | (refine fun h => h ?_; first | assumption | with_reducible rfl) | (simp only [lenS] <;> omega) | decide, ?_⟩) | ((first | refine WPA.ifBt ?_ ?_ | refine WPA.ifBnf ?_ ?_); assumption) | ((first | refine WPA.ifBnt ?_ ?_ | refine WPA.ifBf ?_ ?_); assumption) | ((first | refine WPA.ifs ?_ ?_ | refine WPA.ifB ?_ ?_) <;> intro hc))
        exact QQ.loopS (j + 1) ⟨rfl, rfl, rfl, rfl, rfl, rfl, rfl, rfl, rfl, rfl, rfl, rfl, trivial⟩ ⟨hjl, by rw [hnx]; exact hns.2 hcp⟩ (by omega) (fun w h => by rw [hnx, ← hcs]; exact h.to)
    · have hjl' : ¬ (j : Int) < cur.length := by omega
      rw [List.take_of_length_le (by omega), ← hsuc] at hnd ⊢
      repeat' (first | ((first | refine WLA.m rfl rfl ?_ ?_ | refine WLA.st rfl ?_ ?_ | refine WLA.x rfl rfl ?_ (fun x => ?_) | refine WLA.x0 rfl ?_ (fun x => ?_)); first | exact trivial | exact rfl | assumption | omega | (refine ⟨?_, ?_⟩ <;> omega) | (simp only [Room, lenS]; omega) | decide | skip) | (refine Stp.go ?_) | (refine WPA.ifT ?_) | (refine WPA.ifF ?_) | ((first | refine WPA.dec ?_); first | refine .inl ⟨by first | assumption | omega | with_reducible rfl | (refine fun h => h ?_; first | assumption | with_reducible rfl) | (simp only [lenS] <;> omega) | decide, ?_⟩ | refine .inr ⟨by first | assumption | omega | with_reducible rfl | (refine fun h => h ?_; first | assumption | with_reducible rfl) | (simp only [lenS] <;> omega) | decide, ?_⟩) | ((first | refine WPA.ifBt ?_ ?_ | refine WPA.ifBnf ?_ ?_); assumption) | ((first | refine WPA.ifBnt ?_ ?_ | refine WPA.ifBf ?_ ?_); assumption) | ((first | refine WPA.ifs ?_ ?_ | refine WPA.ifB ?_ ?_) <;> intro hc))
      refine QQ.loopS (i + 1) ⟨rfl, rfl, rfl, rfl, rfl, rfl, rfl, rfl, rfl, trivial⟩ ⟨hlt, fun k hk => ?_, hnd⟩ (by omega) (fun w h => h.to)
      by_cases hki : k = i
      · subst hki; rw [hq]
      · exact hio k (by omega)
  · have hlt' : ¬ (i : Int) < es.length := by omega
    have hie : i = es.length := by omega
    subst hie
    have hA : ChkA o es ids := ⟨hio, by rw [hl, List.take_length] at hin; exact hin⟩
    obtain ⟨_, ⟨hm1, hm2⟩, T, hT, he⟩ := he.resolve_left fun h => h.1 hA
    generalize cntF (ids.take es.length).flatten = fz
    repeat' (first | ((first | refine WLA.m rfl rfl ?_ ?_ | refine WLA.st rfl ?_ ?_ | refine WLA.x rfl rfl ?_ (fun x => ?_) | refine WLA.x0 rfl ?_ (fun x => ?_)); first | exact trivial | exact rfl | assumption | omega | (refine ⟨?_, ?_⟩ <;> omega) | (simp only [Room, lenS]; omega) | decide | skip) | (refine Stp.go ?_) | (refine WPA.ifT ?_) | (refine WPA.ifF ?_) | ((first | refine WPA.dec ?_); first | refine .inl ⟨by first | assumption | omega | with_reducible rfl | (refine fun h => h ?_; first | assumption | with_reducible rfl) | (simp only [lenS] <;> omega) | decide, ?_⟩ | refine .inr ⟨by first | assumption | omega | with_reducible rfl | (refine fun h => h ?_; first | assumption | with_reducible rfl) | (simp only [lenS] <;> omega) | decide, ?_⟩) | ((first | refine WPA.ifBt ?_ ?_ | refine WPA.ifBnf ?_ ?_); assumption) | ((first | refine WPA.ifBnt ?_ ?_ | refine WPA.ifBf ?_ ?_); assumption) | ((first | refine WPA.ifs ?_ ?_ | refine WPA.ifB ?_ ?_) <;> intro hc))
    refine WPA.loopS (σ := Nat) (fun i => [(0, .pointer (some ⟨S, 0, none⟩)), (1, .int .i64 o), (2, .slice s.a s.n s.cap), (3, .int .i64 f), (8, .int .i64 0), (58, .slice s.a s.n s.cap), (59, .int .i64 es.length), (60, .int .i64 i)])
      (fun i => i ≤ es.length ∧ fstN (fun i => rdE (readS o (at_ es (i : Int)).2.1 (T i))) i = 0) (fun i => SL w0 I (StoreR S m :: L')) (fun i => es.length - i) 0 ⟨rfl, rfl, rfl, rfl, rfl, rfl, rfl, rfl, trivial⟩ ⟨Nat.zero_le _, rfl⟩ (fun w h => h.to) ?_
    rintro i ρ ⟨hil, hz⟩
    by_cases hlt : i < es.length
    · have hlt' : (i : Int) < es.length := by omega
      have hir : (0 : Int) ≤ i ∧ (i : Int) < es.length := by omega
      have hBi := hB i hlt
      have hTi := hT i hlt
      have hoi := hio i hlt
      have hlen : (ids.getD i []).length ≤ 1000000 := by rw [List.getD_eq_getElem?_getD, List.getElem?_eq_getElem (by omega)]; exact hi _ (List.getElem_mem _)
      have hsu := fstN_succ hz
      have hhe := fun h => fstN_here (i := i) hz h es.length hlt
      obtain ⟨q, hq⟩ : ∃ q, at_ es (i : Int) = q := ⟨_, rfl⟩
      rw [hq] at hoi hBi hTi hsu hhe
      obtain ⟨qo, qn, qs⟩ := q
      dsimp only at hoi hBi hTi hsu hhe
      subst hoi
      have hrr : ∀ {L L' : List HP} [FindK L StoreR S m L'], Tr Tryz.prog 18 #[.pointer (some ⟨S, 0, none⟩), .agg #[.int .i64 qo, .int .i64 qn, .slice qs.a qs.n qs.cap]] (SL w0 I L) (fun x : SV => .tuple #[.slice x.a x.n x.cap, .int .i64 (rdE (readS qo qn (T i)))]) (fun x => SL w0 I (CtsH x ((readS qo qn (T i)).getD []) :: StoreR S m :: L')) := fun {L L'} _ => runRead_tr ⟨ho.1, hTi.1⟩ hBi hm1 hm2 hlen hTi.2 rfl
      generalize rdE (readS qo qn (T i)) = z at hrr hsu hhe
      by_cases hz0 : z = 0
      · subst hz0
        repeat' (first | ((rw [hq])) | ((first | refine WLA.m rfl rfl ?_ ?_ | refine WLA.st rfl ?_ ?_ | refine WLA.x rfl rfl ?_ (fun x => ?_) | refine WLA.x0 rfl ?_ (fun x => ?_)); first | exact trivial | exact rfl | assumption | omega | (refine ⟨?_, ?_⟩ <;> omega) | (simp only [Room, lenS]; omega) | decide | skip) | (refine Stp.go ?_) | (guard_target =~ WLA _ _ _ _ _ (⟨_, .call ⟨.value (.func 18), _, _⟩, _, _, _, _⟩ :: _) _ _; refine WLA.call rfl rfl (hrr) ?_; rintro ⟨⟩) | (refine WPA.ifT ?_) | (refine WPA.ifF ?_) | ((first | refine WPA.dec ?_); first | refine .inl ⟨by first | assumption | omega | with_reducible rfl | (refine fun h => h ?_; first | assumption | with_reducible rfl) | (simp only [lenS] <;> omega) | decide, ?_⟩ | refine .inr ⟨by first | assumption | omega | with_reducible rfl | (refine fun h => h ?_; first | assumption | with_reducible rfl) | (simp only [lenS] <;> omega) | decide, ?_⟩) | ((first | refine WPA.ifBt ?_ ?_ | refine WPA.ifBnf ?_ ?_); assumption) | ((first | refine WPA.ifBnt ?_ ?_ | refine WPA.ifBf ?_ ?_); assumption) | ((first | refine WPA.ifs ?_ ?_ | refine WPA.ifB ?_ ?_) <;> intro hc))
        exact QQ.loopS (i + 1) ⟨rfl, rfl, rfl, rfl, rfl, rfl, rfl, rfl, trivial⟩ ⟨hlt, hsu⟩ (by omega) (fun w h => h.to)
      · have hez : e = z := he.trans (hhe hz0)
        subst hez
        repeat' (first | ((rw [hq])) | ((first | refine WLA.m rfl rfl ?_ ?_ | refine WLA.st rfl ?_ ?_ | refine WLA.x rfl rfl ?_ (fun x => ?_) | refine WLA.x0 rfl ?_ (fun x => ?_)); first | exact trivial | exact rfl | assumption | omega | (refine ⟨?_, ?_⟩ <;> omega) | (simp only [Room, lenS]; omega) | decide | skip) | (refine Stp.go ?_) | (guard_target =~ WLA _ _ _ _ _ (⟨_, .call ⟨.value (.func 18), _, _⟩, _, _, _, _⟩ :: _) _ _; refine WLA.call rfl rfl (hrr) ?_; rintro ⟨⟩) | (refine WPA.ifT ?_) | (refine WPA.ifF ?_) | ((first | refine WPA.dec ?_); first | refine .inl ⟨by first | assumption | omega | with_reducible rfl | (refine fun h => h ?_; first | assumption | with_reducible rfl) | (simp only [lenS] <;> omega) | decide, ?_⟩ | refine .inr ⟨by first | assumption | omega | with_reducible rfl | (refine fun h => h ?_; first | assumption | with_reducible rfl) | (simp only [lenS] <;> omega) | decide, ?_⟩) | ((first | refine WPA.ifBt ?_ ?_ | refine WPA.ifBnf ?_ ?_); assumption) | ((first | refine WPA.ifBnt ?_ ?_ | refine WPA.ifBf ?_ ?_); assumption) | ((first | refine WPA.ifs ?_ ?_ | refine WPA.ifB ?_ ?_) <;> intro hc))
        exact QQ.end_ rfl () rfl fun w h => h.to
    · have hlt' : ¬ (i : Int) < es.length := by omega
      have hie : i = es.length := by omega
      subst hie
      rw [hz] at he
      subst he
      repeat' (first | ((first | refine WLA.m rfl rfl ?_ ?_ | refine WLA.st rfl ?_ ?_ | refine WLA.x rfl rfl ?_ (fun x => ?_) | refine WLA.x0 rfl ?_ (fun x => ?_)); first | exact trivial | exact rfl | assumption | omega | (refine ⟨?_, ?_⟩ <;> omega) | (simp only [Room, lenS]; omega) | decide | skip) | (refine Stp.go ?_) | (refine WPA.ifT ?_) | (refine WPA.ifF ?_) | ((first | refine WPA.dec ?_); first | refine .inl ⟨by first | assumption | omega | with_reducible rfl | (refine fun h => h ?_; first | assumption | with_reducible rfl) | (simp only [lenS] <;> omega) | decide, ?_⟩ | refine .inr ⟨by first | assumption | omega | with_reducible rfl | (refine fun h => h ?_; first | assumption | with_reducible rfl) | (simp only [lenS] <;> omega) | decide, ?_⟩) | ((first | refine WPA.ifBt ?_ ?_ | refine WPA.ifBnf ?_ ?_); assumption) | ((first | refine WPA.ifBnt ?_ ?_ | refine WPA.ifBf ?_ ?_); assumption) | ((first | refine WPA.ifs ?_ ?_ | refine WPA.ifB ?_ ?_) <;> intro hc))
      exact QQ.end_ rfl () rfl fun w h => h.to
end
end Go.Proofs.YtamnobjdgjbmbaaGreat
namespace Go.Fw
open Go Go.RowKit Go.Sort
set_option linter.unusedVariables false
set_option linter.unusedSimpArgs false
set_option maxHeartbeats 2000000
theorem putRow_id {α : Type} [Inhabited α] (enc : α → Value) (u : World) (g off : Nat) (d : Array α) : putRow enc u g off d = putRow id u g off (d.map enc) := by
  unfold putRow
  congr 1
  funext c
  unfold putCells
  congr 1
  funext k x
  simp only [Array.size_map]
  split
  · rename_i hk
    rw [getElem!_pos d _ (by omega), getElem!_pos (d.map _) _ (by simp; omega)]
    simp
  · rfl
theorem flat_ints : ∀ xs : List Int, ((xs.toArray.map (Value.int .i64)).toList) = flat xs
  | [] => by simp [flat]
  | x :: xs => by
    have := flat_ints xs
    simp only [List.toList_toArray, Array.toList_map] at this ⊢
    rw [List.map_cons, this]
    rfl
theorem holds_ints {w : World} {g : Nat} {xs : List Int} (h : ∀ F : Array Value, F.toList = flat xs → Holds id w g 0 F) : Holds (Value.int .i64) w g 0 xs.toArray := fun j hj => by
  have := h (xs.toArray.map (Value.int .i64)) (flat_ints xs) j (by simpa using hj)
  rw [getElem!_pos (xs.toArray.map (Value.int .i64)) j (by simpa using hj)] at this
  rw [getElem!_pos xs.toArray j hj]
  simpa using this
section
variable {P : Program} {ρ : Go.Shelf.Ren} {w0 : World} {I : Foot} {L : List HP}
theorem sortI_tr (Ly : Go.Proofs.Lays.n189 P ρ) {e : TypeId} {s : SV} {xs : List Int} (hn : xs.length ≤ 1000000000) :
    Tr P (ρ.f 189) #[.slice s.a s.n s.cap] (SL w0 I (OwnS e s xs :: L)) (fun _ : Unit => .tuple #[]) (fun _ => SL w0 I (OwnS e s (xs.mergeSort fun x y => decide (x ≤ y)) :: L)) := by
  intro w hw
  by_cases hx : xs = []
  · subst hx
    have hsn : s.n = 0 := hw.facts.1
    rw [hsn]
    refine (Go.Proofs.Any.slices_Sort_int_none Ly s.a s.cap w).mono ?_
    rintro e w' ⟨rfl, rfl⟩
    exact ⟨(), rfl, by rw [List.mergeSort_nil]; exact hw⟩
  · obtain ⟨g0, hs, hsn, hblk, hH⟩ := hw.row (List.length_pos_iff.2 hx)
    have key := Go.Proofs.Any.slices_Sort_int Ly g0 0 s.cap xs w (holds_ints hH) hblk (by omega)
    rw [hs, hsn]
    refine key.mono ?_
    rintro e w' ⟨rfl, n, os, rfl⟩
    refine ⟨(), rfl, ?_⟩
    rw [putRow_id]
    exact hw.reput hs (by rw [List.length_mergeSort]) n os (flat_ints _)
end
end Go.Fw
namespace Go.Proofs
open Go.Shelf
def Tryz.sortI_ren : Go.Shelf.Ren := ⟨fun | 189 => 116 | 125 => 121 | 257 => 124 | 128 => 134 | 129 => 135 | 294 => 136 | 295 => 137 | 296 => 138 | 297 => 139 | 298 => 140 | 299 => 141 | 216 => 142 | 300 => 143 | 301 => 144 | 328 => 150 | 329 => 146 | 330 => 147 | 331 => 151 | 332 => 152 | 215 => 125 | 343 => 154 | n => n, fun | 28 => 42 | 3 => 3 | 46 => 163 | 0 => 0 | 51 => 214 | 53 => 90 | 4 => 4 | 183 => 207 | 182 => 206 | 131 => 211 | 5 => 5 | 9 => 9 | 218 => 221 | 222 => 225 | 228 => 229 | 229 => 142 | n => n, fun | n => n⟩
theorem Tryz.sortI : Go.Proofs.Lays.n189 Tryz.prog Tryz.sortI_ren := {
  mixed := by kernel_rfl
  f125 := Tryz.func121.trans (congrArg some (by kernel_rfl))
  f128 := Tryz.func134.trans (congrArg some (by kernel_rfl))
  f129 := Tryz.func135.trans (congrArg some (by kernel_rfl))
  f189 := Tryz.func116.trans (congrArg some (by kernel_rfl))
  f215 := Tryz.func125.trans (congrArg some (by kernel_rfl))
  f216 := Tryz.func142.trans (congrArg some (by kernel_rfl))
  f257 := Tryz.func124.trans (congrArg some (by kernel_rfl))
  f294 := Tryz.func136.trans (congrArg some (by kernel_rfl))
  f295 := Tryz.func137.trans (congrArg some (by kernel_rfl))
  f296 := Tryz.func138.trans (congrArg some (by kernel_rfl))
  f297 := Tryz.func139.trans (congrArg some (by kernel_rfl))
  f298 := Tryz.func140.trans (congrArg some (by kernel_rfl))
  f299 := Tryz.func141.trans (congrArg some (by kernel_rfl))
  f300 := Tryz.func143.trans (congrArg some (by kernel_rfl))
  f301 := Tryz.func144.trans (congrArg some (by kernel_rfl))
  f328 := Tryz.func150.trans (congrArg some (by kernel_rfl))
  f329 := Tryz.func146.trans (congrArg some (by kernel_rfl))
  f330 := Tryz.func147.trans (congrArg some (by kernel_rfl))
  f331 := Tryz.func151.trans (congrArg some (by kernel_rfl))
  f332 := Tryz.func152.trans (congrArg some (by kernel_rfl))
  f343 := Tryz.func154.trans (congrArg some (by kernel_rfl))
  t0 := Tryz.underlying0
  a0 := Tryz.isAgg0
  z0 := Tryz.sizeOf0
  v0 := Tryz.zeroValue0
  t3 := Tryz.underlying3
  a3 := Tryz.isAgg3
  z3 := Tryz.sizeOf3
  v3 := Tryz.zeroValue3
  t4 := Tryz.underlying4
  a4 := Tryz.isAgg4
  z4 := Tryz.sizeOf4
  v4 := Tryz.zeroValue4
  t5 := Tryz.underlying5
  a5 := Tryz.isAgg5
  z5 := Tryz.sizeOf5
  v5 := Tryz.zeroValue5
  t9 := Tryz.underlying9
  a9 := Tryz.isAgg9
  z9 := Tryz.sizeOf9
  v9 := Tryz.zeroValue9
  t28 := Tryz.underlying42
  a28 := Tryz.isAgg42
  z28 := Tryz.sizeOf42
  v28 := Tryz.zeroValue42
  t46 := Tryz.underlying163
  a46 := Tryz.isAgg163
  z46 := Tryz.sizeOf163
  v46 := Tryz.zeroValue163
  t51 := Tryz.underlying214
  a51 := Tryz.isAgg214
  z51 := Tryz.sizeOf214
  v51 := Tryz.zeroValue214
  t53 := Tryz.underlying90
  a53 := Tryz.isAgg90
  z53 := Tryz.sizeOf90
  v53 := Tryz.zeroValue90
  t131 := Tryz.underlying211
  a131 := Tryz.isAgg211
  z131 := Tryz.sizeOf211
  v131 := Tryz.zeroValue211
  t182 := Tryz.underlying206
  a182 := Tryz.isAgg206
  z182 := Tryz.sizeOf206
  v182 := Tryz.zeroValue206
  t183 := Tryz.underlying207
  a183 := Tryz.isAgg207
  z183 := Tryz.sizeOf207
  v183 := Tryz.zeroValue207
  t218 := Tryz.underlying221
  a218 := Tryz.isAgg221
  z218 := Tryz.sizeOf221
  v218 := Tryz.zeroValue221
  t222 := Tryz.underlying225
  a222 := Tryz.isAgg225
  z222 := Tryz.sizeOf225
  v222 := Tryz.zeroValue225
  t228 := Tryz.underlying229
  a228 := Tryz.isAgg229
  z228 := Tryz.sizeOf229
  v228 := Tryz.zeroValue229
  t229 := Tryz.underlying142
  a229 := Tryz.isAgg142
  z229 := Tryz.sizeOf142
  v229 := Tryz.zeroValue142 }
end Go.Proofs
namespace Go.Proofs.YtamnobjdgjbmbaaGreat
open Go Go.Fw Go.RowKit
set_option linter.unusedVariables false
set_option linter.unusedSimpArgs false
set_option maxRecDepth 100000
set_option maxHeartbeats 16000000
set_option synthInstance.maxHeartbeats 200000
set_option synthInstance.maxSize 100000
attribute [local irreducible] WPA WLA WDA WDQ WDE QQ seqQ blockQ loopQ fnQ OpP OpT Tr TrP SL SLd OwnS LitS Bk BkE Ob
section
variable {w0 : World} {I : Foot} {L : List HP}
theorem Values_tr {s : SV} : Tr Tryz.prog 98 #[.slice s.a s.n s.cap] (SL w0 I L) (fun V : Nat => .func (.func 117) #[] #[.pointer (some ⟨V, 0, none⟩)]) (fun V => SL w0 I (Bk V 42 [.slice s.a s.n s.cap] :: L)) := by
  refine Tr.intro Tryz.func98 rfl Tryz.ntmps98 rfl ?_
  repeat' (first | ((first | refine WLA.m rfl rfl ?_ ?_ | refine WLA.st rfl ?_ ?_ | refine WLA.x rfl rfl ?_ (fun x => ?_) | refine WLA.x0 rfl ?_ (fun x => ?_)); first | exact trivial | exact rfl | assumption | omega | (refine ⟨?_, ?_⟩ <;> omega) | (simp only [Room, lenS]; omega) | decide | skip) | (refine Stp.go ?_) | (refine WPA.ifT ?_) | (refine WPA.ifF ?_) | ((first | refine WPA.dec ?_); first | refine .inl ⟨by first | assumption | omega | with_reducible rfl | (refine fun h => h ?_; first | assumption | with_reducible rfl) | (simp only [lenS] <;> omega) | decide, ?_⟩ | refine .inr ⟨by first | assumption | omega | with_reducible rfl | (refine fun h => h ?_; first | assumption | with_reducible rfl) | (simp only [lenS] <;> omega) | decide, ?_⟩) | ((first | refine WPA.ifBt ?_ ?_ | refine WPA.ifBnf ?_ ?_); assumption) | ((first | refine WPA.ifBnt ?_ ?_ | refine WPA.ifBf ?_ ?_); assumption) | ((first | refine WPA.ifs ?_ ?_ | refine WPA.ifB ?_ ?_) <;> intro hc))
  exact QQ.end_ rfl _ rfl fun w h => h.to
theorem Values1_tr {V lb : Nat} {s : SV} {ids : List Int} {τ ω : Type} (Lk : τ → List HP) (ix : τ → Nat) (C : τ → Prop) (Bz : ω → World → Prop) (hs : SlI I s Int inferInstance ids) (hn : ids.length ≤ 1000000000)
    (hy : ∀ x : τ, C x → ix x < ids.length → YTr Tryz.prog lb #[.int .i64 (at_ ids (ix x : Int))] (SL w0 I (Bk V 42 [.slice s.a s.n s.cap] :: Lk x)) (fun y : τ ⊕ ω => .bool y.isLeft)
      (fun y w => match y with | .inl x' => (C x' ∧ ix x' = ix x + 1) ∧ SL w0 I (Bk V 42 [.slice s.a s.n s.cap] :: Lk x') w | .inr z => Bz z w))
    (x0 : τ) (hC : C x0) (h0 : ix x0 = 0) (hix : ∀ x, C x → ix x ≤ ids.length) :
    Tr Tryz.prog 117 #[.func (.yield lb) #[] #[], .pointer (some ⟨V, 0, none⟩)] (SL w0 I (Bk V 42 [.slice s.a s.n s.cap] :: Lk x0)) (fun _ : τ ⊕ ω => .tuple #[])
      (fun y w => match y with | .inl x' => (C x' ∧ ix x' = ids.length) ∧ SL w0 I (Bk V 42 [.slice s.a s.n s.cap] :: Lk x') w | .inr z => Bz z w) := by
  refine Tr.intro Tryz.func117 rfl Tryz.ntmps117 rfl ?_
  repeat' (first | ((first | refine WLA.m rfl rfl ?_ ?_ | refine WLA.st rfl ?_ ?_ | refine WLA.x rfl rfl ?_ (fun x => ?_) | refine WLA.x0 rfl ?_ (fun x => ?_)); first | exact trivial | exact rfl | assumption | omega | (refine ⟨?_, ?_⟩ <;> omega) | (simp only [Room, lenS]; omega) | decide | skip) | (refine Stp.go ?_) | (refine WPA.ifT ?_) | (refine WPA.ifF ?_) | ((first | refine WPA.dec ?_); first | refine .inl ⟨by first | assumption | omega | with_reducible rfl | (refine fun h => h ?_; first | assumption | with_reducible rfl) | (simp only [lenS] <;> omega) | decide, ?_⟩ | refine .inr ⟨by first | assumption | omega | with_reducible rfl | (refine fun h => h ?_; first | assumption | with_reducible rfl) | (simp only [lenS] <;> omega) | decide, ?_⟩) | ((first | refine WPA.ifBt ?_ ?_ | refine WPA.ifBnf ?_ ?_); assumption) | ((first | refine WPA.ifBnt ?_ ?_ | refine WPA.ifBf ?_ ?_); assumption) | ((first | refine WPA.ifs ?_ ?_ | refine WPA.ifB ?_ ?_) <;> intro hc))
  refine WPA.loopS (σ := τ) (fun x => [(0, .func (.yield lb) #[] #[]), (5, .slice s.a s.n s.cap), (6, .int .i64 ids.length), (7, .int .i64 (ix x))]) C
    (fun x => SL w0 I (Bk V 42 [.slice s.a s.n s.cap] :: Lk x)) (fun x => ids.length - ix x) x0 ⟨rfl, rfl, rfl, by rw [h0]; rfl, trivial⟩ hC (fun w h => h) ?_
  intro x ρ hCx
  have hxl := hix x hCx
  by_cases hlt : ix x < ids.length
  · have hlt' : (ix x : Int) < ids.length := by omega
    have hir : (0 : Int) ≤ (ix x : Int) ∧ (ix x : Int) < ids.length := by omega
    repeat' (first | ((first | refine WLA.m rfl rfl ?_ ?_ | refine WLA.st rfl ?_ ?_ | refine WLA.x rfl rfl ?_ (fun x => ?_) | refine WLA.x0 rfl ?_ (fun x => ?_)); first | exact trivial | exact rfl | assumption | omega | (refine ⟨?_, ?_⟩ <;> omega) | (simp only [Room, lenS]; omega) | decide | skip) | (refine Stp.go ?_) | (guard_target =~ WLA _ _ _ _ _ (⟨_, .call ⟨.value (.tmp _), _, _⟩, _, _, _, _⟩ :: _) _ _; refine WLA.yield rfl rfl ((hy x hCx hlt).ent) ?_; rintro (x' | z)) | (refine WPA.ifT ?_) | (refine WPA.ifF ?_) | ((first | refine WPA.dec ?_); first | refine .inl ⟨by first | assumption | omega | with_reducible rfl | (refine fun h => h ?_; first | assumption | with_reducible rfl) | (simp only [lenS] <;> omega) | decide, ?_⟩ | refine .inr ⟨by first | assumption | omega | with_reducible rfl | (refine fun h => h ?_; first | assumption | with_reducible rfl) | (simp only [lenS] <;> omega) | decide, ?_⟩) | ((first | refine WPA.ifBt ?_ ?_ | refine WPA.ifBnf ?_ ?_); assumption) | ((first | refine WPA.ifBnt ?_ ?_ | refine WPA.ifBf ?_ ?_); assumption) | ((first | refine WPA.ifs ?_ ?_ | refine WPA.ifB ?_ ?_) <;> intro hc))
    · refine QQ.pre fun hC' => ?_
      exact QQ.loopS x' ⟨rfl, rfl, rfl, by rw [hC'.2]; rfl, trivial⟩ hC'.1 (by have := hC'.2; omega) (fun w h => h)
    · exact QQ.end_ rfl (.inr z) rfl fun w h => h
  · have hlt' : ¬ (ix x : Int) < ids.length := by omega
    repeat' (first | ((first | refine WLA.m rfl rfl ?_ ?_ | refine WLA.st rfl ?_ ?_ | refine WLA.x rfl rfl ?_ (fun x => ?_) | refine WLA.x0 rfl ?_ (fun x => ?_)); first | exact trivial | exact rfl | assumption | omega | (refine ⟨?_, ?_⟩ <;> omega) | (simp only [Room, lenS]; omega) | decide | skip) | (refine Stp.go ?_) | (refine WPA.ifT ?_) | (refine WPA.ifF ?_) | ((first | refine WPA.dec ?_); first | refine .inl ⟨by first | assumption | omega | with_reducible rfl | (refine fun h => h ?_; first | assumption | with_reducible rfl) | (simp only [lenS] <;> omega) | decide, ?_⟩ | refine .inr ⟨by first | assumption | omega | with_reducible rfl | (refine fun h => h ?_; first | assumption | with_reducible rfl) | (simp only [lenS] <;> omega) | decide, ?_⟩) | ((first | refine WPA.ifBt ?_ ?_ | refine WPA.ifBnf ?_ ?_); assumption) | ((first | refine WPA.ifBnt ?_ ?_ | refine WPA.ifBf ?_ ?_); assumption) | ((first | refine WPA.ifs ?_ ?_ | refine WPA.ifB ?_ ?_) <;> intro hc))
    exact QQ.endn rfl (.inl x) rfl fun w h => ⟨⟨hCx, by omega⟩, h⟩
theorem AppendSeq_tr {V : Nat} {s : SV} {ids : List Int} (hs : SlI I s Int inferInstance ids) (hn : ids.length ≤ 1000000) :
    Tr Tryz.prog 123 #[.slice none 0 0, .func (.func 117) #[] #[.pointer (some ⟨V, 0, none⟩)]] (SL w0 I (Bk V 42 [.slice s.a s.n s.cap] :: L)) (fun r : SV => .slice r.a r.n r.cap) (fun r => SL w0 I (OwnS 3 r ids :: L)) := by
  refine Tr.intro Tryz.func123 rfl Tryz.ntmps123 rfl ?_
  repeat' (first | ((first | refine WLA.m rfl rfl ?_ ?_ | refine WLA.st rfl ?_ ?_ | refine WLA.x rfl rfl ?_ (fun x => ?_) | refine WLA.x0 rfl ?_ (fun x => ?_)); first | exact trivial | exact rfl | assumption | omega | (refine ⟨?_, ?_⟩ <;> omega) | (simp only [Room, lenS]; omega) | decide | skip) | (refine Stp.go ?_) | (refine WPA.ifT ?_) | (refine WPA.ifF ?_) | ((first | refine WPA.dec ?_); first | refine .inl ⟨by first | assumption | omega | with_reducible rfl | (refine fun h => h ?_; first | assumption | with_reducible rfl) | (simp only [lenS] <;> omega) | decide, ?_⟩ | refine .inr ⟨by first | assumption | omega | with_reducible rfl | (refine fun h => h ?_; first | assumption | with_reducible rfl) | (simp only [lenS] <;> omega) | decide, ?_⟩) | ((first | refine WPA.ifBt ?_ ?_ | refine WPA.ifBnf ?_ ?_); assumption) | ((first | refine WPA.ifBnt ?_ ?_ | refine WPA.ifBf ?_ ?_); assumption) | ((first | refine WPA.ifs ?_ ?_ | refine WPA.ifB ?_ ?_) <;> intro hc))
  revert x; intro A
  refine WPA.rangeS fun D rc hrc => ?_
  let Lk : Nat × SV → List HP := fun k => Ob (D + 1) (rc .ready none) :: Ob D (.deferred (some [])) :: Bk A 42 [.slice k.2.a k.2.n k.2.cap] :: OwnS 3 k.2 (ids.take k.1) :: L
  refine ⟨SV, fun _ => .tuple #[], fun _ => .ready, fun _ => none, fun q => Ob D (.deferred (some [])) :: Bk V 42 [.slice s.a s.n s.cap] :: Bk A 42 [.slice q.a q.n q.cap] :: OwnS 3 q ids :: L, ?_, ?_⟩
  · refine (Values1_tr (w0 := w0) (I := I) (V := V) (s := s) (ω := Empty) Lk (fun k => k.1) (fun k => k.1 ≤ ids.length) (fun z _ => z.elim) hs (by omega) ?_ (0, SV.nil) (Nat.zero_le _) rfl (fun x h => h)).conv (fun w h => ?_) ?_
    · rintro ⟨k, q⟩ hk hkl
      dsimp only at hk hkl
      have hroom : Room ((ids.take k).length + 1) 8 := ⟨by rw [List.length_take]; omega, by rw [List.length_take]; omega⟩
      have htk : ids.take (k + 1) = ids.take k ++ [at_ ids (k : Int)] := by rw [List.take_add_one, List.getElem?_eq_getElem hkl, at_nat ids k hkl]; rfl
      dsimp only [Lk]
      refine (YTr.ofS (val := fun y : (Nat × SV) ⊕ Empty => y.isLeft) hrc (agreeP rfl) rfl ?_)
      repeat' (first | ((first | refine WLA.m rfl rfl ?_ ?_ | refine WLA.st rfl ?_ ?_ | refine WLA.x rfl rfl ?_ (fun x => ?_) | refine WLA.x0 rfl ?_ (fun x => ?_)); first | exact trivial | exact rfl | assumption | omega | (refine ⟨?_, ?_⟩ <;> omega) | (simp only [Room, lenS]; omega) | decide | skip) | (refine Stp.go ?_) | (refine WPA.ifT ?_) | (refine WPA.ifF ?_) | ((first | refine WPA.dec ?_); first | refine .inl ⟨by first | assumption | omega | with_reducible rfl | (refine fun h => h ?_; first | assumption | with_reducible rfl) | (simp only [lenS] <;> omega) | decide, ?_⟩ | refine .inr ⟨by first | assumption | omega | with_reducible rfl | (refine fun h => h ?_; first | assumption | with_reducible rfl) | (simp only [lenS] <;> omega) | decide, ?_⟩) | ((first | refine WPA.ifBt ?_ ?_ | refine WPA.ifBnf ?_ ?_); assumption) | ((first | refine WPA.ifBnt ?_ ?_ | refine WPA.ifBf ?_ ?_); assumption) | ((first | refine WPA.ifs ?_ ?_ | refine WPA.ifB ?_ ?_) <;> intro hc))
      refine QQ.midS ?_
      repeat' (first | ((first | refine WLA.m rfl rfl ?_ ?_ | refine WLA.st rfl ?_ ?_ | refine WLA.x rfl rfl ?_ (fun x => ?_) | refine WLA.x0 rfl ?_ (fun x => ?_)); first | exact trivial | exact rfl | assumption | omega | (refine ⟨?_, ?_⟩ <;> omega) | (simp only [Room, lenS]; omega) | decide | skip) | (refine Stp.go ?_) | (refine WPA.ifT ?_) | (refine WPA.ifF ?_) | ((first | refine WPA.dec ?_); first | refine .inl ⟨by first | assumption | omega | with_reducible rfl | (refine fun h => h ?_; first | assumption | with_reducible rfl) | (simp only [lenS] <;> omega) | decide, ?_⟩ | refine .inr ⟨by first | assumption | omega | with_reducible rfl | (refine fun h => h ?_; first | assumption | with_reducible rfl) | (simp only [lenS] <;> omega) | decide, ?_⟩) | ((first | refine WPA.ifBt ?_ ?_ | refine WPA.ifBnf ?_ ?_); assumption) | ((first | refine WPA.ifBnt ?_ ?_ | refine WPA.ifBf ?_ ?_); assumption) | ((first | refine WPA.ifs ?_ ?_ | refine WPA.ifB ?_ ?_) <;> intro hc))
      exact QQ.rndN (fun w h => ⟨.inl (k + 1, x), rfl, ⟨⟨hkl, rfl⟩, by dsimp only; rw [htk]; exact h.to⟩⟩)
    · dsimp only [Lk]
      have h2 := (Ent.ownNil (α := Int) (t := 3) Ent.refl).sl h
      have h3 : SL w0 I (Bk V 42 [.slice s.a s.n s.cap] :: Ob (D + 1) (rc .ready none) :: Ob D (.deferred (some [])) :: Bk A 42 [.slice none 0 0] :: OwnS 3 SV.nil ([] : List Int) :: L) w := h2.to
      exact h3
    · rintro (⟨k, q⟩ | x) w hb
      · refine ⟨q, rfl, ?_⟩
        have h := hb.2
        have e : k = ids.length := hb.1.2
        subst e
        dsimp only [Lk] at h ⊢
        rw [List.take_length] at h
        exact h.to
      · exact x.elim
  · intro q
    refine ⟨by simp, ?_⟩
    show QQ _ _ _ _
    dsimp only
    repeat' (first | ((first | refine WLA.m rfl rfl ?_ ?_ | refine WLA.st rfl ?_ ?_ | refine WLA.x rfl rfl ?_ (fun x => ?_) | refine WLA.x0 rfl ?_ (fun x => ?_)); first | exact trivial | exact rfl | assumption | omega | (refine ⟨?_, ?_⟩ <;> omega) | (simp only [Room, lenS]; omega) | decide | skip) | (refine Stp.go ?_) | (refine WPA.ifT ?_) | (refine WPA.ifF ?_) | ((first | refine WPA.dec ?_); first | refine .inl ⟨by first | assumption | omega | with_reducible rfl | (refine fun h => h ?_; first | assumption | with_reducible rfl) | (simp only [lenS] <;> omega) | decide, ?_⟩ | refine .inr ⟨by first | assumption | omega | with_reducible rfl | (refine fun h => h ?_; first | assumption | with_reducible rfl) | (simp only [lenS] <;> omega) | decide, ?_⟩) | ((first | refine WPA.ifBt ?_ ?_ | refine WPA.ifBnf ?_ ?_); assumption) | ((first | refine WPA.ifBnt ?_ ?_ | refine WPA.ifBf ?_ ?_); assumption) | ((first | refine WPA.ifs ?_ ?_ | refine WPA.ifB ?_ ?_) <;> intro hc))
    exact QQ.fin [D] (L' := OwnS 3 q ids :: L) rfl (EntC.out (L' := Ob D (.deferred (some [])) :: OwnS 3 q ids :: L)) rfl q rfl fun w h => h.to
theorem Collect_tr {V : Nat} {s : SV} {ids : List Int} (hs : SlI I s Int inferInstance ids) (hn : ids.length ≤ 1000000) :
    Tr Tryz.prog 115 #[.func (.func 117) #[] #[.pointer (some ⟨V, 0, none⟩)]] (SL w0 I (Bk V 42 [.slice s.a s.n s.cap] :: L)) (fun r : SV => .slice r.a r.n r.cap) (fun r => SL w0 I (OwnS 3 r ids :: L)) := by
  refine Tr.intro Tryz.func115 rfl Tryz.ntmps115 rfl ?_
  repeat' (first | ((first | refine WLA.m rfl rfl ?_ ?_ | refine WLA.st rfl ?_ ?_ | refine WLA.x rfl rfl ?_ (fun x => ?_) | refine WLA.x0 rfl ?_ (fun x => ?_)); first | exact trivial | exact rfl | assumption | omega | (refine ⟨?_, ?_⟩ <;> omega) | (simp only [Room, lenS]; omega) | decide | skip) | (refine Stp.go ?_) | (guard_target =~ WLA _ _ _ _ _ (⟨_, .call ⟨.value (.func 123), _, _⟩, _, _, _, _⟩ :: _) _ _; refine WLA.call rfl rfl (AppendSeq_tr hs hn) ?_; rintro r) | (refine WPA.ifT ?_) | (refine WPA.ifF ?_) | ((first | refine WPA.dec ?_); first | refine .inl ⟨by first | assumption | omega | with_reducible rfl | (refine fun h => h ?_; first | assumption | with_reducible rfl) | (simp only [lenS] <;> omega) | decide, ?_⟩ | refine .inr ⟨by first | assumption | omega | with_reducible rfl | (refine fun h => h ?_; first | assumption | with_reducible rfl) | (simp only [lenS] <;> omega) | decide, ?_⟩) | ((first | refine WPA.ifBt ?_ ?_ | refine WPA.ifBnf ?_ ?_); assumption) | ((first | refine WPA.ifBnt ?_ ?_ | refine WPA.ifBf ?_ ?_); assumption) | ((first | refine WPA.ifs ?_ ?_ | refine WPA.ifB ?_ ?_) <;> intro hc))
  exact QQ.end_ rfl r rfl fun w h => h.to
theorem Sorted_tr {V : Nat} {s : SV} {ids : List Int} (hs : SlI I s Int inferInstance ids) (hn : ids.length ≤ 1000000) :
    Tr Tryz.prog 97 #[.func (.func 117) #[] #[.pointer (some ⟨V, 0, none⟩)]] (SL w0 I (Bk V 42 [.slice s.a s.n s.cap] :: L)) (fun r : SV => .slice r.a r.n r.cap) (fun r => SL w0 I (OwnS 3 r (srtI ids) :: L)) := by
  refine Tr.intro Tryz.func97 rfl Tryz.ntmps97 rfl ?_
  have hsort : ∀ {r : SV} {L : List HP}, Tr Tryz.prog 116 #[.slice r.a r.n r.cap] (SL w0 I (OwnS 3 r ids :: L)) (fun _ : Unit => .tuple #[]) (fun _ => SL w0 I (OwnS 3 r (srtI ids) :: L)) := fun {r L} => sortI_tr (ρ := Tryz.sortI_ren) Tryz.sortI (by omega)
  repeat' (first | ((first | refine WLA.m rfl rfl ?_ ?_ | refine WLA.st rfl ?_ ?_ | refine WLA.x rfl rfl ?_ (fun x => ?_) | refine WLA.x0 rfl ?_ (fun x => ?_)); first | exact trivial | exact rfl | assumption | omega | (refine ⟨?_, ?_⟩ <;> omega) | (simp only [Room, lenS]; omega) | decide | skip) | (refine Stp.go ?_) | (guard_target =~ WLA _ _ _ _ _ (⟨_, .call ⟨.value (.func 115), _, _⟩, _, _, _, _⟩ :: _) _ _; refine WLA.call rfl rfl (Collect_tr hs hn) ?_; rintro r) | (guard_target =~ WLA _ _ _ _ _ (⟨_, .call ⟨.value (.func 116), _, _⟩, _, _, _, _⟩ :: _) _ _; refine WLA.call rfl rfl (hsort) ?_; rintro ⟨⟩) | (refine WPA.ifT ?_) | (refine WPA.ifF ?_) | ((first | refine WPA.dec ?_); first | refine .inl ⟨by first | assumption | omega | with_reducible rfl | (refine fun h => h ?_; first | assumption | with_reducible rfl) | (simp only [lenS] <;> omega) | decide, ?_⟩ | refine .inr ⟨by first | assumption | omega | with_reducible rfl | (refine fun h => h ?_; first | assumption | with_reducible rfl) | (simp only [lenS] <;> omega) | decide, ?_⟩) | ((first | refine WPA.ifBt ?_ ?_ | refine WPA.ifBnf ?_ ?_); assumption) | ((first | refine WPA.ifBnt ?_ ?_ | refine WPA.ifBf ?_ ?_); assumption) | ((first | refine WPA.ifs ?_ ?_ | refine WPA.ifB ?_ ?_) <;> intro hc))
  exact QQ.end_ rfl r rfl fun w h => h.to
end
end Go.Proofs.YtamnobjdgjbmbaaGreat
namespace Go.Proofs.YtamnobjdgjbmbaaGreat
open Go Go.Fw Go.RowKit
set_option linter.unusedVariables false
set_option linter.unusedSimpArgs false
set_option maxRecDepth 100000
set_option maxHeartbeats 16000000
set_option synthInstance.maxHeartbeats 200000
set_option synthInstance.maxSize 100000
attribute [local irreducible] WPA WLA WDA WDQ WDE QQ seqQ blockQ loopQ fnQ OpP OpT Tr TrP SL SLd OwnS LitS Bk BkE Ob
section
variable {S : Nat} {m : BS} {L L' : List HP} {w0 : World} {I : Foot}
theorem runFree_ok {o n : Int} {b : SV} {ids : List Int} [h : FindK L StoreR S m L'] (ok : m.Ok) (hs : SlI I b Int inferInstance ids) (hn : ids.length ≤ 1000000) (hr : Right m ids) :
    Tr Tryz.prog 72 #[.pointer (some ⟨S, 0, none⟩), .agg #[.int .i64 o, .int .i64 n, .slice b.a b.n b.cap]] (SL w0 I L) (fun _ : Unit => .int .i64 0) (fun _ => SL w0 I (StoreR S ((srtI ids).foldl BS.free m) :: L')) := by
  refine Tr.at h.out ?_
  refine Tr.intro Tryz.func72 rfl Tryz.ntmps72 rfl ?_
  have hsl := srt_len ids
  have hro := fun {j : Nat} => ok_of (j := j) hr
  have hall : ∀ i ∈ srtI ids, Has m.tk i := fun i hi => hr.1 i ((srt_perm ids).mem_iff.1 hi)
  have hnd : (srtI ids).Nodup := (srt_perm ids).nodup_iff.2 hr.2
  generalize hsr : srtI ids = srt at hsl hro hall hnd ⊢
  have hst : ∀ {V : Nat} {L : List HP}, Tr Tryz.prog 97 #[.func (.func 117) #[] #[.pointer (some ⟨V, 0, none⟩)]] (SL w0 I (Bk V 42 [.slice b.a b.n b.cap] :: L)) (fun r : SV => .slice r.a r.n r.cap) (fun r => SL w0 I (OwnS 3 r srt :: L)) := fun {V L} => by rw [← hsr]; exact Sorted_tr hs hn
  repeat' (first | ((first | refine WLA.m rfl rfl ?_ ?_ | refine WLA.st rfl ?_ ?_ | refine WLA.x rfl rfl ?_ (fun x => ?_) | refine WLA.x0 rfl ?_ (fun x => ?_)); first | exact trivial | exact rfl | assumption | omega | (refine ⟨?_, ?_⟩ <;> omega) | (simp only [Room, lenS]; omega) | decide | skip) | (refine Stp.go ?_) | (guard_target =~ WLA _ _ _ _ _ (⟨_, .call ⟨.value (.func 98), _, _⟩, _, _, _, _⟩ :: _) _ _; refine WLA.call rfl rfl (Values_tr) ?_; rintro V) | (guard_target =~ WLA _ _ _ _ _ (⟨_, .call ⟨.value (.func 97), _, _⟩, _, _, _, _⟩ :: _) _ _; refine WLA.call rfl rfl (hst) ?_; rintro q) | (refine WPA.ifT ?_) | (refine WPA.ifF ?_) | ((first | refine WPA.dec ?_); first | refine .inl ⟨by first | assumption | omega | with_reducible rfl | (refine fun h => h ?_; first | assumption | with_reducible rfl) | (simp only [lenS] <;> omega) | decide, ?_⟩ | refine .inr ⟨by first | assumption | omega | with_reducible rfl | (refine fun h => h ?_; first | assumption | with_reducible rfl) | (simp only [lenS] <;> omega) | decide, ?_⟩) | ((first | refine WPA.ifBt ?_ ?_ | refine WPA.ifBnf ?_ ?_); assumption) | ((first | refine WPA.ifBnt ?_ ?_ | refine WPA.ifBf ?_ ?_); assumption) | ((first | refine WPA.ifs ?_ ?_ | refine WPA.ifB ?_ ?_) <;> intro hc))
  refine WPA.loopS (σ := Nat) (fun i => [(0, .pointer (some ⟨S, 0, none⟩)), (5, .slice q.a q.n q.cap), (18, .slice q.a q.n q.cap), (19, .int .i64 srt.length), (20, .int .i64 i)]) (fun i => i ≤ srt.length) (fun i => SL w0 I (OwnS 3 q srt :: StoreR S m :: L')) (fun i => srt.length - i) 0 ⟨rfl, rfl, rfl, rfl, rfl, trivial⟩ (Nat.zero_le _) (fun w h => h.to) ?_
  intro i ρ hi
  by_cases hlt : i < srt.length
  · have hlt' : (i : Int) < srt.length := by omega
    have hir : (0 : Int) ≤ i ∧ (i : Int) < srt.length := by omega
    have hok := hro hlt
    unfold OkAt at hok
    obtain ⟨id, hid⟩ : ∃ id : Int, at_ srt (i : Int) = id := ⟨_, rfl⟩
    rw [hid] at hok
    have hh := hok.1
    by_cases h0 : 0 < i
    · have h0' : (0 : Int) < i := by omega
      have hir2 : (0 : Int) ≤ (i : Int) - 1 ∧ (i : Int) - 1 < srt.length := by omega
      obtain ⟨p, hp⟩ : ∃ p : Int, at_ srt ((i : Int) - 1) = p := ⟨_, rfl⟩
      have he : ¬ p = id := by rw [← hp]; exact hok.2 h0
      repeat' (first | ((rw [hid])) | ((rw [hp])) | ((first | refine WLA.m rfl rfl ?_ ?_ | refine WLA.st rfl ?_ ?_ | refine WLA.x rfl rfl ?_ (fun x => ?_) | refine WLA.x0 rfl ?_ (fun x => ?_)); first | exact trivial | exact rfl | assumption | omega | (refine ⟨?_, ?_⟩ <;> omega) | (simp only [Room, lenS]; omega) | decide | skip) | (refine Stp.go ?_) | (guard_target =~ WLA _ _ _ _ _ (⟨_, .call ⟨.value (.func 74), _, _⟩, _, _, _, _⟩ :: _) _ _; refine WLA.call rfl rfl (Read_tr hh) ?_; rintro ⟨⟩) | (refine WPA.ifT ?_) | (refine WPA.ifF ?_) | (refine WLA.no rfl rfl ?_) | ((first | refine WPA.dec ?_ | ((fail_if_success (guard_target =~ WLA _ _ _ _ _ _ (put1 _ _ (.bool true)) _)); (fail_if_success (guard_target =~ WLA _ _ _ _ _ _ (put1 _ _ (.bool false)) _)); refine WLA.dec rfl rfl ?_) | refine WLA.pk ?_); first | refine .inl ⟨by first | assumption | omega | with_reducible rfl | (refine fun h => h ?_; first | assumption | with_reducible rfl) | (simp only [lenS] <;> omega) | decide, ?_⟩ | refine .inr ⟨by first | assumption | omega | with_reducible rfl | (refine fun h => h ?_; first | assumption | with_reducible rfl) | (simp only [lenS] <;> omega) | decide, ?_⟩) | ((first | refine WPA.ifBt ?_ ?_ | refine WPA.ifBnf ?_ ?_); assumption) | ((first | refine WPA.ifBnt ?_ ?_ | refine WPA.ifBf ?_ ?_); assumption) | ((first | refine WPA.ifs ?_ ?_ | refine WPA.ifB ?_ ?_) <;> intro hc) | ((fail_if_success (guard_target =~ WLA _ _ _ _ _ _ (put1 _ _ (.bool true)) _)); (fail_if_success (guard_target =~ WLA _ _ _ _ _ _ (put1 _ _ (.bool false)) _)); (first | refine WLA.both rfl rfl ?_ ?_ | refine WLA.bothB rfl rfl ?_ ?_) <;> intro hg))
      exact QQ.loopS (i + 1) ⟨rfl, rfl, rfl, rfl, rfl, trivial⟩ hlt (by omega) (fun w h => h.to)
    · have h0' : ¬ (0 : Int) < i := by omega
      repeat' (first | ((rw [hid])) | ((first | refine WLA.m rfl rfl ?_ ?_ | refine WLA.st rfl ?_ ?_ | refine WLA.x rfl rfl ?_ (fun x => ?_) | refine WLA.x0 rfl ?_ (fun x => ?_)); first | exact trivial | exact rfl | assumption | omega | (refine ⟨?_, ?_⟩ <;> omega) | (simp only [Room, lenS]; omega) | decide | skip) | (refine Stp.go ?_) | (guard_target =~ WLA _ _ _ _ _ (⟨_, .call ⟨.value (.func 74), _, _⟩, _, _, _, _⟩ :: _) _ _; refine WLA.call rfl rfl (Read_tr hh) ?_; rintro ⟨⟩) | (refine WPA.ifT ?_) | (refine WPA.ifF ?_) | (refine WLA.no rfl rfl ?_) | ((first | refine WPA.dec ?_ | ((fail_if_success (guard_target =~ WLA _ _ _ _ _ _ (put1 _ _ (.bool true)) _)); (fail_if_success (guard_target =~ WLA _ _ _ _ _ _ (put1 _ _ (.bool false)) _)); refine WLA.dec rfl rfl ?_) | refine WLA.pk ?_); first | refine .inl ⟨by first | assumption | omega | with_reducible rfl | (refine fun h => h ?_; first | assumption | with_reducible rfl) | (simp only [lenS] <;> omega) | decide, ?_⟩ | refine .inr ⟨by first | assumption | omega | with_reducible rfl | (refine fun h => h ?_; first | assumption | with_reducible rfl) | (simp only [lenS] <;> omega) | decide, ?_⟩) | ((first | refine WPA.ifBt ?_ ?_ | refine WPA.ifBnf ?_ ?_); assumption) | ((first | refine WPA.ifBnt ?_ ?_ | refine WPA.ifBf ?_ ?_); assumption) | ((first | refine WPA.ifs ?_ ?_ | refine WPA.ifB ?_ ?_) <;> intro hc) | ((fail_if_success (guard_target =~ WLA _ _ _ _ _ _ (put1 _ _ (.bool true)) _)); (fail_if_success (guard_target =~ WLA _ _ _ _ _ _ (put1 _ _ (.bool false)) _)); (first | refine WLA.both rfl rfl ?_ ?_ | refine WLA.bothB rfl rfl ?_ ?_) <;> intro hg))
      exact QQ.loopS (i + 1) ⟨rfl, rfl, rfl, rfl, rfl, trivial⟩ hlt (by omega) (fun w h => h.to)
  · have hlt' : ¬ (i : Int) < srt.length := by omega
    repeat' (first | ((first | refine WLA.m rfl rfl ?_ ?_ | refine WLA.st rfl ?_ ?_ | refine WLA.x rfl rfl ?_ (fun x => ?_) | refine WLA.x0 rfl ?_ (fun x => ?_)); first | exact trivial | exact rfl | assumption | omega | (refine ⟨?_, ?_⟩ <;> omega) | (simp only [Room, lenS]; omega) | decide | skip) | (refine Stp.go ?_) | (refine WPA.ifT ?_) | (refine WPA.ifF ?_) | ((first | refine WPA.dec ?_); first | refine .inl ⟨by first | assumption | omega | with_reducible rfl | (refine fun h => h ?_; first | assumption | with_reducible rfl) | (simp only [lenS] <;> omega) | decide, ?_⟩ | refine .inr ⟨by first | assumption | omega | with_reducible rfl | (refine fun h => h ?_; first | assumption | with_reducible rfl) | (simp only [lenS] <;> omega) | decide, ?_⟩) | ((first | refine WPA.ifBt ?_ ?_ | refine WPA.ifBnf ?_ ?_); assumption) | ((first | refine WPA.ifBnt ?_ ?_ | refine WPA.ifBf ?_ ?_); assumption) | ((first | refine WPA.ifs ?_ ?_ | refine WPA.ifB ?_ ?_) <;> intro hc))
    refine WPA.loopS (σ := Nat) (fun i => [(0, .pointer (some ⟨S, 0, none⟩)), (47, .slice q.a q.n q.cap), (48, .int .i64 srt.length), (49, .int .i64 i)]) (fun i => i ≤ srt.length) (fun i => SL w0 I (OwnS 3 q srt :: StoreR S ((srt.take i).foldl BS.free m) :: L')) (fun i => srt.length - i) 0 ⟨rfl, rfl, rfl, rfl, trivial⟩ (Nat.zero_le _) (fun w h => (h.to : SL w0 I (OwnS 3 q srt :: StoreR S m :: L') w)) ?_
    intro k ρ hk
    by_cases hkl : k < srt.length
    · have hkl' : (k : Int) < srt.length := by omega
      have hkr : (0 : Int) ≤ k ∧ (k : Int) < srt.length := by omega
      have F := frees (srt.take k) ok (hnd.sublist (List.take_sublist _ _)) fun i hi => hall i (List.mem_of_mem_take hi)
      have hat := at_nat srt k hkl
      have hnot : srt[k] ∉ srt.take k := fun h => by
        obtain ⟨j, hj, e⟩ := List.mem_iff_getElem.1 h
        rw [List.length_take] at hj
        rw [List.getElem_take] at e
        exact List.pairwise_iff_getElem.1 (List.nodup_iff_pairwise_ne.1 hnd) j k (by omega) hkl (by omega) e
      have hhk := (F.keep _ (hall _ (List.getElem_mem hkl)) hnot).1
      have htk : (srt.take (k + 1)).foldl BS.free m = ((srt.take k).foldl BS.free m).free srt[k] := by rw [List.take_add_one, List.getElem?_eq_getElem hkl, List.foldl_append]; rfl
      have hFo := F.ok
      generalize (srt.take k).foldl BS.free m = mk at hhk htk hFo ⊢
      generalize srt[k] = id at hat hhk htk
      repeat' (first | ((rw [hat])) | ((first | refine WLA.m rfl rfl ?_ ?_ | refine WLA.st rfl ?_ ?_ | refine WLA.x rfl rfl ?_ (fun x => ?_) | refine WLA.x0 rfl ?_ (fun x => ?_)); first | exact trivial | exact rfl | assumption | omega | (refine ⟨?_, ?_⟩ <;> omega) | (simp only [Room, lenS]; omega) | decide | skip) | (refine Stp.go ?_) | (guard_target =~ WLA _ _ _ _ _ (⟨_, .call ⟨.value (.func 99), _, _⟩, _, _, _, _⟩ :: _) _ _; refine WLA.call rfl rfl (Free_tr hhk (used_pos hFo hhk)) ?_; rintro ⟨⟩) | (refine WPA.ifT ?_) | (refine WPA.ifF ?_) | ((first | refine WPA.dec ?_); first | refine .inl ⟨by first | assumption | omega | with_reducible rfl | (refine fun h => h ?_; first | assumption | with_reducible rfl) | (simp only [lenS] <;> omega) | decide, ?_⟩ | refine .inr ⟨by first | assumption | omega | with_reducible rfl | (refine fun h => h ?_; first | assumption | with_reducible rfl) | (simp only [lenS] <;> omega) | decide, ?_⟩) | ((first | refine WPA.ifBt ?_ ?_ | refine WPA.ifBnf ?_ ?_); assumption) | ((first | refine WPA.ifBnt ?_ ?_ | refine WPA.ifBf ?_ ?_); assumption) | ((first | refine WPA.ifs ?_ ?_ | refine WPA.ifB ?_ ?_) <;> intro hc))
      exact QQ.loopS (k + 1) ⟨rfl, rfl, rfl, rfl, trivial⟩ hkl (by omega) (fun w h => by rw [htk]; exact h.to)
    · have hkl' : ¬ (k : Int) < srt.length := by omega
      rw [List.take_of_length_le (by omega)]
      repeat' (first | ((first | refine WLA.m rfl rfl ?_ ?_ | refine WLA.st rfl ?_ ?_ | refine WLA.x rfl rfl ?_ (fun x => ?_) | refine WLA.x0 rfl ?_ (fun x => ?_)); first | exact trivial | exact rfl | assumption | omega | (refine ⟨?_, ?_⟩ <;> omega) | (simp only [Room, lenS]; omega) | decide | skip) | (refine Stp.go ?_) | (refine WPA.ifT ?_) | (refine WPA.ifF ?_) | ((first | refine WPA.dec ?_); first | refine .inl ⟨by first | assumption | omega | with_reducible rfl | (refine fun h => h ?_; first | assumption | with_reducible rfl) | (simp only [lenS] <;> omega) | decide, ?_⟩ | refine .inr ⟨by first | assumption | omega | with_reducible rfl | (refine fun h => h ?_; first | assumption | with_reducible rfl) | (simp only [lenS] <;> omega) | decide, ?_⟩) | ((first | refine WPA.ifBt ?_ ?_ | refine WPA.ifBnf ?_ ?_); assumption) | ((first | refine WPA.ifBnt ?_ ?_ | refine WPA.ifBf ?_ ?_); assumption) | ((first | refine WPA.ifs ?_ ?_ | refine WPA.ifB ?_ ?_) <;> intro hc))
      exact QQ.end_ rfl () rfl fun w h => h.to
end
end Go.Proofs.YtamnobjdgjbmbaaGreat
