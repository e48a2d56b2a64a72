/- Texts that ArpaParses_law leans on, part 13. Conditions: none. -/
import Derived.Lib.AppendStr
import Derived.Lib.Builder
import Derived.Lib.UnsafeStr
import Derived.Laws.Externs
import Derived.Shelf.Strconv.Itoa3
import Derived.Shelf.Strings.OnBuilder
import Derived.Test.YthkhneimfjaohaaGreatDoorProg
import Derived.Test.YthkhneimfjaohaaGreatDoorQq12
namespace Go.Proofs.YthkhneimfjaohaaGreatDoor
open Go Go.Fw Go.RowKit
set_option linter.unusedVariables false
set_option linter.unusedSimpArgs false
set_option maxRecDepth 100000
set_option maxHeartbeats 16000000
set_option synthInstance.maxHeartbeats 200000
set_option synthInstance.maxSize 100000
attribute [local irreducible] WPA WLA WDA WDQ WDE QQ seqQ blockQ loopQ fnQ OpP OpT Tr TrP SL SLd OwnS LitS Bk BkE Ob
attribute [local irreducible] fnX TrX
abbrev EnM := SV × Int × Int
abbrev EnL := List Int × Int × Int
def idsN : List ByteArray → Nat → (ByteArray → Option Int) → (ByteArray → Option Int)
  | [], _, f => f
  | w :: l, i, f => idsN l (i + 1) (if (f w).isSome then f else setS f w i)
def idsM (f : ByteArray → Option Int) (line : Int) : List ByteArray → Except (Int × Int) (List Int)
  | [] => .ok []
  | w :: l => match f w with
    | none => .error (line, 10)
    | some v => (idsM f line l).map (v :: ·)
def rowF (f : ByteArray → Option Int) : List GrL → Except (Int × Int) (List EnL)
  | [] => .ok []
  | g :: l => match idsM f g.line g.words with
    | .error e => .error e
    | .ok G => (rowF f l).map ((G, g.prob, g.back) :: ·)
def rowsF (f : ByteArray → Option Int) : List (List GrL) → Except (Int × Int) (List (List EnL))
  | [] => .ok []
  | r :: l => match rowF f r with
    | .error e => .error e
    | .ok es => (rowsF f l).map (es :: ·)
def wdsF (l : List GrL) : List ByteArray := l.map fun g => nthB g.words 0
def idF (l : List GrL) : ByteArray → Option Int := idsN (wdsF l) 0 (fun _ => none)
instance : ZeroV Tryz.prog 3 (.int .i64 0) := ⟨by kernel_rfl⟩
def EnI (J : Foot) (e : EnM) (x : EnL) : Prop := e.2 = x.2 ∧ SlI J e.1 Int inferInstance x.1
def EnsI (J : Foot) (es : List EnM) (l : List EnL) : Prop := es.length = l.length ∧ ∀ j : Nat, j < l.length → EnI J (at_ es (j : Int)) (l.getD j ([], 0, 0))
def RowV (J : Foot) (v : SV) (l : List EnL) : Prop := ∃ es : List EnM, SlI J v EnM inferInstance es ∧ EnsI J es l
theorem EnsI.sub {J J' : Foot} {es : List EnM} {l : List EnL} (h : EnsI J es l) (k : SubI J' J) : EnsI J' es l := ⟨h.1, fun j hj => ⟨(h.2 j hj).1, (h.2 j hj).2.sub (hs := k)⟩⟩
theorem RowV.sub {J J' : Foot} {v : SV} {l : List EnL} (h : RowV J v l) (k : SubI J' J) : RowV J' v l := by
  obtain ⟨es, h1, h2⟩ := h
  exact ⟨es, h1.sub (hs := k), h2.sub k⟩
theorem snocX {α β : Type} [Enc α] {R : α → β → Prop} {d : β} {es : List α} {l : List β} {e : α} {x : β} (h : es.length = l.length ∧ ∀ j : Nat, j < l.length → R (at_ es (j : Int)) (l.getD j d)) (k : R e x) : (es ++ [e]).length = (l ++ [x]).length ∧ ∀ j : Nat, j < (l ++ [x]).length → R (at_ (es ++ [e]) (j : Int)) ((l ++ [x]).getD j d) := by
  have h1 := h.1
  refine ⟨by simp [h1], fun j hj => ?_⟩
  rw [List.length_append, List.length_singleton] at hj
  rw [at_nat _ j (by simp; omega), List.getElem_append, List.getD_eq_getElem?_getD, List.getElem?_append]
  by_cases hjl : j < es.length
  · rw [dif_pos hjl, if_pos (by omega), ← List.getD_eq_getElem?_getD, ← at_nat es j hjl]; exact h.2 j (by omega)
  · rw [dif_neg hjl, if_neg (by omega)]
    have e0 : j - l.length = 0 := by omega
    rw [e0]; simpa using k
theorem map_nilL {ε α : Type} : ∀ x : Except ε (List α), x.map (fun r => ([] : List α) ++ r) = x
  | .ok _ => rfl
  | .error _ => rfl
structure TW2 where
  k : Nat
  g : SV
  rows : List SV
  dn : List (List EnL)
  J : Foot
structure TW3 where
  i : Nat
  l : SV
  es : List EnM
  dl : List EnL
  J : Foot
structure TW4 where
  j : Nat
  q : SV
  ids : List Int
structure TW1 where
  i : Nat
  w : SV
  f : ByteArray → Option Int
section
variable {L L' : List HP} {w0 : World} {I : Foot}
theorem told_trX {av : SV} {vs : List SV} {gss : List (List GrL)} {fr : Int} [hav : SlI I av SV inferInstance vs] (hvl : vs.length = gss.length) (hpos : 0 < gss.length) (hrow : ∀ j : Nat, j < gss.length → RowG I (at_ vs (j : Int)) (gss.getD j [])) (hgl : gss.length ≤ 8) (hwl0 : ∀ r ∈ gss, ∀ g ∈ r, g.words.length ≤ 1000001) (hlen : ∀ r ∈ gss, r.length ≤ 1000000) (hw1 : ∀ g ∈ gss.getD 0 [], 0 < g.words.length) :
    TrX Tryz.prog 26 #[.int .i64 fr, .slice av.a av.n av.cap] (SL w0 I L)
      (fun x : SV × SV × List SV × List (List EnL) × Foot => .agg #[.int .i64 fr, .slice x.1.a x.1.n x.1.cap, .slice x.2.1.a x.2.1.n x.2.1.cap])
      (fun x w => (rowsF (idF (gss.getD 0 [])) gss = .ok x.2.2.2.1 ∧ SubI x.2.2.2.2 I ∧ SlI x.2.2.2.2 x.1 ByteArray inferInstance (wdsF (gss.getD 0 [])) ∧ (x.2.2.1.length = x.2.2.2.1.length ∧ ∀ j : Nat, j < x.2.2.2.1.length → RowV x.2.2.2.2 (at_ x.2.2.1 (j : Int)) (x.2.2.2.1.getD j []))) ∧ SL w0 x.2.2.2.2 (OwnS 39 x.2.1 x.2.2.1 :: L) w)
      (fun y : { y : Int × Int // rowsF (idF (gss.getD 0 [])) gss = .error y } => wrV y.1) (fun _ => SL w0 I L) := by
  refine TrX.intro Tryz.func26 rfl Tryz.ntmps26 rfl ?_
  have h00 : (0 : Int) ≤ 0 ∧ (0 : Int) < vs.length := by omega
  obtain ⟨es, he, hG⟩ := hrow 0 hpos
  obtain ⟨g0, hg0⟩ : ∃ g0, gss.getD 0 [] = g0 := ⟨_, rfl⟩
  rw [hg0] at hG hw1 ⊢
  obtain ⟨r0, hr0⟩ : ∃ r0, at_ vs (((0 : Nat) : Int)) = r0 := ⟨_, rfl⟩
  have hr0' : at_ vs 0 = r0 := hr0
  rw [hr0] at he
  repeat' (first | ((rw [hr0'])) | ((first | refine WLA.m rfl rfl ?_ ?_ | refine WLA.st rfl ?_ ?_ | refine WLA.x rfl rfl ?_ (fun x => ?_) | refine WLA.x0 rfl ?_ (fun x => ?_)); first | exact sdT | skip) | (refine Stp.go ?_) | (refine WPA.ifT ?_) | (refine WPA.ifF ?_) | ((first | refine WPA.dec ?_); first | refine orL ?_ | refine orR ?_) | ((first | refine WPA.ifBt ?_ ?_ | refine WPA.ifBnf ?_ ?_); assumption) | ((first | refine WPA.ifBnt ?_ ?_ | refine WPA.ifBf ?_ ?_); assumption) | ((first | refine WPA.ifs ?_ ?_ | refine WPA.ifB ?_ ?_) <;> intro hc))
  revert x; intro M
  revert x; intro X5
  revert x; intro X4
  have hel := hG.1
  have hgm : g0 ∈ gss := by rw [← hg0, List.getD_eq_getElem?_getD, List.getElem?_eq_getElem hpos]; exact List.getElem_mem _
  have hg0l := hlen _ hgm
  refine WPA.loopS (σ := TW1) (fun y => [(1, .slice av.a av.n av.cap), (4, .pointer (some ⟨X4, 0, none⟩)), (5, .pointer (some ⟨X5, 0, none⟩)), (6, .map (some M)), (26, .slice r0.a r0.n r0.cap), (27, .int .i64 es.length), (28, .int .i64 y.i)])
    (fun y => y.i ≤ g0.length ∧ idsN ((wdsF g0).drop y.i) y.i y.f = idF g0) (fun y => SL w0 I (OwnS 9 y.w ((wdsF g0).take y.i) :: MapS M y.f :: Bk X5 25 [.int .i64 fr, .slice y.w.a y.w.n y.w.cap, .slice none 0 0] :: Bk X4 25 [.int .i64 0, .slice none 0 0, .slice none 0 0] :: L)) (fun y => g0.length - y.i) ⟨0, SV.nil, fun _ => none⟩ ⟨rfl, rfl, rfl, rfl, rfl, rfl, rfl, trivial⟩ ⟨Nat.zero_le _, rfl⟩ (fun w h => by
      have h2 := (Ent.ownNil (α := ByteArray) (t := 9) Ent.refl).sl h
      show SL w0 I (OwnS 9 SV.nil ([] : List ByteArray) :: MapS M (fun _ => none) :: Bk X5 25 [.int .i64 fr, .slice none 0 0, .slice none 0 0] :: Bk X4 25 [.int .i64 0, .slice none 0 0, .slice none 0 0] :: L) w
      exact h2.to) ?_
  rintro ⟨i, w, f⟩ ρ ⟨hi, hf⟩
  dsimp only at hi hf ⊢
  by_cases hlt : i < g0.length
  · have hlt' : (i : Int) < es.length := by omega
    have hir : (0 : Int) ≤ i ∧ (i : Int) < es.length := by omega
    have hgi := hG.2 i hlt
    have hgm2 : g0.getD i ⟨0, [], 0, 0⟩ ∈ g0 := by rw [List.getD_eq_getElem?_getD, List.getElem?_eq_getElem hlt]; exact List.getElem_mem _
    have hw1i := hw1 _ hgm2
    have hwd : (wdsF g0).drop i = nthB (g0.getD i ⟨0, [], 0, 0⟩).words 0 :: (wdsF g0).drop (i + 1) := by
      have hl2 : i < (wdsF g0).length := by unfold wdsF; rw [List.length_map]; exact hlt
      rw [List.drop_eq_getElem_cons hl2]; congr 1
      simp [wdsF, List.getD_eq_getElem?_getD, hlt]
    obtain ⟨e, hee⟩ : ∃ e, at_ es (i : Int) = e := ⟨_, rfl⟩
    rw [hee] at hgi
    generalize g0.getD i ⟨0, [], 0, 0⟩ = g at hgi hw1i hwd
    obtain ⟨en, ew, ep, eb⟩ := e
    obtain ⟨⟨e1, e2, e3⟩, hws⟩ := hgi
    dsimp only at e1 e2 e3 hws
    have hz : (0 : Int) ≤ 0 ∧ (0 : Int) < g.words.length := by omega
    have ew0 : at_ g.words 0 = nthB g.words 0 := nth_at g.words 0
    have hroom : Room (((wdsF g0).take i).length + 1) 16 := ⟨by rw [List.length_take]; omega, by rw [List.length_take]; omega⟩
    rw [hwd, idsN] at hf
    obtain ⟨wd, hwd2⟩ : ∃ q, nthB g.words 0 = q := ⟨_, rfl⟩
    rw [hwd2] at hf ew0 hwd
    by_cases hfs : (f wd).isSome = true
    · rw [if_pos hfs] at hf
      have hbt : (!true) = false := rfl
      repeat' (first | ((rw [hee])) | ((rw [ew0])) | ((rw [hfs])) | ((rw [hbt])) | ((first | refine WLA.m rfl rfl ?_ ?_ | refine WDQ.m rfl rfl ?_ ?_ | refine WLA.st rfl ?_ ?_ | refine WLA.x rfl rfl ?_ (fun x => ?_) | refine WLA.x0 rfl ?_ (fun x => ?_)); first | exact sdT | skip) | (refine Stp.go ?_) | (refine WPA.ifT ?_) | (refine WPA.ifF ?_) | ((first | refine WPA.dec ?_); first | refine orL ?_ | refine orR ?_) | ((first | refine WPA.ifBt ?_ ?_ | refine WPA.ifBnf ?_ ?_); assumption) | ((first | refine WPA.ifBnt ?_ ?_ | refine WPA.ifBf ?_ ?_); assumption) | ((first | refine WPA.ifs ?_ ?_ | refine WPA.ifB ?_ ?_) <;> intro hc) | (guard_target =~ WPA _ _ _ (.region 6 _ true) _ _ _; refine WPA.drawT 7 (.q 0 (.q 1 (.q 2 (.q 3 (.q 4 (.q 5 (.e 6 .fin))))))) mixed ?_ ?_; kernel_rfl) | (refine WDA.finish (tl := [⟨_, _, _, _, _, _⟩, ⟨_, _, _, _, _, _⟩, ⟨_, _, _, _, _, _⟩]) rfl ?_) | (refine WDQ.see rfl ?_) | (refine WDE.see rfl ?_) | (refine WDE.alloc rfl rfl (fun w h => h) (fun x => ?_)) | (refine WDE.stE rfl ?_) | (refine WDE.x rfl rfl ?_ ?_ (fun x => ?_); rotate_left 1; (intro x w h; first | exact h | exact Ent.drop1.sl h | exact SL.unI h | exact SL.to h); rotate_left 1; first | exact sdT | skip))
      exact QQ.loopS ⟨i + 1, x, f⟩ ⟨rfl, rfl, rfl, rfl, rfl, rfl, rfl, trivial⟩ ⟨hlt, hf⟩ (by dsimp only; omega) (fun w h => by
        have e : (wdsF g0).take (i + 1) = (wdsF g0).take i ++ [wd] := by
          have hl2 : i < (wdsF g0).length := by unfold wdsF; rw [List.length_map]; exact hlt
          rw [List.take_add_one, List.getElem?_eq_getElem hl2]
          rw [List.drop_eq_getElem_cons hl2] at hwd
          injection hwd with h1 _
          rw [h1]; rfl
        dsimp only
        rw [e]
        exact h.to)
    · rw [if_neg hfs] at hf
      have hfn : (f wd).isSome = false := by simpa using hfs
      have hbf : (!false) = true := rfl
      repeat' (first | ((rw [hee])) | ((rw [ew0])) | ((rw [hfn])) | ((rw [hbf])) | ((first | refine WLA.m rfl rfl ?_ ?_ | refine WDQ.m rfl rfl ?_ ?_ | refine WLA.st rfl ?_ ?_ | refine WLA.x rfl rfl ?_ (fun x => ?_) | refine WLA.x0 rfl ?_ (fun x => ?_)); first | exact sdT | skip) | (refine Stp.go ?_) | (refine WPA.ifT ?_) | (refine WPA.ifF ?_) | ((first | refine WPA.dec ?_); first | refine orL ?_ | refine orR ?_) | ((first | refine WPA.ifBt ?_ ?_ | refine WPA.ifBnf ?_ ?_); assumption) | ((first | refine WPA.ifBnt ?_ ?_ | refine WPA.ifBf ?_ ?_); assumption) | ((first | refine WPA.ifs ?_ ?_ | refine WPA.ifB ?_ ?_) <;> intro hc) | (guard_target =~ WPA _ _ _ (.region 6 _ true) _ _ _; refine WPA.drawT 7 (.q 0 (.q 1 (.q 2 (.q 3 (.q 4 (.q 5 (.e 6 .fin))))))) mixed ?_ ?_; kernel_rfl) | (refine WDA.finish (tl := [⟨_, _, _, _, _, _⟩, ⟨_, _, _, _, _, _⟩, ⟨_, _, _, _, _, _⟩]) rfl ?_) | (refine WDQ.see rfl ?_) | (refine WDE.see rfl ?_) | (refine WDE.alloc rfl rfl (fun w h => h) (fun x => ?_)) | (refine WDE.stE rfl ?_) | (refine WDE.x rfl rfl ?_ ?_ (fun x => ?_); rotate_left 1; (intro x w h; first | exact h | exact Ent.drop1.sl h | exact SL.unI h | exact SL.to h); rotate_left 1; first | exact sdT | skip))
      exact QQ.loopS ⟨i + 1, x, setS f wd i⟩ ⟨rfl, rfl, rfl, rfl, rfl, rfl, rfl, trivial⟩ ⟨hlt, hf⟩ (by dsimp only; omega) (fun w h => by
        have e : (wdsF g0).take (i + 1) = (wdsF g0).take i ++ [wd] := by
          have hl2 : i < (wdsF g0).length := by unfold wdsF; rw [List.length_map]; exact hlt
          rw [List.take_add_one, List.getElem?_eq_getElem hl2]
          rw [List.drop_eq_getElem_cons hl2] at hwd
          injection hwd with h1 _
          rw [h1]; rfl
        dsimp only
        rw [e]
        exact h.to)
  · have hlt' : ¬ (i : Int) < es.length := by omega
    have hwl : (wdsF g0).length = g0.length := by unfold wdsF; rw [List.length_map]
    rw [List.drop_of_length_le (by omega), idsN] at hf
    rw [List.take_of_length_le (by omega)]
    subst hf
    obtain ⟨F, hF⟩ : ∃ F, idF g0 = F := ⟨_, rfl⟩
    rw [hF]
    obtain ⟨A0, hA0⟩ : ∃ A0, rowsF F gss = A0 := ⟨_, rfl⟩
    rw [hA0]
    refine WPA.freeze fun R0 hR0 => ?_
    have sw : SlI (R0 ++ I) w ByteArray inferInstance (wdsF g0) := by have := SlI.ofOwn hR0; infer_instance
    have hJ0 : SubI (R0 ++ I) I := inferInstance
    clear hR0
    generalize R0 ++ I = J0 at sw hJ0 ⊢
    generalize wdsF g0 = wl at sw ⊢
    have hav0 : SlI J0 av SV inferInstance vs := hav.sub
    repeat' (first | ((first | refine WLA.m rfl rfl ?_ ?_ | refine WLA.st rfl ?_ ?_ | refine WLA.x rfl rfl ?_ (fun x => ?_) | refine WLA.x0 rfl ?_ (fun x => ?_)); first | exact sdT | skip) | (refine Stp.go ?_) | (refine WPA.ifT ?_) | (refine WPA.ifF ?_) | ((first | refine WPA.dec ?_); first | refine orL ?_ | refine orR ?_) | ((first | refine WPA.ifBt ?_ ?_ | refine WPA.ifBnf ?_ ?_); assumption) | ((first | refine WPA.ifBnt ?_ ?_ | refine WPA.ifBf ?_ ?_); assumption) | ((first | refine WPA.ifs ?_ ?_ | refine WPA.ifB ?_ ?_) <;> intro hc))
    refine WPA.loopS (σ := TW2) (fun y => [(4, .pointer (some ⟨X4, 0, none⟩)), (5, .pointer (some ⟨X5, 0, none⟩)), (6, .map (some M)), (60, .slice av.a av.n av.cap), (61, .int .i64 vs.length), (62, .int .i64 y.k)])
      (fun y => (y.k ≤ gss.length ∧ y.dn.length = y.k ∧ SubI y.J J0) ∧ (y.rows.length = y.dn.length ∧ ∀ j : Nat, j < y.dn.length → RowV y.J (at_ y.rows (j : Int)) (y.dn.getD j [])) ∧ (rowsF F (gss.drop y.k)).map (fun r => y.dn ++ r) = A0)
      (fun y => SL w0 y.J (OwnS 39 y.g y.rows :: MapS M F :: Bk X5 25 [.int .i64 fr, .slice w.a w.n w.cap, .slice y.g.a y.g.n y.g.cap] :: Bk X4 25 [.int .i64 0, .slice none 0 0, .slice none 0 0] :: L)) (fun y => gss.length - y.k) ⟨0, SV.nil, [], [], J0⟩ ⟨rfl, rfl, rfl, rfl, rfl, rfl, trivial⟩
      ⟨⟨Nat.zero_le _, rfl, inferInstance⟩, ⟨rfl, fun j hj => absurd hj (Nat.not_lt_zero j)⟩, by dsimp only; rw [List.drop_zero, map_nilL]; exact hA0⟩ (fun w' h => by
        have h2 := (Ent.ownNil (α := SV) (t := 39) Ent.refl).sl h
        show SL w0 J0 (OwnS 39 SV.nil ([] : List SV) :: MapS M F :: Bk X5 25 [.int .i64 fr, .slice w.a w.n w.cap, .slice none 0 0] :: Bk X4 25 [.int .i64 0, .slice none 0 0, .slice none 0 0] :: L) w'
        exact h2.to) ?_
    rintro ⟨k, gv, rows, dn, J⟩ ρ ⟨⟨hk, hdn, hJ⟩, hrows, hA⟩
    dsimp only at hk hdn hJ hrows hA ⊢
    have havJ : SlI J av SV inferInstance vs := hav0.sub
    have hJI : SubI J I := ⟨fun z hz => hJ.out (hJ0.out hz)⟩
    have hrl := hrows.1
    by_cases hkl : k < gss.length
    · have hkl' : (k : Int) < vs.length := by omega
      have hirk : (0 : Int) ≤ k ∧ (k : Int) < vs.length := by omega
      obtain ⟨es2, he2, hG2⟩ := (hrow k hkl).sub hJI
      obtain ⟨gk, hgk⟩ : ∃ gk, gss.getD k [] = gk := ⟨_, rfl⟩
      have hgk2 : gss[k] = gk := by rw [← hgk, List.getD_eq_getElem?_getD, List.getElem?_eq_getElem hkl]; rfl
      have hgkm : gk ∈ gss := by rw [← hgk2]; exact List.getElem_mem _
      have hgkl := hlen _ hgkm
      have hwlk := hwl0 _ hgkm
      rw [hgk] at hG2
      obtain ⟨rk, hrk⟩ : ∃ rk, at_ vs (k : Int) = rk := ⟨_, rfl⟩
      rw [hrk] at he2
      have hel2 := hG2.1
      rw [List.drop_eq_getElem_cons hkl, hgk2, rowsF] at hA
      obtain ⟨X, hX0⟩ : ∃ X, rowF F gk = X := ⟨_, rfl⟩
      rw [hX0] at hA
      repeat' (first | ((rw [hrk])) | ((first | refine WLA.m rfl rfl ?_ ?_ | refine WLA.st rfl ?_ ?_ | refine WLA.x rfl rfl ?_ (fun x => ?_) | refine WLA.x0 rfl ?_ (fun x => ?_)); first | exact sdT | skip) | (refine Stp.go ?_) | (refine WPA.ifT ?_) | (refine WPA.ifF ?_) | ((first | refine WPA.dec ?_); first | refine orL ?_ | refine orR ?_) | ((first | refine WPA.ifBt ?_ ?_ | refine WPA.ifBnf ?_ ?_); assumption) | ((first | refine WPA.ifBnt ?_ ?_ | refine WPA.ifBf ?_ ?_); assumption) | ((first | refine WPA.ifs ?_ ?_ | refine WPA.ifB ?_ ?_) <;> intro hc))
      refine WPA.loopS (σ := TW3) (fun y => [(4, .pointer (some ⟨X4, 0, none⟩)), (5, .pointer (some ⟨X5, 0, none⟩)), (6, .map (some M)), (13, .slice y.l.a y.l.n y.l.cap), (60, .slice av.a av.n av.cap), (61, .int .i64 vs.length), (62, .int .i64 k), (66, .slice rk.a rk.n rk.cap), (67, .int .i64 es2.length), (68, .int .i64 y.i)])
        (fun y => (y.i ≤ gk.length ∧ y.dl.length = y.i ∧ SubI y.J J) ∧ EnsI y.J y.es y.dl ∧ (rowF F (gk.drop y.i)).map (fun r => y.dl ++ r) = X)
        (fun y => SL w0 y.J (OwnS 42 y.l y.es :: OwnS 39 gv rows :: MapS M F :: Bk X5 25 [.int .i64 fr, .slice w.a w.n w.cap, .slice gv.a gv.n gv.cap] :: Bk X4 25 [.int .i64 0, .slice none 0 0, .slice none 0 0] :: L)) (fun y => gk.length - y.i) ⟨0, SV.nil, [], [], J⟩ ⟨rfl, rfl, rfl, rfl, rfl, rfl, rfl, rfl, rfl, rfl, trivial⟩
        ⟨⟨Nat.zero_le _, rfl, inferInstance⟩, ⟨rfl, fun j hj => absurd hj (Nat.not_lt_zero j)⟩, by dsimp only; rw [List.drop_zero, map_nilL]; exact hX0⟩ (fun w' h => by
          have h2 := (Ent.ownNil (α := EnM) (t := 42) Ent.refl).sl h
          show SL w0 J (OwnS 42 SV.nil ([] : List EnM) :: OwnS 39 gv rows :: MapS M F :: Bk X5 25 [.int .i64 fr, .slice w.a w.n w.cap, .slice gv.a gv.n gv.cap] :: Bk X4 25 [.int .i64 0, .slice none 0 0, .slice none 0 0] :: L) w'
          exact h2.to) ?_
      rintro ⟨i, lv, es3, dl, K⟩ ρ ⟨⟨hi3, hdl, hK⟩, hE, hX⟩
      dsimp only at hi3 hdl hK hE hX ⊢
      have hes3 := hE.1
      by_cases hil : i < gk.length
      · have hil' : (i : Int) < es2.length := by omega
        have hiri : (0 : Int) ≤ i ∧ (i : Int) < es2.length := by omega
        have he2K : SlI K rk GM inferInstance es2 := he2.sub (hs := hK)
        have hKI : SubI K I := ⟨fun z hz => hK.out (hJI.out hz)⟩
        have hgi := (hG2.2 i hil).sub hK
        have hgm2 : gk.getD i ⟨0, [], 0, 0⟩ = gk[i] := by rw [List.getD_eq_getElem?_getD, List.getElem?_eq_getElem hil]; rfl
        rw [List.drop_eq_getElem_cons hil, rowF, ← hgm2] at hX
        have hwsl : (gk.getD i ⟨0, [], 0, 0⟩).words.length ≤ 1000001 := by rw [hgm2]; exact hwlk _ (List.getElem_mem _)
        obtain ⟨e, hee⟩ : ∃ e, at_ es2 (i : Int) = e := ⟨_, rfl⟩
        rw [hee] at hgi
        generalize gk.getD i ⟨0, [], 0, 0⟩ = g at hgi hX hwsl
        obtain ⟨en, ew, ep, eb⟩ := e
        obtain ⟨⟨e1, e2, e3⟩, hws⟩ := hgi
        dsimp only at e1 e2 e3 hws
        subst e1 e2 e3
        obtain ⟨Y, hY0⟩ : ∃ Y, idsM F g.line g.words = Y := ⟨_, rfl⟩
        rw [hY0] at hX
        repeat' (first | ((rw [hee])) | ((first | refine WLA.m rfl rfl ?_ ?_ | refine WLA.st rfl ?_ ?_ | refine WLA.x rfl rfl ?_ (fun x => ?_) | refine WLA.x0 rfl ?_ (fun x => ?_)); first | exact sdT | skip) | (refine Stp.go ?_) | (refine WPA.ifT ?_) | (refine WPA.ifF ?_) | ((first | refine WPA.dec ?_); first | refine orL ?_ | refine orR ?_) | ((first | refine WPA.ifBt ?_ ?_ | refine WPA.ifBnf ?_ ?_); assumption) | ((first | refine WPA.ifBnt ?_ ?_ | refine WPA.ifBf ?_ ?_); assumption) | ((first | refine WPA.ifs ?_ ?_ | refine WPA.ifB ?_ ?_) <;> intro hc))
        revert x; intro X16
        revert x; intro X15
        refine WPA.loopS (σ := TW4) (fun y => [(4, .pointer (some ⟨X4, 0, none⟩)), (5, .pointer (some ⟨X5, 0, none⟩)), (6, .map (some M)), (13, .slice lv.a lv.n lv.cap), (15, .pointer (some ⟨X15, 0, none⟩)), (16, .pointer (some ⟨X16, 0, none⟩)), (60, .slice av.a av.n av.cap), (61, .int .i64 vs.length), (62, .int .i64 k), (66, .slice rk.a rk.n rk.cap), (67, .int .i64 es2.length), (68, .int .i64 i), (78, .slice ew.a ew.n ew.cap), (79, .int .i64 g.words.length), (80, .int .i64 y.j)])
          (fun y => y.j ≤ g.words.length ∧ y.ids.length = y.j ∧ (idsM F g.line (g.words.drop y.j)).map (fun r => y.ids ++ r) = Y)
          (fun y => SL w0 K (OwnS 3 y.q y.ids :: Bk X16 42 [.slice y.q.a y.q.n y.q.cap, .int .i64 g.prob, .int .i64 g.back] :: Bk X15 107 [.int .i64 g.line, .slice ew.a ew.n ew.cap, .int .i64 g.prob, .int .i64 g.back] :: OwnS 42 lv es3 :: OwnS 39 gv rows :: MapS M F :: Bk X5 25 [.int .i64 fr, .slice w.a w.n w.cap, .slice gv.a gv.n gv.cap] :: Bk X4 25 [.int .i64 0, .slice none 0 0, .slice none 0 0] :: L)) (fun y => g.words.length - y.j) ⟨0, SV.nil, []⟩ ⟨rfl, rfl, rfl, rfl, rfl, rfl, rfl, rfl, rfl, rfl, rfl, rfl, rfl, rfl, rfl, trivial⟩
          ⟨Nat.zero_le _, rfl, by dsimp only; rw [List.drop_zero, map_nilL]; exact hY0⟩ (fun w' h => by
            have h2 := (Ent.ownNil (α := Int) (t := 3) Ent.refl).sl h
            show SL w0 K (OwnS 3 SV.nil ([] : List Int) :: Bk X16 42 [.slice none 0 0, .int .i64 g.prob, .int .i64 g.back] :: Bk X15 107 [.int .i64 g.line, .slice ew.a ew.n ew.cap, .int .i64 g.prob, .int .i64 g.back] :: OwnS 42 lv es3 :: OwnS 39 gv rows :: MapS M F :: Bk X5 25 [.int .i64 fr, .slice w.a w.n w.cap, .slice gv.a gv.n gv.cap] :: Bk X4 25 [.int .i64 0, .slice none 0 0, .slice none 0 0] :: L) w'
            exact h2.to) ?_
        rintro ⟨j, q, ids⟩ ρ ⟨hj, hidl, hY⟩
        dsimp only at hj hidl hY ⊢
        by_cases hjl : j < g.words.length
        · have hjl' : (j : Int) < g.words.length := by omega
          have hirj : (0 : Int) ≤ j ∧ (j : Int) < g.words.length := by omega
          obtain ⟨wd, hwd⟩ : ∃ wd, at_ g.words (j : Int) = wd := ⟨_, rfl⟩
          rw [List.drop_eq_getElem_cons hjl, ← at_nat g.words j hjl, hwd, idsM] at hY
          cases hfw : F wd with
          | none =>
            rw [hfw] at hY
            have hA2 : A0 = .error (g.line, 10) := by
              have y1 : Y = .error (g.line, 10) := hY.symm
              rw [y1] at hX
              have x1 : X = .error (g.line, 10) := hX.symm
              rw [x1] at hA
              exact hA.symm
            have hbf : (!false) = true := rfl
            have hs : (F wd).isSome = false := by rw [hfw]; rfl
            repeat' (first | ((rw [hwd])) | ((rw [hs])) | ((rw [hbf])) | ((refine WLA.throw rfl ?_)) | ((first | refine WLA.m rfl rfl ?_ ?_ | refine WLA.st rfl ?_ ?_ | refine WLA.x rfl rfl ?_ (fun x => ?_) | refine WLA.x0 rfl ?_ (fun x => ?_)); first | exact sdT | skip) | (refine Stp.go ?_) | (refine WPA.ifT ?_) | (refine WPA.ifF ?_) | ((first | refine WPA.dec ?_); first | refine orL ?_ | refine orR ?_) | ((first | refine WPA.ifBt ?_ ?_ | refine WPA.ifBnf ?_ ?_); assumption) | ((first | refine WPA.ifBnt ?_ ?_ | refine WPA.ifBf ?_ ?_); assumption) | ((first | refine WPA.ifs ?_ ?_ | refine WPA.ifB ?_ ?_) <;> intro hc))
            refine QQ.thrw ?_
            exact QQ.thrown ⟨(g.line, 10), hA2⟩ rfl fun w' h => (SL.to (L' := L) h).sub hKI.out
          | some z =>
            rw [hfw] at hY
            have hbt : (!true) = false := rfl
            have hs : (F wd).isSome = true := by rw [hfw]; rfl
            have hz : (F wd).getD 0 = z := by rw [hfw]; rfl
            have hroom : Room (ids.length + 1) 8 := ⟨by omega, by omega⟩
            repeat' (first | ((rw [hwd])) | ((rw [hs])) | ((rw [hz])) | ((rw [hbt])) | ((first | refine WLA.m rfl rfl ?_ ?_ | refine WLA.st rfl ?_ ?_ | refine WLA.x rfl rfl ?_ (fun x => ?_) | refine WLA.x0 rfl ?_ (fun x => ?_)); first | exact sdT | skip) | (refine Stp.go ?_) | (refine WPA.ifT ?_) | (refine WPA.ifF ?_) | ((first | refine WPA.dec ?_); first | refine orL ?_ | refine orR ?_) | ((first | refine WPA.ifBt ?_ ?_ | refine WPA.ifBnf ?_ ?_); assumption) | ((first | refine WPA.ifBnt ?_ ?_ | refine WPA.ifBf ?_ ?_); assumption) | ((first | refine WPA.ifs ?_ ?_ | refine WPA.ifB ?_ ?_) <;> intro hc))
            refine QQ.loopS ⟨j + 1, x, ids ++ [z]⟩ ⟨rfl, rfl, rfl, rfl, rfl, rfl, rfl, rfl, rfl, rfl, rfl, rfl, rfl, rfl, rfl, trivial⟩ ⟨hjl, by dsimp only; rw [List.length_append, List.length_singleton, hidl], ?_⟩ (by dsimp only; omega) (fun w h => h.to)
            dsimp only at hY ⊢
            rw [← hY]
            cases idsM F g.line (g.words.drop (j + 1)) with
            | ok r => show Except.ok ((ids ++ [z]) ++ r) = Except.ok (ids ++ (z :: r)); rw [List.append_assoc]; rfl
            | error e => rfl
        · have hjl' : ¬ (j : Int) < g.words.length := by omega
          rw [List.drop_of_length_le (by omega)] at hY
          have hY1 : Y = .ok ids := by rw [← hY]; show Except.ok (ids ++ []) = _; rw [List.append_nil]
          rw [hY1] at hX
          dsimp only at hX
          have hroom : Room (es3.length + 1) 40 := ⟨by omega, by omega⟩
          repeat' (first | ((first | refine WLA.m rfl rfl ?_ ?_ | refine WLA.st rfl ?_ ?_ | refine WLA.x rfl rfl ?_ (fun x => ?_) | refine WLA.x0 rfl ?_ (fun x => ?_)); first | exact sdT | skip) | (refine Stp.go ?_) | (refine WPA.ifT ?_) | (refine WPA.ifF ?_) | ((first | refine WPA.dec ?_); first | refine orL ?_ | refine orR ?_) | ((first | refine WPA.ifBt ?_ ?_ | refine WPA.ifBnf ?_ ?_); assumption) | ((first | refine WPA.ifBnt ?_ ?_ | refine WPA.ifBf ?_ ?_); assumption) | ((first | refine WPA.ifs ?_ ?_ | refine WPA.ifB ?_ ?_) <;> intro hc))
          refine QQ.ent (EntC.out (L' := OwnS 3 q ids :: OwnS 42 x (es3 ++ [(q, g.prob, g.back)]) :: OwnS 39 gv rows :: MapS M F :: Bk X5 25 [.int .i64 fr, .slice w.a w.n w.cap, .slice gv.a gv.n gv.cap] :: Bk X4 25 [.int .i64 0, .slice none 0 0, .slice none 0 0] :: L)) ?_
          refine QQ.freeze fun R hR => ?_
          have sq : SlI (R ++ K) q Int inferInstance ids := by have := SlI.ofOwn hR; infer_instance
          refine QQ.loopS ⟨i + 1, x, es3 ++ [(q, g.prob, g.back)], dl ++ [(ids, g.prob, g.back)], R ++ K⟩ ⟨rfl, rfl, rfl, rfl, rfl, rfl, rfl, rfl, rfl, rfl, trivial⟩ ⟨⟨hil, by dsimp only; rw [List.length_append, List.length_singleton, hdl], ⟨fun z hz => List.mem_append_right _ (hK.out hz)⟩⟩, snocX (R := EnI (R ++ K)) (hE.sub inferInstance) ⟨rfl, sq⟩, ?_⟩ (by dsimp only; omega) (fun w h => h.to)
          dsimp only
          rw [← hX]
          cases rowF F (gk.drop (i + 1)) with
          | ok r => show Except.ok ((dl ++ [_]) ++ r) = Except.ok (dl ++ (_ :: r)); rw [List.append_assoc]; rfl
          | error e => rfl
      · have hil' : ¬ (i : Int) < es2.length := by omega
        rw [List.drop_of_length_le (by omega)] at hX
        have hX1 : X = .ok dl := by rw [← hX]; show Except.ok (dl ++ []) = _; rw [List.append_nil]
        rw [hX1] at hA
        dsimp only at hA
        have hroom : Room (rows.length + 1) 24 := ⟨by omega, by omega⟩
        repeat' (first | ((first | refine WLA.m rfl rfl ?_ ?_ | refine WLA.st rfl ?_ ?_ | refine WLA.x rfl rfl ?_ (fun x => ?_) | refine WLA.x0 rfl ?_ (fun x => ?_)); first | exact sdT | skip) | (refine Stp.go ?_) | (refine WPA.ifT ?_) | (refine WPA.ifF ?_) | ((first | refine WPA.dec ?_); first | refine orL ?_ | refine orR ?_) | ((first | refine WPA.ifBt ?_ ?_ | refine WPA.ifBnf ?_ ?_); assumption) | ((first | refine WPA.ifBnt ?_ ?_ | refine WPA.ifBf ?_ ?_); assumption) | ((first | refine WPA.ifs ?_ ?_ | refine WPA.ifB ?_ ?_) <;> intro hc))
        refine QQ.ent (EntC.out (L' := OwnS 42 lv es3 :: OwnS 39 x (rows ++ [lv]) :: MapS M F :: Bk X5 25 [.int .i64 fr, .slice w.a w.n w.cap, .slice x.a x.n x.cap] :: Bk X4 25 [.int .i64 0, .slice none 0 0, .slice none 0 0] :: L)) ?_
        refine QQ.freeze fun R hR => ?_
        have sl : SlI (R ++ K) lv EnM inferInstance es3 := by have := SlI.ofOwn hR; infer_instance
        have hRK : SubI (R ++ K) J := ⟨fun z hz => List.mem_append_right _ (hK.out hz)⟩
        refine QQ.loopS ⟨k + 1, x, rows ++ [lv], dn ++ [dl], R ++ K⟩ ⟨rfl, rfl, rfl, rfl, rfl, rfl, trivial⟩ ⟨⟨hkl, by dsimp only; rw [List.length_append, List.length_singleton, hdn], ⟨fun z hz => hRK.out (hJ.out hz)⟩⟩, snocX (R := RowV (R ++ K)) ⟨hrows.1, fun j hj => (hrows.2 j hj).sub hRK⟩ ⟨es3, sl, hE.sub inferInstance⟩, ?_⟩ (by dsimp only; omega) (fun w h => h.to)
        dsimp only
        rw [← hA]
        cases rowsF F (gss.drop (k + 1)) with
        | ok r => show Except.ok ((dn ++ [dl]) ++ r) = Except.ok (dn ++ (dl :: r)); rw [List.append_assoc]; rfl
        | error e => rfl
    · have hkl' : ¬ (k : Int) < vs.length := by omega
      rw [List.drop_of_length_le (by omega)] at hA
      have hA1 : A0 = .ok dn := by rw [← hA]; show Except.ok (dn ++ []) = _; rw [List.append_nil]
      have sw2 : SlI J w ByteArray inferInstance wl := sw.sub (hs := hJ)
      repeat' (first | ((first | refine WLA.m rfl rfl ?_ ?_ | refine WLA.st rfl ?_ ?_ | refine WLA.x rfl rfl ?_ (fun x => ?_) | refine WLA.x0 rfl ?_ (fun x => ?_)); first | exact sdT | skip) | (refine Stp.go ?_) | (refine WPA.ifT ?_) | (refine WPA.ifF ?_) | ((first | refine WPA.dec ?_); first | refine orL ?_ | refine orR ?_) | ((first | refine WPA.ifBt ?_ ?_ | refine WPA.ifBnf ?_ ?_); assumption) | ((first | refine WPA.ifBnt ?_ ?_ | refine WPA.ifBf ?_ ?_); assumption) | ((first | refine WPA.ifs ?_ ?_ | refine WPA.ifB ?_ ?_) <;> intro hc))
      exact QQ.fnX_ret (QQ.endc rfl (w, gv, rows, dn, J) rfl fun w' h => ⟨⟨hA1, hJI, sw2, hrows⟩, h.to⟩)
end
end Go.Proofs.YthkhneimfjaohaaGreatDoor
namespace Go.Proofs.YthkhneimfjaohaaGreatDoor
open Go Go.Fw Go.RowKit
set_option linter.unusedVariables false
set_option linter.unusedSimpArgs false
set_option maxRecDepth 100000
set_option maxHeartbeats 16000000
set_option synthInstance.maxHeartbeats 200000
set_option synthInstance.maxSize 100000
attribute [local irreducible] WPA WLA WDA WDQ WDE QQ seqQ blockQ loopQ fnQ OpP OpT Tr TrP SL SLd OwnS LitS Bk BkE Ob
attribute [local irreducible] TblH VocH
abbrev EV := (Int × Int) × List Int
def LstE (J : Foot) (v : SV) (es : List EV) : Prop := ∃ cs : List En, SlI J v En inferInstance cs ∧ cs.map Prod.snd = es.map Prod.fst ∧ ∀ i : Nat, i < cs.length → SlI J (at_ cs (i : Int)).1 Int inferInstance (es.getD i ((0, 0), [])).2
def MdL (J : Foot) (w g : SV) (ws : List ByteArray) (A : List (List EV)) : Prop := SlI J w ByteArray inferInstance ws ∧ ∃ gr : List SV, SlI J g SV inferInstance gr ∧ gr.length = A.length ∧ ∀ k : Nat, k < A.length → LstE J (at_ gr (k : Int)) (A.getD k [])
theorem LstE.sub {J J' : Foot} {v : SV} {es : List EV} (h : LstE J v es) (hs : SubI J' J) : LstE J' v es := by
  obtain ⟨cs, h1, h2, h3⟩ := h
  exact ⟨cs, h1.sub, h2, fun i hi => (h3 i hi).sub⟩
theorem MdL.sub {J J' : Foot} {w g : SV} {ws : List ByteArray} {A : List (List EV)} (h : MdL J w g ws A) (hs : SubI J' J) : MdL J' w g ws A := by
  obtain ⟨h0, gr, h1, h2, h3⟩ := h
  exact ⟨h0.sub, gr, h1.sub, h2, fun i hi => (h3 i hi).sub hs⟩
structure MdQ (J : Foot) (w g : SV) (ws : List ByteArray) (gr : List SV) (A : List (List EV)) : Prop where
  words : SlI J w ByteArray inferInstance ws
  grams : SlI J g SV inferInstance gr
  rows : ∀ h ∈ gr, SlI J h En inferInstance (rd En J h) ∧ EnG J (rd Int J) (rd En J h)
  cont : gr.map (fun h => enV (rd Int J) (rd En J h)) = A
theorem LstE.nst {J : Foot} {v : SV} {es : List EV} (h : LstE J v es) {w0 : World} {L : List HP} {w : World} (hw : SL w0 J L w) : (SlI J v En inferInstance (rd En J v) ∧ EnG J (rd Int J) (rd En J v)) ∧ enV (rd Int J) (rd En J v) = es := by
  obtain ⟨cs, k1, k2, k3⟩ := h
  have e := k1.rd.det k1 hw
  have e1 : cs.length = es.length := by have := congrArg List.length k2; simpa using this
  rw [e]
  refine ⟨⟨k1, fun p hp => ?_⟩, List.ext_getElem (by simp [enV, e1]) fun j j1 j2 => ?_⟩
  · obtain ⟨j, hj, rfl⟩ := List.getElem_of_mem hp
    have := k3 j hj
    rw [at_nat cs j hj] at this
    exact this.rd
  · unfold enV at j1 ⊢
    rw [List.length_map] at j1
    have q := k3 j j1
    rw [at_nat cs j j1, List.getD_eq_getElem?_getD, List.getElem?_eq_getElem j2, Option.getD_some] at q
    have q2 := congrArg (fun l => l[j]?) k2
    simp only [List.getElem?_map, List.getElem?_eq_getElem j1, List.getElem?_eq_getElem j2, Option.map_some] at q2
    rw [List.getElem_map]
    exact Prod.ext (by injection q2) (q.rd.det q hw)
theorem MdL.nst {J : Foot} {w g : SV} {ws : List ByteArray} {A : List (List EV)} (h : MdL J w g ws A) {w0 : World} {L : List HP} {u : World} (hw : SL w0 J L u) : ∃ gr, MdQ J w g ws gr A := by
  obtain ⟨h0, gr, h1, h2, h3⟩ := h
  refine ⟨gr, h0, h1, fun v hv => ?_, List.ext_getElem (by simp [h2]) fun i i1 i2 => ?_⟩
  · obtain ⟨i, hi, rfl⟩ := List.getElem_of_mem hv
    have := (h3 i (by omega)).nst hw
    rw [at_nat gr i hi] at this
    exact this.1
  · rw [List.length_map] at i1
    have := (h3 i (by omega)).nst hw
    rw [at_nat gr i i1, List.getD_eq_getElem?_getD, List.getElem?_eq_getElem i2, Option.getD_some] at this
    rw [List.getElem_map]
    exact this.2
def ev (x : EnL) : EV := (x.2, x.1)
theorem RowV.lst {J : Foot} {v : SV} {l : List EnL} (h : RowV J v l) : LstE J v (l.map ev) := by
  obtain ⟨es, h1, h2, h3⟩ := h
  refine ⟨es, h1, List.ext_getElem (by simp [h2]) fun j j1 j2 => ?_, fun i hi => ?_⟩
  · rw [List.length_map] at j1
    have := (h3 j (by omega)).1
    rw [at_nat es j j1, List.getD_eq_getElem?_getD, List.getElem?_eq_getElem (by omega), Option.getD_some] at this
    simp only [List.getElem_map, ev]
    exact this
  · have := (h3 i (by omega)).2
    rw [List.getD_eq_getElem?_getD, List.getElem?_eq_getElem (by omega), Option.getD_some] at this
    rw [List.getD_eq_getElem?_getD, List.getElem?_map, List.getElem?_eq_getElem (by omega)]
    exact this
def aE (es : List EV) (i : Int) : EV := es.getD i.toNat ((0, 0), [])
def aL (A : List (List EV)) (i : Int) : List EV := A.getD i.toNat []
def chkEA (nW : Nat) (top : Bool) (k : Nat) (es ps : List EV) (i : Nat) : Int :=
  if entE (aE es (i : Int)).2 (aE es (i : Int)).1.1 (aE es (i : Int)).1.2 ((k : Int) + 1) nW top ≠ 0 then entE (aE es (i : Int)).2 (aE es (i : Int)).1.1 (aE es (i : Int)).1.2 ((k : Int) + 1) nW top
  else if 0 < i ∧ 0 ≤ cmpL (aE es ((i : Int) - 1)).2 (aE es (i : Int)).2 then 9
  else if 0 < k ∧ ¬ (cutL (aE es (i : Int)).2 0 (k : Int) ∈ ps.map Prod.snd) then 7 else 0
def chkLsA (nW : Nat) (top : Bool) (k : Nat) (es ps : List EV) : Int :=
  if firstN (chkEA nW top k es ps) es.length ≠ 0 then firstN (chkEA nW top k es ps) es.length else if k = 0 ∧ es.length ≠ nW then 3 else 0
def chkLA (nW : Nat) (A : List (List EV)) (k : Nat) : Int :=
  chkLsA nW (decide ((k : Int) = (A.length : Int) - 1)) k (aL A (k : Int)) (aL A ((k : Int) - 1))
noncomputable def chkA (fr : Int) (ws : List ByteArray) (A : List (List EV)) : Int :=
  if fr < 0 ∨ 12 < fr ∨ A.length < 1 ∨ 8 < A.length then 1 else if ofE ws ≠ 0 then ofE ws else firstN (chkLA ws.length A) A.length
theorem firstN_congr {f g : Nat → Int} : ∀ {n : Nat}, (∀ i, i < n → f i = g i) → firstN f n = firstN g n
  | 0, _ => rfl
  | n + 1, h => by rw [firstN, firstN, firstN_congr (n := n) fun i hi => h i (by omega), h n (by omega)]
theorem at_enV {kg : SV → List Int} {es : List En} {i : Int} (h0 : 0 ≤ i) (hi : i < es.length) : aE (enV kg es) i = ((at_ es i).2, kg (at_ es i).1) := by
  obtain ⟨j, rfl⟩ : ∃ j : Nat, i = j := ⟨i.toNat, by omega⟩
  have hj : j < es.length := by omega
  rw [at_nat es j hj]
  unfold aE enV
  rw [Int.toNat_natCast, List.getD_eq_getElem?_getD, List.getElem?_map, List.getElem?_eq_getElem hj]; rfl
theorem chkE_A {kg : SV → List Int} {nW : Nat} {top : Bool} {k : Nat} {es ps : List En} {i : Nat} (hi : i < es.length) : chkE kg nW top k es ps i = chkEA nW top k (enV kg es) (enV kg ps) i := by
  unfold chkE chkEA
  rw [at_enV (by omega) (by omega)]
  have e : (enV kg ps).map Prod.snd = ps.map fun p => kg p.1 := by unfold enV; rw [List.map_map]; rfl
  rw [e]
  by_cases h0 : 0 < i
  · rw [at_enV (i := (i : Int) - 1) (by omega) (by omega)]
  · have z1 : ∀ x : Prop, ¬ (0 < i ∧ x) := fun x hx => h0 hx.1
    simp only [z1, if_false]
theorem chkLs_A {kg : SV → List Int} {nW : Nat} {top : Bool} {k : Nat} {es ps : List En} : chkLs kg nW top k es ps = chkLsA nW top k (enV kg es) (enV kg ps) := by
  unfold chkLs chkLsA
  have e : (enV kg es).length = es.length := by unfold enV; rw [List.length_map]
  rw [e, firstN_congr fun i hi => chkE_A hi]
theorem chkM_A {kg : SV → List Int} {re : SV → List En} {fr : Int} {ws : List ByteArray} {gr : List SV} : chkM kg re fr ws gr = chkA fr ws (gr.map fun h => enV kg (re h)) := by
  unfold chkM chkA
  rw [List.length_map, firstN_congr (g := chkLA ws.length (gr.map fun h => enV kg (re h))) fun k hk => ?_]
  unfold chkL chkLA
  rw [chkLs_A, List.length_map]
  have e : ∀ j : Int, j.toNat < gr.length → aL (gr.map fun h => enV kg (re h)) j = enV kg (re (at_ gr j)) := fun j hj => by
    unfold at_ aL
    rw [List.getD_eq_getElem?_getD, List.getD_eq_getElem?_getD, List.getElem?_map, List.getElem?_eq_getElem hj]; rfl
  rw [e _ (by omega), e _ (by omega)]
theorem MdQ.mdI {J : Foot} {w g : SV} {ws : List ByteArray} {gr : List SV} {A : List (List EV)} (h : MdQ J w g ws gr A) (h1 : ∀ s ∈ ws, s.size ≤ 140737488351232) (h2 : ws.length ≤ 1000000) (h3 : A.length ≤ 1000000) (h4 : ∀ es ∈ A, es.length ≤ 1000000 ∧ ∀ e ∈ es, e.2.length ≤ 1000000) : MdI J (rd Int J) (rd En J) w g ws gr := by
  have hl : gr.length = A.length := by rw [← h.cont, List.length_map]
  have hm : ∀ v ∈ gr, enV (rd Int J) (rd En J v) ∈ A := fun v hv => by rw [← h.cont]; exact List.mem_map.2 ⟨v, hv, rfl⟩
  exact ⟨h.words, h.grams, fun v hv => (h.rows v hv).1, fun v hv => (h.rows v hv).2, h1, h2, by omega, fun v hv => by simpa [enV] using (h4 _ (hm v hv)).1, fun v hv p hp => (h4 _ (hm v hv)).2 _ (List.mem_map.2 ⟨p, hp, rfl⟩)⟩
section
variable {L : List HP} {w0 : World} {I : Foot}
theorem CheckA_tr {fr : Int} {w g : SV} {ws : List ByteArray} {A : List (List EV)} (hM : MdL I w g ws A) (h1 : ∀ s ∈ ws, s.size ≤ 140737488351232) (h2 : ws.length ≤ 1000000) (h3 : A.length ≤ 1000000) (h4 : ∀ es ∈ A, es.length ≤ 1000000 ∧ ∀ e ∈ es, e.2.length ≤ 1000000) :
    Tr Tryz.prog 15 #[.agg #[.int .i64 fr, .slice w.a w.n w.cap, .slice g.a g.n g.cap]] (SL w0 I L) (fun _ : Unit => .int .i64 (chkA fr ws A)) (fun _ => SL w0 I L) := by
  unfold Tr
  intro u hu
  obtain ⟨gr, hQ⟩ := hM.nst hu
  have h := Check_tr (L := L) (w0 := w0) (fr := fr) (hQ.mdI h1 h2 h3 h4)
  unfold Tr at h
  have := h u hu
  rw [chkM_A, hQ.cont] at this
  exact this
end
end Go.Proofs.YthkhneimfjaohaaGreatDoor
namespace Go.Proofs.YthkhneimfjaohaaGreatDoor
open Go Go.Fw Go.RowKit
set_option linter.unusedVariables false
set_option linter.unusedSimpArgs false
set_option maxRecDepth 100000
set_option maxHeartbeats 16000000
set_option synthInstance.maxHeartbeats 200000
set_option synthInstance.maxSize 100000
attribute [local irreducible] WPA WLA WDA WDQ WDE QQ seqQ blockQ loopQ fnQ OpP OpT Tr TrP SL SLd OwnS LitS Bk BkE Ob
attribute [local irreducible] EntOk
theorem cntF_ok : ∀ (f : Nat) (s : ByteArray) (n : Int) (l : ByteArray) (cs r : List Int) (s' : ByteArray) (n' : Int), cntF f s n l cs = .ok (r, s', n') → cs.length ≤ 8 → (∀ c ∈ cs, 0 ≤ c) → (r ≠ [] ∧ r.length ≤ 8 ∧ ∀ c ∈ r, 0 ≤ c) ∧ n ≤ n' ∧ n' + s'.size ≤ n + s.size
  | 0, s, n, l, cs, r, s', n', h, _, _ => by rw [cntF] at h; cases h
  | f + 1, s, n, l, cs, r, s', n', h, h1, h2 => by
    rw [cntF] at h
    split at h
    · rename_i h3
      injection h with h; injection h with e1 e2; injection e2 with e2 e3
      subst e1; subst e2; subst e3
      exact ⟨⟨h3.2, h1, h2⟩, Int.le_refl _, Int.le_refl _⟩
    split at h
    · cases h
    split at h
    · cases h
    split at h
    · cases h
    split at h
    · cases h
    · rename_i h4 h5 h6 h7 h8
      have h8' : 0 ≤ atB s 10 := Classical.byContradiction h8
      have := cntF_ok f _ _ _ _ r s' n' h (by rw [List.length_append, List.length_singleton]; omega) (fun c hc => by
        rcases List.mem_append.1 hc with hc | hc
        · exact h2 c hc
        · rw [List.mem_singleton.1 hc]; omega)
      have ha := aft_size h8'
      exact ⟨this.1, by omega, by omega⟩
theorem headF_ok {s : ByteArray} {n : Int} {h : Int × List Int} {s' : ByteArray} {n' : Int} (e : headF s n = .ok (h, s', n')) : (h.2 ≠ [] ∧ h.2.length ≤ 8 ∧ ∀ c ∈ h.2, 0 ≤ c) ∧ n ≤ n' ∧ n' + s'.size ≤ n + s.size := by
  unfold headF at e
  split at e
  · cases e
  split at e
  · cases e
  split at e
  · cases e
  split at e
  · cases e
  split at e
  · cases e
  rename_i h1 h2 h3 h4 h5
  have a1 := aft_size (Classical.byContradiction h1)
  have a2 := aft_size (Classical.byContradiction h3)
  have a3 := aft_size (Classical.byContradiction h5)
  revert e
  generalize hc : cntF _ _ _ _ _ = X
  intro e
  cases X with
  | error y => cases e
  | ok r =>
    obtain ⟨r, s2, n2⟩ := r
    have e2 : (((numV (cutP (befB (aftB s 10) 10) fracB), r), s2, n2) : (Int × List Int) × ByteArray × Int) = (h, s', n') := by injection e
    injection e2 with e3 e4; injection e4 with e4 e5
    subst e3; subst e4; subst e5
    have := cntF_ok _ _ _ _ _ _ _ _ hc (Nat.zero_le _) (fun c hc => by cases hc)
    exact ⟨this.1, by omega, by omega⟩
theorem nthB_size {l : List ByteArray} {n : Nat} (h : ∀ w ∈ l, w.size ≤ n) (i : Nat) : (nthB l i).size ≤ n := by
  unfold nthB
  rw [List.getD_eq_getElem?_getD]
  by_cases hi : i < l.length
  · rw [List.getElem?_eq_getElem hi]; exact h _ (List.getElem_mem _)
  · rw [List.getElem?_eq_none (by omega)]; exact Nat.zero_le _
theorem bef_size (s : ByteArray) (c : UInt8) : (befB s c).size ≤ s.size := by unfold befB; rw [ByteArray.size_extract]; omega
structure GrOk (m lo hi : Nat) (g : GrL) : Prop where
  low : lo ≤ g.words.length
  top : g.words.length ≤ hi
  sz : ∀ w ∈ g.words, w.size ≤ m
theorem EntOk.len {o : Int} {last : Bool} {l : ByteArray} (h : EntOk o last l) : ((splB (nthB (splB l 9) 1) 32).length : Int) = o := by unfold EntOk at h; exact h.2.1.2
theorem secF_ok (o : Nat) (last : Bool) : ∀ (k : Nat) (s : ByteArray) (n : Int) (gs : List GrL) (s' : ByteArray) (n' : Int), secF (o : Int) last k s n = .ok (gs, s', n') → (gs.length = k ∧ ∀ g ∈ gs, GrOk s.size o o g) ∧ n ≤ n' ∧ n' + s'.size ≤ n + s.size ∧ s'.size + gs.length ≤ s.size
  | 0, s, n, gs, s', n', h => by
    rw [secF] at h
    injection h with h; injection h with e1 e2; injection e2 with e2 e3
    subst e1; subst e2; subst e3
    exact ⟨⟨rfl, fun g hg => by cases hg⟩, Int.le_refl _, Int.le_refl _, Nat.le_refl _⟩
  | k + 1, s, n, gs, s', n', h => by
    rw [secF] at h
    split at h
    · cases h
    split at h
    · cases h
    rename_i h1 h2
    have a1 := aft_size (Classical.byContradiction h1)
    have h2' := Classical.byContradiction h2
    revert h
    generalize hc : secF _ _ _ _ _ = X
    intro h
    cases X with
    | error y => cases h
    | ok r =>
      obtain ⟨r, s2, n2⟩ := r
      have e2 : (((grF last n (befB s 10) :: r), s2, n2) : List GrL × ByteArray × Int) = (gs, s', n') := by injection h
      injection e2 with e3 e4; injection e4 with e4 e5
      subst e3; subst e4; subst e5
      obtain ⟨⟨k1, k2⟩, k3, k4, k5⟩ := secF_ok o last k _ _ _ _ _ hc
      refine ⟨⟨by rw [List.length_cons, k1], fun g hg => ?_⟩, by omega, by omega, by rw [List.length_cons]; omega⟩
      rcases List.mem_cons.1 hg with rfl | hg
      · have hl := h2'.len
        refine ⟨by show o ≤ (splB _ 32).length; omega, by show (splB _ 32).length ≤ o; omega, fun w hw => ?_⟩
        have b1 := spl_mem (show w ∈ splB (nthB (splB (befB s 10) 9) 1) 32 from hw)
        have b2 := nthB_size (fun w hw => spl_mem (s := befB s 10) (c := 9) hw) 1
        have b3 := bef_size s 10
        omega
      · have := k2 g hg
        exact ⟨this.low, this.top, fun w hw => by have := this.sz w hw; omega⟩
theorem allF_ok (N : Nat) : ∀ (cs : List Int) (k : Nat) (s : ByteArray) (n : Int) (gss : List (List GrL)) (s' : ByteArray) (n' : Int), allF N cs k s n = .ok (gss, s', n') → gss.length = cs.length ∧ ∀ gs ∈ gss, gs.length ≤ s.size ∧ ∀ g ∈ gs, GrOk s.size 1 (k + cs.length) g
  | [], k, s, n, gss, s', n', h => by
    rw [allF] at h
    split at h
    · cases h
    split at h
    · cases h
    split at h
    · cases h
    injection h with h; injection h with e1 e2
    subst e1
    exact ⟨rfl, fun g hg => by cases hg⟩
  | c :: cs, k, s, n, gss, s', n', h => by
    rw [allF] at h
    split at h
    · cases h
    split at h
    · cases h
    rename_i h1 h2
    have a1 := aft_size (Classical.byContradiction h1)
    split at h
    · cases h
    rename_i gs s2 n2 hc
    split at h
    · cases h
    split at h
    · cases h
    rename_i h3 h4
    have a2 := aft_size (Classical.byContradiction h3)
    obtain ⟨⟨k1, k2⟩, k3, k4, k5⟩ := secF_ok (k + 1) _ _ _ _ _ _ _ hc
    revert h
    generalize hd : allF _ _ _ _ _ = X
    intro h
    cases X with
    | error y => cases h
    | ok r =>
      obtain ⟨r, s3, n3⟩ := r
      have e2 : (((gs :: r), s3, n3) : List (List GrL) × ByteArray × Int) = (gss, s', n') := by injection h
      injection e2 with e3 e4
      subst e3
      obtain ⟨j1, j2⟩ := allF_ok N cs (k + 1) _ _ _ _ _ hd
      refine ⟨by rw [List.length_cons, List.length_cons, j1], fun l hl => ?_⟩
      rcases List.mem_cons.1 hl with rfl | hl
      · refine ⟨by omega, fun g hg => ?_⟩
        have := k2 g hg
        exact ⟨by have := this.low; omega, by have := this.top; rw [List.length_cons]; omega, fun w hw => by have := this.sz w hw; omega⟩
      · obtain ⟨q1, q2⟩ := j2 l hl
        refine ⟨by omega, fun g hg => ?_⟩
        have := q2 g hg
        exact ⟨this.low, by have := this.top; rw [List.length_cons]; omega, fun w hw => by have := this.sz w hw; omega⟩
theorem idsM_len {f : ByteArray → Option Int} {line : Int} : ∀ {l : List ByteArray} {G : List Int}, idsM f line l = .ok G → G.length = l.length
  | [], G, h => by rw [idsM] at h; injection h with h; subst h; rfl
  | w :: l, G, h => by
    rw [idsM] at h
    split at h
    · cases h
    · rename_i v hv
      revert h
      generalize hc : idsM f line l = X
      intro h
      cases X with
      | error y => cases h
      | ok r => injection h with h; subst h; rw [List.length_cons, List.length_cons, idsM_len hc]
theorem rowF_ok {f : ByteArray → Option Int} : ∀ {l : List GrL} {es : List EnL}, rowF f l = .ok es → es.length = l.length ∧ ∀ e ∈ es, ∃ g ∈ l, e.1.length = g.words.length
  | [], es, h => by rw [rowF] at h; injection h with h; subst h; exact ⟨rfl, fun e he => by cases he⟩
  | g :: l, es, h => by
    rw [rowF] at h
    split at h
    · cases h
    · rename_i G hG
      revert h
      generalize hc : rowF f l = X
      intro h
      cases X with
      | error y => cases h
      | ok r =>
        injection h with h; subst h
        obtain ⟨k1, k2⟩ := rowF_ok hc
        refine ⟨by rw [List.length_cons, List.length_cons, k1], fun e he => ?_⟩
        rcases List.mem_cons.1 he with rfl | he
        · exact ⟨g, List.mem_cons_self, idsM_len hG⟩
        · obtain ⟨g2, h2, h3⟩ := k2 e he
          exact ⟨g2, List.mem_cons_of_mem _ h2, h3⟩
theorem rowsF_ok {f : ByteArray → Option Int} : ∀ {gss : List (List GrL)} {rows : List (List EnL)}, rowsF f gss = .ok rows → rows.length = gss.length ∧ ∀ r ∈ rows, ∃ gs ∈ gss, r.length = gs.length ∧ ∀ e ∈ r, ∃ g ∈ gs, e.1.length = g.words.length
  | [], rows, h => by rw [rowsF] at h; injection h with h; subst h; exact ⟨rfl, fun e he => by cases he⟩
  | gs :: l, rows, h => by
    rw [rowsF] at h
    split at h
    · cases h
    · rename_i es hG
      revert h
      generalize hc : rowsF f l = X
      intro h
      cases X with
      | error y => cases h
      | ok r =>
        injection h with h; subst h
        obtain ⟨k1, k2⟩ := rowsF_ok hc
        refine ⟨by rw [List.length_cons, List.length_cons, k1], fun e he => ?_⟩
        rcases List.mem_cons.1 he with rfl | he
        · exact ⟨gs, List.mem_cons_self, rowF_ok hG⟩
        · obtain ⟨g2, h2, h3⟩ := k2 e he
          exact ⟨g2, List.mem_cons_of_mem _ h2, h3⟩
def evs (rows : List (List EnL)) : List (List EV) := rows.map fun r => r.map ev
noncomputable def parseF (s : ByteArray) : Except (Int × Int) (Int × List ByteArray × List (List EV)) :=
  match headF s 0 with
  | .error y => .error y
  | .ok (h, s1, n1) => match allF h.2.length h.2 0 s1 n1 with
    | .error y => .error y
    | .ok (gss, _) => match rowsF (idF (gss.getD 0 [])) gss with
      | .error y => .error y
      | .ok rows => if chkA h.1 (wdsF (gss.getD 0 [])) (evs rows) ≠ 0 then .error (0, chkA h.1 (wdsF (gss.getD 0 [])) (evs rows)) else .ok (h.1, wdsF (gss.getD 0 []), evs rows)
def prF : Except (Int × Int) (Int × List ByteArray × List (List EV)) → Int
  | .ok r => r.1
  | .error _ => 0
def prW : Except (Int × Int) (Int × List ByteArray × List (List EV)) → List ByteArray
  | .ok r => r.2.1
  | .error _ => []
def prA : Except (Int × Int) (Int × List ByteArray × List (List EV)) → List (List EV)
  | .ok r => r.2.2
  | .error _ => []
def prY : Except (Int × Int) (Int × List ByteArray × List (List EV)) → Int × Int
  | .ok _ => (0, 0)
  | .error y => y
theorem told_few {s s1 s2 : ByteArray} {h : Int × List Int} {n1 n2 : Int} {gss : List (List GrL)} {rows : List (List EnL)} (hs : s.size ≤ 1000000) (h1 : headF s 0 = .ok (h, s1, n1)) (h2 : allF h.2.length h.2 0 s1 n1 = .ok (gss, s2, n2)) (h3 : rowsF (idF (gss.getD 0 [])) gss = .ok rows) :
    (∀ w ∈ wdsF (gss.getD 0 []), w.size ≤ 140737488351232) ∧ (wdsF (gss.getD 0 [])).length ≤ 1000000 ∧ (evs rows).length ≤ 1000000 ∧ ∀ es ∈ evs rows, es.length ≤ 1000000 ∧ ∀ e ∈ es, e.2.length ≤ 1000000 := by
  obtain ⟨⟨a1, a2, a3⟩, a4, a5⟩ := headF_ok h1
  obtain ⟨b1, b2⟩ := allF_ok _ _ _ _ _ _ _ _ h2
  obtain ⟨c1, c2⟩ := rowsF_ok h3
  have hm : gss.getD 0 [] ∈ gss := by
    have : 0 < gss.length := by rw [b1]; exact List.length_pos_iff.2 a1
    rw [List.getD_eq_getElem?_getD, List.getElem?_eq_getElem this]; exact List.getElem_mem _
  obtain ⟨d1, d2⟩ := b2 _ hm
  refine ⟨fun w hw => ?_, by unfold wdsF; rw [List.length_map]; omega, by unfold evs; rw [List.length_map]; omega, fun es hes => ?_⟩
  · obtain ⟨g, hg, rfl⟩ := List.mem_map.1 hw
    have := nthB_size (d2 g hg).sz 0
    omega
  · obtain ⟨r, hr, rfl⟩ := List.mem_map.1 hes
    obtain ⟨gs, e1, e2, e3⟩ := c2 r hr
    obtain ⟨f1, f2⟩ := b2 gs e1
    refine ⟨by rw [List.length_map]; omega, fun e he => ?_⟩
    obtain ⟨x, hx, rfl⟩ := List.mem_map.1 he
    obtain ⟨g, hg, e4⟩ := e3 x hx
    have := (f2 g hg).top
    show x.1.length ≤ 1000000
    omega
end Go.Proofs.YthkhneimfjaohaaGreatDoor
namespace Go.Fw
open Go Go.RowKit Go.Lib
set_option linter.unusedVariables false
set_option linter.unusedSimpArgs false
section
variable {P : Program} {ρ : Env} {ty : TypeId} {w0 : World} {H : HeapP} {L : List (Nat × Obj)}
theorem T_appStr {s x : Operand} {t u e : TypeId} {z : Value} {bytes : Nat} (ht : P.underlying t = some (.slice e)) (hu : P.underlying u = some .string) (hi : (P.info? e).map (fun i => (i.zero, i.size, i.bytes)) = some (some z, 1, bytes)) (hzs : z.cells.size = 1)
    {v : Value} {n : Nat} {xs : List Value} {R : List (Nat × Obj)} (hs : evalE ρ s = v) (hown : OwnR e 1 v n xs R) {b : ByteArray} (hx : evalE ρ x = .string b) (h63 : n + b.size ≤ maxLen) (hbytes : (n + b.size) * bytes ≤ 140737488355328) :
    OpT P ρ (.call { callee := .builtin .append, args := #[s, x], argTypes := #[t, u] }) ty (St w0 H (R ++ L))
      fun v' w => ∃ q : Value × List (Nat × Obj), v' = q.1 ∧ (OwnR e 1 q.1 (n + b.size) (xs ++ strCells b) q.2 ∧ St w0 H (q.2 ++ L) w) := by
  obtain ⟨i, hi', hzz⟩ := Option.map_eq_some_iff.1 hi
  simp only [Prod.mk.injEq] at hzz
  obtain ⟨hz, h1, rfl⟩ := hzz
  have hl := strCells_length b
  have hxl : xs.length = n := by simpa using hown.1
  have hsmall : n + b.size ≤ 9223372036854775807 := by simp only [maxLen] at h63; omega
  have hlen : (xs ++ strCells b).length = (n + b.size) * 1 := by rw [List.length_append, hxl, hl, Nat.mul_one]
  intro d pos af g w hw
  have key : ∃ v' w', (Builtin.append_ #[t, u] ty #[v, .string b]).run P w = .ok v' w' ∧ ∃ R', OwnR e 1 v' (n + b.size) (xs ++ strCells b) R' ∧ St w0 H (R' ++ L) w' := by
    have grown : ∀ (old : Nat), old < n + b.size → St w0 H L w →
        ∃ R', OwnR e 1 (.slice (some ⟨w.heap.size, 0, none⟩) (n + b.size) (grownCap w (n + b.size) old e)) (n + b.size) (xs ++ strCells b) R' ∧
          St w0 H (R' ++ L) (w.drew.alloc (.cells (xs.toArray ++ (strCells b).toArray ++ Builtin.zeroCells z.cells (grownCap w (n + b.size) old e - (n + b.size))) e)) := by
      intro old ho hst
      have hge := grownCap_ge w (n + b.size) old e
      have hcm : grownCap w (n + b.size) old e ≤ maxLen := grownCap_le_maxLen w (n + b.size) old e h63
      refine ⟨[(w.heap.size, .cells (xs.toArray ++ (strCells b).toArray ++ Builtin.zeroCells z.cells (grownCap w (n + b.size) old e - (n + b.size))) e (0, 0))], ⟨hlen, .inr ⟨w.heap.size, _, _, rfl, hge, hcm, ?_, ?_, rfl⟩⟩, ?_⟩
      · simp only [Array.size_append, List.size_toArray, size_zeroCells, hzs, hxl, hl]
        omega
      · simp only [Array.toList_append, List.append_assoc]
        rw [← List.append_assoc, ← hlen]
        exact List.take_left
      · exact (hst.drawn (w.drawn + 1) (Nat.le_succ _)).push _
    rcases hown.2 with ⟨rfl, rfl, rfl⟩ | ⟨gb, cap, cur, rfl, hnc, hcm, hcs, htake, rfl⟩
    · have hx0 : xs = [] := List.eq_nil_of_length_eq_zero hxl
      subst hx0
      by_cases hm : b.size = 0
      · have hn : strCells b = [] := List.eq_nil_of_length_eq_zero (by omega)
        rw [hn, hm]
        refine ⟨.slice none 0 0, w, ?_, [], OwnR.nil _ _, hw⟩
        have hf := run_firstCells_string (P := P) w i.size b
        rw [hm] at hf
        simp [Builtin.append_, run_underlying ht, run_underlying hu, sizeOf, typeInfo, hi', Builtin.lenOf, hm, hf]
      · have hr := run_append_nil_string (P := P) w t u ty e i z ht hu hi' hz b (by omega) (by omega) (by have hb := hbytes; simp only [Nat.zero_add] at hb; omega)
        obtain ⟨R', g1, g2⟩ := grown 0 (by omega) hw
        simp only [Nat.zero_add, List.nil_append, Array.empty_append] at g1 g2 ⊢
        refine ⟨_, _, hr, R', g1, ?_⟩
        have e1 : (b.data.map (fun b => Value.int .u8 b.toNat)) = (strCells b).toArray := by apply Array.ext'; simp [strCells]
        rw [e1]
        exact g2
    · by_cases hroom : n + b.size ≤ cap
      · have hfit : n + b.size ≤ cur.size := by omega
        have hr := run_append_room_string (P := P) w t u ty e i ht hu hi' h1 gb n cap cur (hw.at_ (j := 0) rfl) b hroom hfit
        refine ⟨_, _, hr, [(gb, .cells (cur.toList.take n ++ strCells b ++ cur.toList.drop (n + b.size)).toArray e (0, 0))], ⟨hlen, .inr ⟨gb, cap, _, rfl, hroom, hcm, ?_, ?_, rfl⟩⟩, hw.putRow _⟩
        · simp only [List.size_toArray, List.length_append, List.length_take, List.length_drop, Array.length_toList, hl]
          omega
        · rw [Nat.mul_one] at htake
          rw [htake, ← hlen]
          exact List.take_left
      · have holds : ∀ j u, xs[j]? = some u → w.cell? ((⟨gb, 0, none⟩ : Addr).add j) = some u := by
          intro j u hu
          have ha : (⟨gb, 0, none⟩ : Addr).add j = ⟨gb, j, none⟩ := by unfold Addr.add; split <;> simp_all
          rw [ha]
          refine cell_of_heap (hw.at_ (j := 0) rfl) ?_
          rw [← htake, List.getElem?_take] at hu
          split at hu
          · simpa using hu
          · cases hu
        have hr := run_append_grow_string (P := P) w t u ty e i z ht hu hi' hz ⟨gb, 0, none⟩ n cap xs (by rw [h1, hxl, Nat.mul_one]) holds b (by omega) (by omega) (growslice_fits (by omega) hbytes)
        obtain ⟨R', g1, g2⟩ := grown cap (by omega) (hw.drop (List.sublist_cons_self _ _))
        exact ⟨_, _, hr, R', g1, g2⟩
  obtain ⟨v', w', hr, R', g1, g2⟩ := key
  have e1 : (execOp (evalE ρ) ⟨d, .call { callee := .builtin .append, args := #[s, x], argTypes := #[t, u] }, ty, pos, af, g⟩).run P w = .ok (.value v') w' := by
    unfold execOp
    simp only [resolve, invoke, builtin, Sem.run_bind, Sem.run_pure, Result.andThen_ok, List.map_toArray, List.map_cons, List.map_nil, hs, hx, hr]
  rw [e1]
  exact ⟨(v', R'), rfl, g1, g2⟩
end
section
variable {P : Program} {ρ : Env} {A : World → Prop} {ty : TypeId} {w0 : World} {I : Foot} {L L2 : List HP}
instance {s x : Operand} {sv : SV} {t u e : TypeId} {z : List Value} {bytes : Nat} {b : ByteArray} {xs : List (KInt .u8)} [hs : Ev ρ s (.slice sv.a sv.n sv.cap)] [hx : Ev ρ x (.string b)] [ht : Und P t (.slice e)] [hu : Und P u .string] [hz : Inf P e z 1 bytes] [hA : InSL A w0 I L] [ho : FindOwn L sv e (KInt .u8) inferInstance xs L2] [hzl : FirstL z 1 z []] :
    OpE P ρ A (.call { callee := .builtin .append, args := #[s, x], argTypes := #[t, u] }) ty SV (fun r => .slice r.a r.n r.cap) (fun r => SL w0 I (OwnS e r (xs ++ bytesK b) :: L2)) (Room (xs.length + b.size) bytes) := ⟨fun h => OpT.sl fun w hw d pos af g => by
  obtain ⟨z', hz1, hz2, hz3⟩ := Inf.zero hz
  obtain ⟨H, R, Rs, h1, h2, h3, h4⟩ := (ho.out.sl hw).uncons
  have hn := OwnR.len h2
  have hzs : z'.cells.size = 1 := by rw [hz2]; simpa using hzl.out.2
  have hown : OwnR e 1 (.slice sv.a sv.n sv.cap) sv.n (flat xs) R := h2
  refine (T_appStr (P := P) (ρ := ρ) (ty := ty) (w0 := w0) (H := H) (L := Rs.flatten) ht.out hu.out hz3 hzs hs.out hown hx.out (by rw [hn]; have := h.2; simp only [maxLen]; omega) (by rw [hn]; exact h.1) d pos af g w h4).mono ?_
  rintro v w' ⟨⟨v1, R1⟩, rfl, ho', hst⟩
  obtain ⟨a, cap, hv, hc⟩ := ho'.slice
  dsimp only at ho' hv hst
  subst hv
  refine ⟨⟨a, sv.n + b.size, cap⟩, rfl, SL.cons h1 (R := R1) ?_ h3 hst⟩
  unfold OwnS
  rw [flat_append, flat_bytesK]
  exact ho'⟩
end
end Go.Fw
namespace Go.Fw
open Go Go.RowKit Go.Lib
set_option linter.unusedVariables false
set_option linter.unusedSimpArgs false
theorem add_at0 (g j : Nat) : (⟨g, 0, none⟩ : Addr).add j = ⟨g, j, none⟩ := by unfold Addr.add; split <;> simp_all
class ExtSame (P : Program) (f : FuncId) : Prop where
  out : ∀ (x : Value) (w : World), (callFunc f #[x]).run P w = .ok (.value x) w
section
variable {P : Program} {ρ : Env} {A : World → Prop} {ty : TypeId} {w0 : World} {I : Foot} {L L' : List HP}
theorem SL.shape {b : Nat} {t : TypeId} {cs : List Value} {w : World} (h : SL w0 I (Bk b t cs :: L) w) : w.shape? b = some (t, cs.length) := by
  have := h.bk
  simp [World.shape?, this]
instance {x : Operand} {src dst t t' : TypeId} {b n m : Nat} {z cs : List Value} [hx : Ev ρ x (.pointer (some ⟨b, 0, none⟩))] [hs : Und P src (.pointer t)] [hd : Und P dst .unsafePointer] [hz : Inf P t z n m] [hA : InSL A w0 I L] [hb : FindBk L b t' cs L'] :
    OpM P ρ A (.convert src dst x) ty (.pointer (some ⟨b, 0, none⟩)) (n ≠ 0 ∧ cs.length ≠ 0) := ⟨fun h => OpP.at fun w hw => by
  obtain ⟨i, hi, hi2⟩ := Option.map_eq_some_iff.1 hz.size
  have hsh := (hb.out.sl (hA.out w hw)).shape
  have := run_to_unsafe (P := P) w ⟨b, 0, none⟩ hs.out hd.out hi (by rw [hi2]; exact h.1) hsh (Nat.pos_of_ne_zero h.2)
  intro d pos af g w' hw'
  subst hw'
  simp only [execOp, hx.out, this, Sem.run_bind, Sem.run_pure, Result.andThen_ok, go_sem]⟩
instance {x : Operand} {f : FuncId} {ts : Array TypeId} {v : Value} [hx : Ev ρ x v] [hf : ExtSame P f] : OpM P ρ A (.call { callee := .value (.func f), args := #[x], argTypes := ts }) ty v True := ⟨fun _ => by
  intro d pos af g w _
  have e1 : evalE ρ (.func f) = .func (.func f) #[] #[] := rfl
  have e2 := hx.out
  simp [execOp, resolve, invoke, Deferred.ofValue, e1, e2, hf.out, go_sem]⟩
instance (priority := 1300) {x y : Operand} {t te u : TypeId} {a : Addr} {z : List Value} {n m : Nat} [h1 : Ev ρ x (.pointer (some a))] [h2 : Ev ρ y (.pointer (some a))] [ht : Und P t (.pointer te)] [hz : Inf P te z n m] : OpM P ρ A (.binOp .neq t x y u) ty (.bool false) True := ⟨fun _ => by
  obtain ⟨i, hi, hi2⟩ := Option.map_eq_some_iff.1 hz.size
  intro d pos af g w _
  have := run_neq_ptr_same (P := P) w a ht.out hi
  simp [execOp, eqGuard, h1.out, h2.out, this, go_sem]⟩
theorem SL.junk {w : World} (h : SL w0 I L w) (o : Obj) : SL w0 I L { w with heap := w.heap.push o } := Ent.drop1.sl (h.push (p := Ob w.heap.size o) o rfl)
instance {x : Operand} {s : SV} {ts : Array TypeId} {e t' : TypeId} {α : Type} {en : Enc α} {xs : List α} [hx : Ev ρ x (.slice s.a s.n s.cap)] [ht : Und P ty (.pointer e)] [hA : InSL A w0 I L] [ho : FindOwn L s t' α en xs L'] :
    OpE P ρ A (.call { callee := .builtin .unsafeSliceData, args := #[x], argTypes := ts }) ty { q : Option Addr // s.n ≠ 0 → q = s.a } (fun q => .pointer q.1) (fun _ => SL w0 I L) True := ⟨fun _ => OpT.sl fun w hw d pos af g => by
  obtain ⟨R, hR, hm⟩ := (ho.out.sl hw).heap
  have hexec : ∀ v w', (Builtin.unsafeSliceData_ ts ty #[.slice s.a s.n s.cap]).run P w = .ok v w' → (execOp (evalE ρ) ⟨d, .call { callee := .builtin .unsafeSliceData, args := #[x], argTypes := ts }, ty, pos, af, g⟩).run P w = .ok (.value v) w' := by
    intro v w' h
    unfold execOp
    simp only [resolve, invoke, builtin, Sem.run_bind, Sem.run_pure, Result.andThen_ok, List.map_toArray, List.map_cons, List.map_nil, hx.out, h]
  rcases hR.2 with ⟨hv, hn, hr⟩ | ⟨gb, cap, cur, hv, hnc, hcm, hcs, htake, hr⟩
  · injection hv with h1 h2 h3
    rw [hexec _ _ (by rw [h1]; exact run_unsafeSliceData_nil (P := P) w ts ty s.n s.cap)]
    exact ⟨⟨none, fun hne => absurd hn hne⟩, rfl, hw⟩
  · injection hv with h1 h2 h3
    by_cases hc : s.cap = 0
    · have hg := hm gb _ (by rw [hr]; exact List.mem_singleton.2 rfl)
      have hsh : w.shape? gb = some (t', cur.size) := by simp [World.shape?, hg]
      rw [hexec _ _ (by rw [h1, hc]; exact run_unsafeSliceData_zero (P := P) w ts ty e ht.out ⟨gb, 0, none⟩ s.n _ hsh)]
      exact ⟨⟨some ⟨w.heap.size, 0, none⟩, fun hne => absurd (show s.n = 0 by omega) hne⟩, rfl, hw.junk _⟩
    · rw [hexec _ _ (by rw [h1]; exact run_unsafeSliceData_row (P := P) w ts ty ⟨gb, 0, none⟩ s.n s.cap hc)]
      exact ⟨⟨some ⟨gb, 0, none⟩, fun _ => h1.symm⟩, rfl, hw⟩⟩
theorem unsafeStr {x y : Operand} {q : Option Addr} {pt it e : TypeId} {s : SV} {t : ByteArray} [hx : Ev ρ x (.pointer q)] [hy : Ev ρ y (.int .i64 (t.size : Int))] [hA : InSL A w0 I L] [hp : Und P pt (.pointer e)] (hc : P.cellsOf e = 1) (ho : Ent L (OwnS e s (bytesK t) :: L')) (hq : s.n ≠ 0 → q = s.a) :
    OpE P ρ A (.call { callee := .builtin .unsafeString, args := #[x, y], argTypes := #[pt, it] }) ty Unit (fun _ => .string t) (fun _ => SL w0 I L') True := ⟨fun _ => OpT.sl fun w hw d pos af g => by
  have hexec : ∀ v w', (Builtin.unsafeString_ #[pt, it] ty #[.pointer q, .int .i64 (t.size : Int)]).run P w = .ok v w' → (execOp (evalE ρ) ⟨d, .call { callee := .builtin .unsafeString, args := #[x, y], argTypes := #[pt, it] }, ty, pos, af, g⟩).run P w = .ok (.value v) w' := by
    intro v w' h
    unfold execOp
    simp only [resolve, invoke, builtin, Sem.run_bind, Sem.run_pure, Result.andThen_ok, List.map_toArray, List.map_cons, List.map_nil, hx.out, hy.out, h]
  obtain ⟨H, R, Rs, h1, hR, h2, h3⟩ := (ho.sl hw).uncons
  have hn : s.n = t.size := by rw [OwnR.len hR, bytesK_len]
  by_cases h0 : t.size = 0
  · have ht : t = ⟨#[]⟩ := by
      cases t with
      | mk d => simp only [ByteArray.size] at h0; rw [Array.eq_empty_of_size_eq_zero h0]
    rw [hexec _ _ (by rw [h0]; exact run_unsafeString_none (P := P) w pt it ty q)]
    exact ⟨(), by rw [ht]; rfl, (ho.trans Ent.drop1).sl hw⟩
  · rcases hR.2 with ⟨hv, hz, hr⟩ | ⟨gb, cap, cur, hv, hnc, hcm, hcs, htake, hr⟩
    · omega
    · injection hv with g1 g2 g3
      have hqe := hq (by omega)
      rw [g1] at hqe
      subst hqe
      subst hr
      have hg := (h3.own (gb, .cells cur e (0, 0)) (List.mem_append_left _ (List.mem_singleton.2 rfl))).1
      have hsh : w.shape? gb = some (e, cur.size) := by simp [World.shape?, hg]
      have hll : t.data.toList.length = t.size := by rw [Array.length_toList]; rfl
      have hcur : cur.size = cap := by have h8 : cur.size = cap * 1 := hcs; omega
      have key := run_unsafeString_row (P := P) w pt it ty e hp.out hc gb cur.size hsh t.data.toList (fun hnil => h0 (by rw [← hll, hnil]; rfl)) (by omega) (by unfold maxLen at hcm; omega) (fun j v hj => by
        rw [add_at0]
        refine cell_of_heap hg ?_
        have hc2 : (flat (bytesK t))[j]? = some (.int .u8 (v.toNat : Int)) := by rw [flat_bytesK, List.getElem?_map, hj]; rfl
        rw [← htake, List.getElem?_take] at hc2
        split at hc2
        · simpa using hc2
        · cases hc2)
      rw [hll] at key
      rw [hexec _ _ key]
      refine ⟨(), rfl, ?_⟩
      have hst : St w0 H ((gb, .cells cur e (0, 0)) :: Rs.flatten) w := h3
      have hwf : w.freeze ⟨gb, 0, none⟩ t.size = { w with heap := w.heap.modify gb fun o => match o with
          | .cells c elem (lo, hi) => .cells c elem (if lo == hi then (0, 0 + t.size) else (min lo 0, max hi (0 + t.size)))
          | o => o } := by unfold World.freeze; rw [if_neg h0]; rfl
      rw [hwf]
      have hfr := hst.put (j := 0) (b := gb) (o := .cells cur e (0, 0)) (o' := .cells cur e (0, 0 + t.size)) rfl (w' := { w with heap := w.heap.modify gb fun o => match o with
          | .cells c elem (lo, hi) => .cells c elem (if lo == hi then (0, 0 + t.size) else (min lo 0, max hi (0 + t.size)))
          | o => o }) (fun k => by
        show (w.heap.modify gb _)[k]? = _
        rw [Array.getElem?_modify]
        by_cases hk : k = gb
        · subst hk
          rw [if_pos rfl, if_pos rfl, hg]; rfl
        · rw [if_neg (fun h => hk h.symm), if_neg hk]) (by simp) rfl rfl rfl (Nat.le_refl _)
      exact ⟨H, Rs, h1, h2, hfr.drop (List.sublist_cons_self _ _)⟩⟩
end
end Go.Fw
namespace Go.Proofs.YthkhneimfjaohaaGreatDoor
open Go Go.Fw Go.RowKit
set_option linter.unusedVariables false
set_option linter.unusedSimpArgs false
set_option maxRecDepth 100000
set_option maxHeartbeats 16000000
set_option synthInstance.maxHeartbeats 200000
set_option synthInstance.maxSize 100000
attribute [local irreducible] WPA WLA WDA WDQ WDE QQ seqQ blockQ loopQ fnQ OpP OpT Tr TrP SL SLd OwnS LitS Bk BkE Ob
open Go.Lib
instance : Und Tryz.prog 142 .unsafePointer := ⟨Tryz.underlying142⟩
class LiesU (P : Program) (t u : TypeId) (n : outParam Nat) : Prop where
  out : liesAt P P.depth t (n / P.cellsOf t) 0 u 1 = true
instance : LiesU Tryz.prog 51 49 2 := ⟨by kernel_rfl⟩
instance {P : Program} {ρ : Env} {A : World → Prop} {ty : TypeId} {w0 : World} {I : Foot} {L L' : List HP} {x : Operand} {src dst t u : TypeId} {b n m k : Nat} {z cs : List Value} [hx : Ev ρ x (.pointer (some ⟨b, 0, none⟩))] [hs : Und P src .unsafePointer] [hd : Und P dst (.pointer u)] [hz : Inf P u z n m] [hA : InSL A w0 I L] [hb : FindBk L b t cs L'] [hl : LiesU P t u k] [hn : LenL cs k] :
    OpM P ρ A (.convert src dst x) ty (.pointer (some ⟨b, 0, none⟩)) True := ⟨fun _ => OpP.at fun w hw => by
  obtain ⟨i, hi, hi2⟩ := Option.map_eq_some_iff.1 hz.size
  have hsh := (hb.out.sl (hA.out w hw)).shape
  have := run_from_unsafe (P := P) w ⟨b, 0, none⟩ hs.out hd.out hi hsh (by rw [hn.out]; exact hl.out)
  unfold OpP
  intro d pos af g w' hw'
  subst hw'
  simp only [execOp, hx.out, this, Sem.run_bind, Sem.run_pure, Result.andThen_ok, go_sem]⟩
instance : ExtSame Tryz.prog 86 := ⟨fun x w => by
  rw [run_callFunc_extern Tryz.func86 (by kernel_rfl) (by kernel_rfl) (by kernel_rfl) (e := Extern.AbiNoEscape.same) (by kernel_rfl)]
  rw [Lib.run_noEscape]; rfl⟩
theorem bytesK_append (t u : ByteArray) : bytesK (t ++ u) = bytesK t ++ bytesK u := by
  unfold bytesK
  rw [ByteArray.data_append, Array.toList_append, List.map_append]
def PrnR (b : Nat) (t : ByteArray) : HP := exH fun q : Option Addr × SV => pureH (q.1 = none ∨ q.1 = some ⟨b, 0, none⟩) (star (Bk b 51 [.pointer q.1, .slice q.2.a q.2.n q.2.cap]) (OwnS 5 q.2 (bytesK t)))
theorem PrnR.fold {b : Nat} {t : ByteArray} {s : SV} {L : List HP} : Ent (Bk b 51 [.pointer (some ⟨b, 0, none⟩), .slice s.a s.n s.cap] :: OwnS 5 s (bytesK t) :: L) (PrnR b t :: L) := Ent.ex (some ⟨b, 0, none⟩, s) (Ent.pure (.inr rfl) (Ent.star Ent.refl))
theorem PrnR.new {b : Nat} {L : List HP} : Ent (Bk b 51 [.pointer none, .slice none 0 0] :: L) (PrnR b ⟨#[]⟩ :: L) :=
  (Ent.cons (Ent.ownNil (α := KInt .u8) (t := 5) Ent.refl)).trans (Ent.ex (none, SV.nil) (Ent.pure (.inl rfl) (Ent.star Ent.refl)))
instance {b : Nat} {t : ByteArray} : Opn (PrnR b t) { q : Option Addr × SV // q.1 = none ∨ q.1 = some ⟨b, 0, none⟩ } (fun q L => Bk b 51 [.pointer q.1.1, .slice q.1.2.a q.1.2.n q.1.2.cap] :: OwnS 5 q.1.2 (bytesK t) :: L) := ⟨fun w0 I L w h => by
  obtain ⟨q, h⟩ := h.exH
  obtain ⟨hq, h⟩ := h.pureH
  exact ⟨⟨q, hq⟩, Ent.unstar.sl h⟩⟩
section
variable {L L' : List HP} {w0 : World} {I : Foot}
theorem pCopy_tr {b : Nat} {q : Option Addr} {s : SV} (hq : q = none ∨ q = some ⟨b, 0, none⟩) : Tr Tryz.prog 68 #[.pointer (some ⟨b, 0, none⟩)] (SL w0 I (Bk b 51 [.pointer q, .slice s.a s.n s.cap] :: L)) (fun _ : Unit => .tuple #[]) (fun _ => SL w0 I (Bk b 51 [.pointer (some ⟨b, 0, none⟩), .slice s.a s.n s.cap] :: L)) := by
  refine Tr.intro Tryz.func68 rfl Tryz.ntmps68 rfl ?_
  rcases hq with rfl | rfl
  · have h1 : (2 : Nat) ≠ 0 ∧ ([.pointer none, .slice s.a s.n s.cap] : List Value).length ≠ 0 := ⟨by decide, by simp⟩
    repeat' (first | ((first | refine WLA.m rfl rfl ?_ ?_ | refine WLA.st rfl ?_ ?_ | refine WLA.x rfl rfl ?_ (fun x => ?_) | refine WLA.x0 rfl ?_ (fun x => ?_)); first | exact sdT | skip) | (refine Stp.go ?_) | (refine WPA.ifT ?_) | (refine WPA.ifF ?_) | ((first | refine WPA.dec ?_); first | refine orL ?_ | refine orR ?_) | ((first | refine WPA.ifBt ?_ ?_ | refine WPA.ifBnf ?_ ?_); assumption) | ((first | refine WPA.ifBnt ?_ ?_ | refine WPA.ifBf ?_ ?_); assumption) | ((first | refine WPA.ifs ?_ ?_ | refine WPA.ifB ?_ ?_) <;> intro hc))
    exact QQ.endn rfl () rfl fun w h => h.to
  · skip
    repeat' (first | ((first | refine WLA.m rfl rfl ?_ ?_ | refine WLA.st rfl ?_ ?_ | refine WLA.x rfl rfl ?_ (fun x => ?_) | refine WLA.x0 rfl ?_ (fun x => ?_)); first | exact sdT | skip) | (refine Stp.go ?_) | (refine WPA.ifT ?_) | (refine WPA.ifF ?_) | ((first | refine WPA.dec ?_); first | refine orL ?_ | refine orR ?_) | ((first | refine WPA.ifBt ?_ ?_ | refine WPA.ifBnf ?_ ?_); assumption) | ((first | refine WPA.ifBnt ?_ ?_ | refine WPA.ifBf ?_ ?_); assumption) | ((first | refine WPA.ifs ?_ ?_ | refine WPA.ifB ?_ ?_) <;> intro hc))
    exact QQ.endn rfl () rfl fun w h => h.to
theorem pWrite_tr {b : Nat} {t u : ByteArray} [h : FindK L PrnR b t L'] (hz : t.size + u.size ≤ 140737488355328) : Tr Tryz.prog 43 #[.pointer (some ⟨b, 0, none⟩), .string u] (SL w0 I L) (fun _ : Unit => .tuple #[.int .i64 u.size, .nilIface]) (fun _ => SL w0 I (PrnR b (t ++ u) :: L')) := by
  refine Tr.at h.out (Tr.opn fun q => ?_)
  obtain ⟨⟨q, s⟩, hq⟩ := q
  dsimp only
  refine Tr.intro Tryz.func43 rfl Tryz.ntmps43 rfl ?_
  have hbl := bytesK_len t
  have hroom : Room ((bytesK t).length + u.size) 1 := ⟨by omega, by omega⟩
  repeat' (first | ((first | refine WLA.m rfl rfl ?_ ?_ | refine WLA.st rfl ?_ ?_ | refine WLA.x rfl rfl ?_ (fun x => ?_) | refine WLA.x0 rfl ?_ (fun x => ?_)); first | exact sdT | skip) | (refine Stp.go ?_) | (guard_target =~ WLA _ _ _ _ _ (⟨_, .call ⟨.value (.func 68), _, _⟩, _, _, _, _⟩ :: _) _ _; refine WLA.call rfl rfl (pCopy_tr hq) ?_; rintro ⟨⟩) | (refine WPA.ifT ?_) | (refine WPA.ifF ?_) | ((first | refine WPA.dec ?_); first | refine orL ?_ | refine orR ?_) | ((first | refine WPA.ifBt ?_ ?_ | refine WPA.ifBnf ?_ ?_); assumption) | ((first | refine WPA.ifBnt ?_ ?_ | refine WPA.ifBf ?_ ?_); assumption) | ((first | refine WPA.ifs ?_ ?_ | refine WPA.ifB ?_ ?_) <;> intro hc))
  refine QQ.end_ rfl () rfl fun w h => ?_
  have h2 : SL w0 I (Bk b 51 [.pointer (some ⟨b, 0, none⟩), .slice x.a x.n x.cap] :: OwnS 5 x (bytesK (t ++ u)) :: L') w := by rw [bytesK_append]; exact h.to
  exact PrnR.fold.sl h2
theorem pString_tr {b : Nat} {t : ByteArray} [h : FindK L PrnR b t L'] : Tr Tryz.prog 19 #[.pointer (some ⟨b, 0, none⟩)] (SL w0 I L) (fun _ : Unit => .string t) (fun _ => SL w0 I L') := by
  refine Tr.at h.out (Tr.opn fun q => ?_)
  obtain ⟨⟨q, s⟩, hq⟩ := q
  dsimp only
  refine Tr.intro Tryz.func19 rfl Tryz.ntmps19 rfl ?_
  have hbl : ((bytesK t).length : Int) = t.size := by rw [bytesK_len]
  repeat' (first | ((rw [hbl])) | ((first | refine WLA.m rfl rfl ?_ ?_ | refine WDQ.m rfl rfl ?_ ?_ | refine WLA.st rfl ?_ ?_ | refine WLA.x rfl rfl ?_ (fun x => ?_) | refine WLA.x0 rfl ?_ (fun x => ?_)); first | exact sdT | skip) | (refine Stp.go ?_) | (refine WPA.ifT ?_) | (refine WPA.ifF ?_) | ((first | refine WPA.dec ?_); first | refine orL ?_ | refine orR ?_) | ((first | refine WPA.ifBt ?_ ?_ | refine WPA.ifBnf ?_ ?_); assumption) | ((first | refine WPA.ifBnt ?_ ?_ | refine WPA.ifBf ?_ ?_); assumption) | ((first | refine WPA.ifs ?_ ?_ | refine WPA.ifB ?_ ?_) <;> intro hc) | (guard_target =~ WPA _ _ _ (.region 1 _ true) _ _ _; refine WPA.drawT 10 (.q 0 (.q 1 (.q 2 (.q 3 (.q 5 (.q 6 (.q 7 (.q 8 (.q 9 (.e 4 .fin)))))))))) mixed ?_ ?_; kernel_rfl) | (refine WDA.finish (tl := [⟨_, _, _, _, _, _⟩, ⟨_, _, _, _, _, _⟩]) rfl ?_) | (refine WDQ.see rfl ?_) | (refine WDE.see rfl ?_) | (refine WDE.alloc rfl rfl (fun w h => h) (fun x => ?_)) | (refine WDE.stE rfl ?_) | (refine WDE.x rfl rfl ?_ ?_ (fun x => ?_); rotate_left 1; (intro x w h; first | exact h | exact Ent.drop1.sl h | exact SL.unI h | exact SL.to h); rotate_left 1; first | exact sdT | skip))
  refine WLA.x (h := unsafeStr (P := Tryz.prog) (e := 5) (s := s) (t := t) (by kernel_rfl) (Ent.swap : Ent _ (OwnS 5 s (bytesK t) :: _)) x.2) rfl rfl trivial (fun _ => ?_)
  repeat' (first | ((first | refine WLA.m rfl rfl ?_ ?_ | refine WDQ.m rfl rfl ?_ ?_ | refine WDP.m rfl rfl ?_ ?_ | refine WLA.st rfl ?_ ?_ | refine WLA.x rfl rfl ?_ (fun x => ?_) | refine WLA.x0 rfl ?_ (fun x => ?_) | refine WDW.x rfl rfl ?_ (fun x => ?_) | refine WDW.st rfl ?_ ?_); first | exact sdT | skip) | (refine Stp.go ?_) | (refine WPA.ifT ?_) | (refine WPA.ifF ?_) | ((first | refine WPA.dec ?_); first | refine orL ?_ | refine orR ?_) | ((first | refine WPA.ifBt ?_ ?_ | refine WPA.ifBnf ?_ ?_); assumption) | ((first | refine WPA.ifBnt ?_ ?_ | refine WPA.ifBf ?_ ?_); assumption) | ((first | refine WPA.ifs ?_ ?_ | refine WPA.ifB ?_ ?_) <;> intro hc) | (guard_target =~ WPA _ _ _ (.region 1 _ true) _ _ _; refine WPA.drawT 10 (.p 0 (.p 1 (.p 2 (.q 3 (.p 5 (.p 6 (.p 7 (.p 8 (.p 9 (.w 4 .fin)))))))))) mixed ?_ ?_; kernel_rfl) | (refine WDA.finish (tl := [⟨_, _, _, _, _, _⟩, ⟨_, _, _, _, _, _⟩]) rfl ?_) | (refine WDQ.see rfl ?_) | (refine WDP.see rfl ?_) | (refine WDW.see rfl ?_))
  exact QQ.end_ rfl () rfl fun w h => h.to
def sumB (l : List ByteArray) : Nat := (l.map ByteArray.size).sum
theorem line_tr {b : Nat} {t : ByteArray} {s : SV} {xs : List ByteArray} [h : FindK L PrnR b t L'] [hs : SlI I s ByteArray inferInstance xs] (hz : t.size + sumB xs + 1 ≤ 1000000000) (hn : xs.length ≤ 1000000) :
    Tr Tryz.prog 16 #[.pointer (some ⟨b, 0, none⟩), .slice s.a s.n s.cap] (SL w0 I L) (fun _ : Unit => .tuple #[]) (fun _ => SL w0 I (PrnR b (xs.foldl (· ++ ·) t ++ ⟨#[10]⟩) :: L')) := by
  refine Tr.at h.out ?_
  refine Tr.intro Tryz.func16 rfl Tryz.ntmps16 rfl ?_
  repeat' (first | ((first | refine WLA.m rfl rfl ?_ ?_ | refine WLA.st rfl ?_ ?_ | refine WLA.x rfl rfl ?_ (fun x => ?_) | refine WLA.x0 rfl ?_ (fun x => ?_)); first | exact sdT | skip) | (refine Stp.go ?_) | (refine WPA.ifT ?_) | (refine WPA.ifF ?_) | ((first | refine WPA.dec ?_); first | refine orL ?_ | refine orR ?_) | ((first | refine WPA.ifBt ?_ ?_ | refine WPA.ifBnf ?_ ?_); assumption) | ((first | refine WPA.ifBnt ?_ ?_ | refine WPA.ifBf ?_ ?_); assumption) | ((first | refine WPA.ifs ?_ ?_ | refine WPA.ifB ?_ ?_) <;> intro hc))
  refine WPA.loopS (σ := Nat × ByteArray) (fun y => [(0, .pointer (some ⟨b, 0, none⟩)), (6, .slice s.a s.n s.cap), (7, .int .i64 xs.length), (8, .int .i64 y.1)])
    (fun y => (y.1 ≤ xs.length ∧ y.2.size + sumB (xs.drop y.1) + 1 ≤ 1000000000) ∧ (xs.drop y.1).foldl (· ++ ·) y.2 = xs.foldl (· ++ ·) t) (fun y => SL w0 I (PrnR b y.2 :: L')) (fun y => xs.length - y.1) (0, t) ⟨rfl, rfl, rfl, rfl, trivial⟩ ⟨⟨Nat.zero_le _, hz⟩, rfl⟩ (fun w h => h) ?_
  rintro ⟨i, u⟩ ρ ⟨⟨hi, hu⟩, hf⟩
  dsimp only at hi hu hf ⊢
  by_cases hlt : i < xs.length
  · have hlt' : (i : Int) < xs.length := by omega
    have hir : (0 : Int) ≤ i ∧ (i : Int) < xs.length := by omega
    rw [List.drop_eq_getElem_cons hlt, List.foldl_cons] at hf
    have hsum : sumB (xs.drop i) = xs[i].size + sumB (xs.drop (i + 1)) := by rw [List.drop_eq_getElem_cons hlt]; unfold sumB; rw [List.map_cons, List.sum_cons]
    obtain ⟨v, hv⟩ : ∃ v, at_ xs (i : Int) = v := ⟨_, rfl⟩
    have hv2 : xs[i] = v := by rw [← hv, at_nat xs i hlt]
    rw [hv2] at hf hsum
    have hw := fun {L L' : List HP} [FindK L PrnR b u L'] => pWrite_tr (w0 := w0) (I := I) (L := L) (L' := L') (b := b) (t := u) (u := v) (by omega)
    repeat' (first | ((rw [hv])) | ((first | refine WLA.m rfl rfl ?_ ?_ | refine WLA.st rfl ?_ ?_ | refine WLA.x rfl rfl ?_ (fun x => ?_) | refine WLA.x0 rfl ?_ (fun x => ?_)); first | exact sdT | skip) | (refine Stp.go ?_) | (guard_target =~ WLA _ _ _ _ _ (⟨_, .call ⟨.value (.func 43), _, _⟩, _, _, _, _⟩ :: _) _ _; refine WLA.call rfl rfl (hw) ?_; rintro ⟨⟩) | (refine WPA.ifT ?_) | (refine WPA.ifF ?_) | ((first | refine WPA.dec ?_); first | refine orL ?_ | refine orR ?_) | ((first | refine WPA.ifBt ?_ ?_ | refine WPA.ifBnf ?_ ?_); assumption) | ((first | refine WPA.ifBnt ?_ ?_ | refine WPA.ifBf ?_ ?_); assumption) | ((first | refine WPA.ifs ?_ ?_ | refine WPA.ifB ?_ ?_) <;> intro hc))
    exact QQ.loopS (i + 1, u ++ v) ⟨rfl, rfl, rfl, rfl, trivial⟩ ⟨⟨hlt, by dsimp only; rw [ByteArray.size_append]; omega⟩, hf⟩ (by dsimp only; omega) (fun w h => h.to)
  · have hlt' : ¬ (i : Int) < xs.length := by omega
    rw [List.drop_of_length_le (by omega), List.foldl_nil] at hf
    subst hf
    have hw := fun {L L' : List HP} [FindK L PrnR b (xs.foldl (· ++ ·) t) L'] => pWrite_tr (w0 := w0) (I := I) (L := L) (L' := L') (b := b) (t := xs.foldl (· ++ ·) t) (u := ⟨#[10]⟩) (by have : (⟨#[10]⟩ : ByteArray).size = 1 := rfl; omega)
    repeat' (first | ((first | refine WLA.m rfl rfl ?_ ?_ | refine WLA.st rfl ?_ ?_ | refine WLA.x rfl rfl ?_ (fun x => ?_) | refine WLA.x0 rfl ?_ (fun x => ?_)); first | exact sdT | skip) | (refine Stp.go ?_) | (guard_target =~ WLA _ _ _ _ _ (⟨_, .call ⟨.value (.func 43), _, _⟩, _, _, _, _⟩ :: _) _ _; refine WLA.call rfl rfl (hw) ?_; rintro ⟨⟩) | (refine WPA.ifT ?_) | (refine WPA.ifF ?_) | ((first | refine WPA.dec ?_); first | refine orL ?_ | refine orR ?_) | ((first | refine WPA.ifBt ?_ ?_ | refine WPA.ifBnf ?_ ?_); assumption) | ((first | refine WPA.ifBnt ?_ ?_ | refine WPA.ifBf ?_ ?_); assumption) | ((first | refine WPA.ifs ?_ ?_ | refine WPA.ifB ?_ ?_) <;> intro hc))
    exact QQ.endn rfl () rfl fun w h => h.to
end
end Go.Proofs.YthkhneimfjaohaaGreatDoor
namespace Go.Proofs
open Go.Shelf
def Tryz.itoa_ren : Go.Shelf.Ren := ⟨fun | 171 => 17 | 243 => 44 | 246 => 69 | 283 => 87 | 284 => 88 | 285 => 89 | 286 => 90 | 129 => 101 | 317 => 100 | 318 => 102 | 319 => 103 | 320 => 104 | 337 => 112 | 338 => 113 | n => n, fun | 3 => 3 | 9 => 9 | 2 => 2 | 4 => 4 | 171 => 144 | 0 => 0 | 53 => 110 | 37 => 47 | 5 => 5 | 173 => 147 | 212 => 155 | 51 => 156 | 20 => 20 | 213 => 157 | 46 => 141 | 232 => 166 | 233 => 167 | n => n, fun | 17 => 0 | 18 => 2 | 19 => 3 | n => n⟩
theorem Tryz.itoa : Go.Proofs.LaysM.n171 Tryz.prog Tryz.itoa_ren := {
  mixed := by kernel_rfl
  f129 := Tryz.func101.trans (congrArg some (by kernel_rfl))
  f171 := Tryz.func17.trans (congrArg some (by kernel_rfl))
  f243 := Tryz.func44.trans (congrArg some (by kernel_rfl))
  f246 := Tryz.func69.trans (congrArg some (by kernel_rfl))
  f283 := Tryz.func87.trans (congrArg some (by kernel_rfl))
  f284 := Tryz.func88.trans (congrArg some (by kernel_rfl))
  f285 := Tryz.func89.trans (congrArg some (by kernel_rfl))
  f286 := Tryz.func90.trans (congrArg some (by kernel_rfl))
  f317 := Tryz.func100.trans (congrArg some (by kernel_rfl))
  f318 := Tryz.func102.trans (congrArg some (by kernel_rfl))
  f319 := Tryz.func103.trans (congrArg some (by kernel_rfl))
  f320 := Tryz.func104.trans (congrArg some (by kernel_rfl))
  f337 := Tryz.func112.trans (congrArg some (by kernel_rfl))
  f338 := Tryz.func113.trans (congrArg some (by kernel_rfl))
  t0 := Tryz.underlying0
  a0 := Tryz.isAgg0
  z0 := Tryz.sizeOf0
  v0 := Tryz.zeroValue0
  t2 := Tryz.underlying2
  a2 := Tryz.isAgg2
  z2 := Tryz.sizeOf2
  v2 := Tryz.zeroValue2
  t3 := Tryz.underlying3
  a3 := Tryz.isAgg3
  z3 := Tryz.sizeOf3
  v3 := Tryz.zeroValue3
  t4 := Tryz.underlying4
  a4 := Tryz.isAgg4
  z4 := Tryz.sizeOf4
  v4 := Tryz.zeroValue4
  t5 := Tryz.underlying5
  a5 := Tryz.isAgg5
  z5 := Tryz.sizeOf5
  v5 := Tryz.zeroValue5
  t9 := Tryz.underlying9
  a9 := Tryz.isAgg9
  z9 := Tryz.sizeOf9
  v9 := Tryz.zeroValue9
  t20 := Tryz.underlying20
  a20 := Tryz.isAgg20
  z20 := Tryz.sizeOf20
  v20 := Tryz.zeroValue20
  t37 := Tryz.underlying47
  a37 := Tryz.isAgg47
  z37 := Tryz.sizeOf47
  v37 := Tryz.zeroValue47
  t46 := Tryz.underlying141
  a46 := Tryz.isAgg141
  z46 := Tryz.sizeOf141
  v46 := Tryz.zeroValue141
  t51 := Tryz.underlying156
  a51 := Tryz.isAgg156
  z51 := Tryz.sizeOf156
  v51 := Tryz.zeroValue156
  t53 := Tryz.underlying110
  a53 := Tryz.isAgg110
  z53 := Tryz.sizeOf110
  v53 := Tryz.zeroValue110
  t171 := Tryz.underlying144
  a171 := Tryz.isAgg144
  z171 := Tryz.sizeOf144
  v171 := Tryz.zeroValue144
  t173 := Tryz.underlying147
  a173 := Tryz.isAgg147
  z173 := Tryz.sizeOf147
  v173 := Tryz.zeroValue147
  t212 := Tryz.underlying155
  a212 := Tryz.isAgg155
  z212 := Tryz.sizeOf155
  v212 := Tryz.zeroValue155
  t213 := Tryz.underlying157
  a213 := Tryz.isAgg157
  z213 := Tryz.sizeOf157
  t232 := Tryz.underlying166
  a232 := Tryz.isAgg166
  z232 := Tryz.sizeOf166
  v232 := Tryz.zeroValue166
  t233 := Tryz.underlying167
  a233 := Tryz.isAgg167
  z233 := Tryz.sizeOf167
  v233 := Tryz.zeroValue167
  g17 := by kernel_rfl
  g18 := by kernel_rfl
  g19 := by kernel_rfl
  i0 := by kernel_rfl
  i2 := by kernel_rfl
  i3 := by kernel_rfl
  i4 := by kernel_rfl
  i5 := by kernel_rfl
  i9 := by kernel_rfl
  i20 := by kernel_rfl
  i37 := by kernel_rfl
  i46 := by kernel_rfl
  i51 := by kernel_rfl
  i53 := by kernel_rfl
  i171 := by kernel_rfl
  i173 := by kernel_rfl
  i212 := by kernel_rfl
  i232 := by kernel_rfl
  i233 := by kernel_rfl
  m17 := by kernel_rfl
  m18 := by kernel_rfl
  m19 := by kernel_rfl }
def Tryz.join_ren : Go.Shelf.Ren := ⟨fun | 156 => 45 | 165 => 70 | 166 => 43 | 169 => 19 | 240 => 68 | 241 => 91 | 276 => 86 | 277 => 105 | n => n, fun | 31 => 22 | 9 => 9 | 3 => 3 | 4 => 4 | 0 => 0 | 20 => 20 | 72 => 49 | 76 => 95 | 70 => 46 | 37 => 47 | 75 => 94 | 127 => 98 | 164 => 142 | 5 => 5 | 80 => 43 | n => n, fun | n => n⟩
theorem Tryz.join : Go.Proofs.Lays.n156 Tryz.prog Tryz.join_ren := {
  mixed := by kernel_rfl
  f156 := Tryz.func45.trans (congrArg some (by kernel_rfl))
  f165 := Tryz.func70.trans (congrArg some (by kernel_rfl))
  f166 := Tryz.func43.trans (congrArg some (by kernel_rfl))
  f169 := Tryz.func19.trans (congrArg some (by kernel_rfl))
  f240 := Tryz.func68.trans (congrArg some (by kernel_rfl))
  f241 := Tryz.func91.trans (congrArg some (by kernel_rfl))
  f276 := Tryz.func86.trans (congrArg some (by kernel_rfl))
  f277 := Tryz.func105.trans (congrArg some (by kernel_rfl))
  t0 := Tryz.underlying0
  a0 := Tryz.isAgg0
  z0 := Tryz.sizeOf0
  v0 := Tryz.zeroValue0
  t3 := Tryz.underlying3
  a3 := Tryz.isAgg3
  z3 := Tryz.sizeOf3
  v3 := Tryz.zeroValue3
  t4 := Tryz.underlying4
  a4 := Tryz.isAgg4
  z4 := Tryz.sizeOf4
  v4 := Tryz.zeroValue4
  t9 := Tryz.underlying9
  a9 := Tryz.isAgg9
  z9 := Tryz.sizeOf9
  v9 := Tryz.zeroValue9
  t20 := Tryz.underlying20
  a20 := Tryz.isAgg20
  z20 := Tryz.sizeOf20
  v20 := Tryz.zeroValue20
  t31 := Tryz.underlying22
  a31 := Tryz.isAgg22
  z31 := Tryz.sizeOf22
  v31 := Tryz.zeroValue22
  t37 := Tryz.underlying47
  a37 := Tryz.isAgg47
  z37 := Tryz.sizeOf47
  v37 := Tryz.zeroValue47
  t70 := Tryz.underlying46
  a70 := Tryz.isAgg46
  z70 := Tryz.sizeOf46
  v70 := Tryz.zeroValue46
  t72 := Tryz.underlying49
  a72 := Tryz.isAgg49
  z72 := Tryz.sizeOf49
  v72 := Tryz.zeroValue49
  t75 := Tryz.underlying94
  a75 := Tryz.isAgg94
  z75 := Tryz.sizeOf94
  v75 := Tryz.zeroValue94
  t76 := Tryz.underlying95
  a76 := Tryz.isAgg95
  z76 := Tryz.sizeOf95
  v76 := Tryz.zeroValue95
  t127 := Tryz.underlying98
  a127 := Tryz.isAgg98
  z127 := Tryz.sizeOf98
  v127 := Tryz.zeroValue98
  t164 := Tryz.underlying142
  a164 := Tryz.isAgg142
  z164 := Tryz.sizeOf142
  v164 := Tryz.zeroValue142 }
end Go.Proofs
