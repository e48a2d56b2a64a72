/- Texts that ArpaParses_law leans on, part 15. Conditions: none. -/
import Derived.Test.YthkhneimfjaohaaGreatDoorQq14
namespace Go.Proofs.YthkhneimfjaohaaGreatDoor
open Go Go.Fw Go.RowKit
set_option linter.unusedVariables false
set_option linter.unusedSimpArgs false
set_option maxRecDepth 100000
set_option maxHeartbeats 16000000
set_option synthInstance.maxHeartbeats 200000
set_option synthInstance.maxSize 100000
attribute [local irreducible] WPA WLA WDA WDQ WDE QQ seqQ blockQ loopQ fnQ OpP OpT Tr TrP SL SLd OwnS LitS Bk BkE Ob
attribute [local irreducible] fnX TrX TblH VocH EntOk
abbrev Res3 (z : Nat × Nat × Nat) (m : List Value) (l e : Int) (L : List HP) : List HP := Bk z.1 25 m :: Bk z.2.1 3 [.int .i64 l] :: Bk z.2.2 28 [.int .i64 e] :: L
section
variable {L : List HP} {w0 : World} {I : Foot}
theorem all_trS {P : Nat} {s : ByteArray} {n : Int} {L' : List HP} {cv : SV} {cs : List Int} [h : FindK L PsH P (s, n) L'] [hcs : SlI I cv Int inferInstance cs] (hsz : 0 ≤ n ∧ n + s.size ≤ 999990) (hc : cs.length ≤ 8) (hc0 : ∀ c ∈ cs, 0 ≤ c) :
    TrX Tryz.prog 27 #[.pointer (some ⟨P, 0, none⟩), .slice cv.a cv.n cv.cap] (SL w0 I L)
      (fun x : { x : SV × List SV × List (List GrL) × (ByteArray × Int) × Foot // (allF cs.length cs 0 s n = .ok (x.2.2.1, x.2.2.2.1) ∧ x.2.1.length = x.2.2.1.length ∧ ∀ j : Nat, j < x.2.2.1.length → RowG (x.2.2.2.2 ++ I) (at_ x.2.1 (j : Int)) (x.2.2.1.getD j [])) ∧ SlI (x.2.2.2.2 ++ I) x.1 SV inferInstance x.2.1 } => .slice x.1.1.a x.1.1.n x.1.1.cap)
      (fun x => SL w0 (x.1.2.2.2.2 ++ I) (PsH P x.1.2.2.2.1 :: L'))
      (fun y : { y : Int × Int // allF cs.length cs 0 s n = .error y } => wrV y.1) (fun _ => SL w0 I L') := by
  refine (all_trX hsz hc hc0).conv (fun w hw => hw) (fun x w hw => ?_) (fun y w hw => ⟨y, rfl, hw⟩)
  obtain ⟨⟨h1, h2, h3, h4⟩, h5⟩ := hw
  obtain ⟨R, hR, h6⟩ := h5.freeze
  have q := SlI.ofOwn hR
  have s1 : SubI ((R ++ x.2.2.2.2) ++ I) x.2.2.2.2 := ⟨fun z hz => List.mem_append_left _ (List.mem_append_right _ hz)⟩
  have s2 : SubI ((R ++ x.2.2.2.2) ++ I) R := ⟨fun z hz => List.mem_append_left _ (List.mem_append_left _ hz)⟩
  exact ⟨⟨⟨x.1, x.2.1, x.2.2.1, x.2.2.2.1, R ++ x.2.2.2.2⟩, ⟨h1, h3, fun j hj => (h4 j hj).sub s1⟩, q.sub (hs := s2)⟩, rfl, h6.sub fun z hz => by
    rcases List.mem_append.1 hz with hz | hz
    · exact hz
    · exact List.mem_append_right _ (h2.out hz)⟩
theorem told_trS {av : SV} {vs : List SV} {gss : List (List GrL)} {fr : Int} [hav : SlI I av SV inferInstance vs] (hvl : vs.length = gss.length) (hpos : 0 < gss.length) (hrow : ∀ j : Nat, j < gss.length → RowG I (at_ vs (j : Int)) (gss.getD j [])) (hgl : gss.length ≤ 8) (hwl0 : ∀ r ∈ gss, ∀ g ∈ r, g.words.length ≤ 1000001) (hlen : ∀ r ∈ gss, r.length ≤ 1000000) (hw1 : ∀ g ∈ gss.getD 0 [], 0 < g.words.length) :
    TrX Tryz.prog 26 #[.int .i64 fr, .slice av.a av.n av.cap] (SL w0 I L)
      (fun x : { x : SV × SV × List (List EnL) × Foot // rowsF (idF (gss.getD 0 [])) gss = .ok x.2.2.1 ∧ MdL (x.2.2.2 ++ I) x.1 x.2.1 (wdsF (gss.getD 0 [])) (evs x.2.2.1) } => .agg #[.int .i64 fr, .slice x.1.1.a x.1.1.n x.1.1.cap, .slice x.1.2.1.a x.1.2.1.n x.1.2.1.cap])
      (fun x => SL w0 (x.1.2.2.2 ++ I) L)
      (fun y : { y : Int × Int // rowsF (idF (gss.getD 0 [])) gss = .error y } => wrV y.1) (fun _ => SL w0 I L) := by
  refine (told_trX hvl hpos hrow hgl hwl0 hlen hw1).conv (fun w hw => hw) (fun x w hw => ?_) (fun y w hw => ⟨y, rfl, hw⟩)
  obtain ⟨⟨h1, h2, h3, h3a, h4⟩, h5⟩ := hw
  obtain ⟨R, hR, h6⟩ := h5.freeze
  have q := SlI.ofOwn hR
  have s1 : SubI ((R ++ x.2.2.2.2) ++ I) x.2.2.2.2 := ⟨fun z hz => List.mem_append_left _ (List.mem_append_right _ hz)⟩
  have s2 : SubI ((R ++ x.2.2.2.2) ++ I) R := ⟨fun z hz => List.mem_append_left _ (List.mem_append_left _ hz)⟩
  refine ⟨⟨⟨x.1, x.2.1, x.2.2.2.1, R ++ x.2.2.2.2⟩, h1, h3.sub (hs := s1), x.2.2.1, q.sub (hs := s2), by unfold evs; rw [List.length_map, h3a], fun k hk => ?_⟩, rfl, h6.sub fun z hz => by
    rcases List.mem_append.1 hz with hz | hz
    · exact hz
    · exact List.mem_append_right _ (h2.out hz)⟩
  unfold evs at hk ⊢
  rw [List.length_map] at hk
  have := (h4 k hk).lst.sub s1
  rw [List.getD_eq_getElem?_getD, List.getElem?_eq_getElem hk] at this
  rw [List.getD_eq_getElem?_getD, List.getElem?_map, List.getElem?_eq_getElem hk]
  exact this
theorem MdL.nil : MdL I SV.nil SV.nil [] [] := ⟨SlI.nil, [], SlI.nil, rfl, fun k hk => absurd hk (Nat.not_lt_zero k)⟩
theorem clo_invoke {p q r : Nat} {w : World} : (invoke (dfc 24 [.pointer (some ⟨p, 0, none⟩), .pointer (some ⟨q, 0, none⟩), .pointer (some ⟨r, 0, none⟩)]).target (dfc 24 [.pointer (some ⟨p, 0, none⟩), .pointer (some ⟨q, 0, none⟩), .pointer (some ⟨r, 0, none⟩)]).args).run Tryz.prog w = .ok (.enter 24 #[.pointer (some ⟨p, 0, none⟩), .pointer (some ⟨q, 0, none⟩), .pointer (some ⟨r, 0, none⟩)]) w := by
  have h : Callb Tryz.prog 24 := inferInstance
  simp [dfc, invoke, run_callFunc h.out, go_sem]
theorem leave3 {p q r : Nat} {tmps : Array Value} {w : World} {J : Foot} {a b c : Value} {l e : Int} (hH : HasT tmps [(2, .pointer (some ⟨p, 0, none⟩)), (3, .pointer (some ⟨q, 0, none⟩)), (4, .pointer (some ⟨r, 0, none⟩))])
    (hw : SL w0 J (Res3 (p, q, r) [a, b, c] l e L) w) : (results Tryz.f10 tmps).run Tryz.prog w = .ok (.tuple #[.agg #[a, b, c], .int .i64 l, .int .i64 e]) w := by
  have hr : EvC Tryz.prog (envL [(2, .pointer (some ⟨p, 0, none⟩)), (3, .pointer (some ⟨q, 0, none⟩)), (4, .pointer (some ⟨r, 0, none⟩))] ⟨fun i => tmps.getD i undef, []⟩) (Bk p 25 [a, b, c] :: Bk q 3 [.int .i64 l] :: Bk r 28 [.int .i64 e] :: L) [.cell 2 25, .cell 3 3, .cell 4 28] [.agg #[a, b, c], .int .i64 l, .int .i64 e] := inferInstance
  exact hr.results (v := .tuple #[.agg #[a, b, c], .int .i64 l, .int .i64 e]) inferInstance rfl hw tmps (by rw [envL_has hH.env]; exact fun i => rfl)
theorem env_has {f : Nat → Value} {ms : List Nat} {l : List (Nat × Value)} (hm : ms = []) (h : Has ⟨f, ms⟩ l) : (⟨f, ms⟩ : Env) = envM [] (envL l ⟨f, []⟩) := by subst hm; rw [envL_has h]; rfl
abbrev Slt3 (z : Nat × Nat × Nat) (l : List (Nat × Value)) : List (Nat × Value) := (2, .pointer (some ⟨z.1, 0, none⟩)) :: (3, .pointer (some ⟨z.2.1, 0, none⟩)) :: (4, .pointer (some ⟨z.2.2, 0, none⟩)) :: l
theorem Parse_tr {s : ByteArray} (hs : s.size ≤ 999990) : Tr Tryz.prog 10 #[.string s] (SL w0 I L)
    (fun x : SV × SV × Foot => .tuple #[.agg #[.int .i64 (prF (parseF s)), .slice x.1.a x.1.n x.1.cap, .slice x.2.1.a x.2.1.n x.2.1.cap], .int .i64 (prY (parseF s)).1, .int .i64 (prY (parseF s)).2])
    (fun x w => (SubI x.2.2 I ∧ MdL x.2.2 x.1 x.2.1 (prW (parseF s)) (prA (parseF s))) ∧ SL w0 x.2.2 L w) := by
  refine Tr.introD (P := Tryz.prog) (δ := Nat × Nat × Nat) (args := [.string s]) (fun z => dfc 24 [.pointer (some ⟨z.1, 0, none⟩), .pointer (some ⟨z.2.1, 0, none⟩), .pointer (some ⟨z.2.2, 0, none⟩)])
    (fun z ρ w => Has ρ (Slt3 z [(0, .string s)]) ∧ SL w0 I (Res3 z [.int .i64 0, .slice none 0 0, .slice none 0 0] 0 0 L) w)
    (fun z ρ w => Has ρ (Slt3 z [(0, .string s)]) ∧ SL w0 I (Res3 z [.int .i64 0, .slice none 0 0, .slice none 0 0] 0 0 L) w)
    (fun z t w => HasT t (Slt3 z []) ∧ ∃ x : SV × SV × Foot, (SubI x.2.2 I ∧ MdL x.2.2 x.1 x.2.1 (prW (parseF s)) (prA (parseF s))) ∧ SL w0 x.2.2 (Res3 z [.int .i64 (prF (parseF s)), .slice x.1.a x.1.n x.1.cap, .slice x.2.1.a x.2.1.n x.2.1.cap] (prY (parseF s)).1 (prY (parseF s)).2 L) w)
    (fun z c t w => HasT t (Slt3 z []) ∧ ∃ y : { y : Int × Int // parseF s = .error y }, c = pan1 (wrV y.1) ∧ SL w0 I (Res3 z [.int .i64 0, .slice none 0 0, .slice none 0 0] 0 0 L) w)
    Tryz.func10 rfl Tryz.ntmps10 rfl ?_ ?_ ?_ ?_ ?_
  · skip
    repeat' (first | ((first | refine WLA.m rfl rfl ?_ ?_ | refine WLA.st rfl ?_ ?_ | refine WLA.x rfl rfl ?_ (fun x => ?_) | refine WLA.x0 rfl ?_ (fun x => ?_)); first | exact sdT | skip) | (refine Stp.go ?_) | (refine WPA.ifT ?_) | (refine WPA.ifF ?_) | ((first | refine WPA.dec ?_); first | refine orL ?_ | refine orR ?_) | ((first | refine WPA.ifBt ?_ ?_ | refine WPA.ifBnf ?_ ?_); assumption) | ((first | refine WPA.ifBnt ?_ ?_ | refine WPA.ifBf ?_ ?_); assumption) | ((first | refine WPA.ifs ?_ ?_ | refine WPA.ifB ?_ ?_) <;> intro hc))
    revert x; intro r; revert x; intro q; revert x; intro p
    unfold QQ
    exact fun w h => ⟨rfl, rfl, (p, q, r), ⟨rfl, rfl, rfl, rfl, trivial⟩, h.to⟩
  · rintro z ρ w a ha hm ⟨hH, hw⟩ Q hQ
    rw [← envL_has hH] at ha hm
    exact wl_mkdefer ha hm rfl fun a' ha' => hQ _ a' w ha' hm ⟨⟨rfl, rfl, rfl, rfl, trivial⟩, hw⟩
  · rintro ⟨p, q, r⟩ ⟨f, ms⟩ w a ha hm ⟨hH, hw⟩
    rw [env_has hm hH] at ha
    clear hm hH
    refine wp_rgX (Slt3 (p, q, r) []) rfl ha ⟨rfl, rfl, rfl, trivial⟩ hw (Qn := fun ρ w => ∃ t, Has ρ (Slt3 (p, q, r) [(5, .pointer (some ⟨t, 0, none⟩))]) ∧ SL w0 I (PsH t (s, 0) :: Res3 (p, q, r) [.int .i64 0, .slice none 0 0, .slice none 0 0] 0 0 L) w) (Qp' := fun c w => ∃ y : { y : Int × Int // parseF s = .error y }, c = pan1 (wrV y.1) ∧ SL w0 I (Res3 (p, q, r) [.int .i64 0, .slice none 0 0, .slice none 0 0] 0 0 L) w) ?_ ?_ (fun c w t h1 h2 => ⟨h1, h2⟩)
    · unfold Res3 Slt3
      dsimp only
      repeat' (first | ((first | refine WLA.m rfl rfl ?_ ?_ | refine WLA.st rfl ?_ ?_ | refine WLA.x rfl rfl ?_ (fun x => ?_) | refine WLA.x0 rfl ?_ (fun x => ?_)); first | exact sdT | skip) | (refine Stp.go ?_) | (refine WPA.ifT ?_) | (refine WPA.ifF ?_) | ((first | refine WPA.dec ?_); first | refine orL ?_ | refine orR ?_) | ((first | refine WPA.ifBt ?_ ?_ | refine WPA.ifBnf ?_ ?_); assumption) | ((first | refine WPA.ifBnt ?_ ?_ | refine WPA.ifBf ?_ ?_); assumption) | ((first | refine WPA.ifs ?_ ?_ | refine WPA.ifB ?_ ?_) <;> intro hc))
      revert x; intro t
      exact QQ.rend fun w h => ⟨t, ⟨rfl, rfl, rfl, rfl, trivial⟩, h⟩
    clear ha hw
    rintro ⟨f, ms⟩ w a ha hm ⟨t, hH, hw⟩
    rw [env_has hm hH] at ha
    clear hm hH
    refine wp_rgX (Slt3 (p, q, r) []) rfl ha ⟨rfl, rfl, rfl, trivial⟩ hw (Qn := fun ρ w => ∃ (fr : Int) (cs : List Int) (cv : SV) (s1 : ByteArray) (n1 : Int) (R : Foot), headF s 0 = .ok ((fr, cs), s1, n1) ∧ SlI (R ++ I) cv Int inferInstance cs ∧ Has ρ (Slt3 (p, q, r) [(5, .pointer (some ⟨t, 0, none⟩)), (6, .int .i64 fr), (7, .slice cv.a cv.n cv.cap)]) ∧ SL w0 (R ++ I) (PsH t (s1, n1) :: Res3 (p, q, r) [.int .i64 0, .slice none 0 0, .slice none 0 0] 0 0 L) w) (Qp' := fun c w => ∃ y : { y : Int × Int // parseF s = .error y }, c = pan1 (wrV y.1) ∧ SL w0 I (Res3 (p, q, r) [.int .i64 0, .slice none 0 0, .slice none 0 0] 0 0 L) w) ?_ ?_ (fun c w t h1 h2 => ⟨h1, h2⟩)
    · unfold Res3 Slt3
      dsimp only
      repeat' (first | ((first | refine WLA.m rfl rfl ?_ ?_ | refine WLA.st rfl ?_ ?_ | refine WLA.x rfl rfl ?_ (fun x => ?_) | refine WLA.x0 rfl ?_ (fun x => ?_)); first | exact sdT | skip) | (refine Stp.go ?_) | (guard_target =~ WLA _ _ _ _ _ (⟨_, .call ⟨.value (.func 25), _, _⟩, _, _, _, _⟩ :: _) _ _; first | (refine WLA.callX rfl rfl (head_trX ⟨by omega, by omega⟩) (by intro y; refine QQ.thrw ?_; exact QQ.rthrown ⟨y.1, by unfold parseF; simp only [y.2]⟩ rfl fun w h => h.to) ?_; rintro ⟨⟨⟨fr, cs⟩, cv, s1, n1⟩, hh⟩) | (refine WLA.callX0 rfl (head_trX ⟨by omega, by omega⟩) (by intro y; refine QQ.thrw ?_; exact QQ.rthrown ⟨y.1, by unfold parseF; simp only [y.2]⟩ rfl fun w h => h.to) ?_; rintro ⟨⟨⟨fr, cs⟩, cv, s1, n1⟩, hh⟩)) | (refine WPA.ifT ?_) | (refine WPA.ifF ?_) | ((first | refine WPA.dec ?_); first | refine orL ?_ | refine orR ?_) | ((first | refine WPA.ifBt ?_ ?_ | refine WPA.ifBnf ?_ ?_); assumption) | ((first | refine WPA.ifBnt ?_ ?_ | refine WPA.ifBf ?_ ?_); assumption) | ((first | refine WPA.ifs ?_ ?_ | refine WPA.ifB ?_ ?_) <;> intro hc))
      dsimp only at hh ⊢
      refine QQ.freeze fun R hR => ?_
      exact QQ.rend fun w h => ⟨fr, cs, cv, s1, n1, R, hh, by have := SlI.ofOwn hR; infer_instance, ⟨rfl, rfl, rfl, rfl, rfl, rfl, trivial⟩, h⟩
    clear ha hw
    rintro ⟨f, ms⟩ w a ha hm ⟨fr, cs, cv, s1, n1, R, hh, hcv, hH, hw⟩
    rw [env_has hm hH] at ha
    clear hm hH
    obtain ⟨⟨c1, c2, c3⟩, c4, c5⟩ := headF_ok hh
    dsimp only at c1 c2 c3
    refine wp_rgX (Slt3 (p, q, r) []) rfl ha ⟨rfl, rfl, rfl, trivial⟩ hw (Qn := fun ρ w => ∃ (gss : List (List GrL)) (s2 : ByteArray) (n2 : Int) (wv gv : SV) (rows : List (List EnL)) (R3 : Foot), allF cs.length cs 0 s1 n1 = .ok (gss, s2, n2) ∧ rowsF (idF (gss.getD 0 [])) gss = .ok rows ∧ MdL (R3 ++ I) wv gv (wdsF (gss.getD 0 [])) (evs rows) ∧ Has ρ (Slt3 (p, q, r) []) ∧ SL w0 (R3 ++ I) (Res3 (p, q, r) [.int .i64 fr, .slice wv.a wv.n wv.cap, .slice gv.a gv.n gv.cap] 0 0 L) w) (Qp' := fun c w => ∃ y : { y : Int × Int // parseF s = .error y }, c = pan1 (wrV y.1) ∧ SL w0 I (Res3 (p, q, r) [.int .i64 0, .slice none 0 0, .slice none 0 0] 0 0 L) w) ?_ ?_ (fun c w t h1 h2 => ⟨h1, h2⟩)
    · unfold Res3 Slt3
      dsimp only
      repeat' (first | ((first | refine WLA.m rfl rfl ?_ ?_ | refine WLA.st rfl ?_ ?_ | refine WLA.x rfl rfl ?_ (fun x => ?_) | refine WLA.x0 rfl ?_ (fun x => ?_)); first | exact sdT | skip) | (refine Stp.go ?_) | (guard_target =~ WLA _ _ _ _ _ (⟨_, .call ⟨.value (.func 27), _, _⟩, _, _, _, _⟩ :: _) _ _; first | (refine WLA.callX rfl rfl (all_trS ⟨by omega, by omega⟩ c2 c3) (by intro y; refine QQ.thrw ?_; exact QQ.rthrown ⟨y.1, by unfold parseF; simp only [hh, y.2]⟩ rfl fun w h => (SL.unI h).to) ?_; rintro ⟨⟨av, vs, gss, ⟨s2, n2⟩, R2⟩, ⟨ha1, ha2, ha3⟩, hav⟩) | (refine WLA.callX0 rfl (all_trS ⟨by omega, by omega⟩ c2 c3) (by intro y; refine QQ.thrw ?_; exact QQ.rthrown ⟨y.1, by unfold parseF; simp only [hh, y.2]⟩ rfl fun w h => (SL.unI h).to) ?_; rintro ⟨⟨av, vs, gss, ⟨s2, n2⟩, R2⟩, ⟨ha1, ha2, ha3⟩, hav⟩)) | (refine WPA.ifT ?_) | (refine WPA.ifF ?_) | ((first | refine WPA.dec ?_); first | refine orL ?_ | refine orR ?_) | ((first | refine WPA.ifBt ?_ ?_ | refine WPA.ifBnf ?_ ?_); assumption) | ((first | refine WPA.ifBnt ?_ ?_ | refine WPA.ifBf ?_ ?_); assumption) | ((first | refine WPA.ifs ?_ ?_ | refine WPA.ifB ?_ ?_) <;> intro hc))
      dsimp only at ha1 ha2 ha3 hav ⊢
      obtain ⟨b1, b2⟩ := allF_ok _ _ _ _ _ _ _ _ ha1
      have hpos : 0 < gss.length := by rw [b1]; exact List.length_pos_iff.2 c1
      have hm : gss.getD 0 [] ∈ gss := by rw [List.getD_eq_getElem?_getD, List.getElem?_eq_getElem hpos]; exact List.getElem_mem _
      have htold := fun {L : List HP} => told_trS (w0 := w0) (I := R2 ++ (R ++ I)) (L := L) (av := av) (vs := vs) (gss := gss) (fr := fr) ha2 hpos ha3 (by omega) (fun r hr g hg => by have := ((b2 r hr).2 g hg).top; omega) (fun r hr => by have := (b2 r hr).1; omega) (fun g hg => ((b2 _ hm).2 g hg).low)
      repeat' (first | ((first | refine WLA.m rfl rfl ?_ ?_ | refine WLA.st rfl ?_ ?_ | refine WLA.x rfl rfl ?_ (fun x => ?_) | refine WLA.x0 rfl ?_ (fun x => ?_)); first | exact sdT | skip) | (refine Stp.go ?_) | (guard_target =~ WLA _ _ _ _ _ (⟨_, .call ⟨.value (.func 26), _, _⟩, _, _, _, _⟩ :: _) _ _; first | (refine WLA.callX rfl rfl (htold) (by intro y; refine QQ.thrw ?_; exact QQ.rthrown ⟨y.1, by unfold parseF; simp only [hh, ha1, y.2]⟩ rfl fun w h => (SL.unI (SL.unI h)).to) ?_; rintro ⟨⟨wv, gv, rows, R3⟩, hr1, hM⟩) | (refine WLA.callX0 rfl (htold) (by intro y; refine QQ.thrw ?_; exact QQ.rthrown ⟨y.1, by unfold parseF; simp only [hh, ha1, y.2]⟩ rfl fun w h => (SL.unI (SL.unI h)).to) ?_; rintro ⟨⟨wv, gv, rows, R3⟩, hr1, hM⟩)) | (refine WPA.ifT ?_) | (refine WPA.ifF ?_) | ((first | refine WPA.dec ?_); first | refine orL ?_ | refine orR ?_) | ((first | refine WPA.ifBt ?_ ?_ | refine WPA.ifBnf ?_ ?_); assumption) | ((first | refine WPA.ifBnt ?_ ?_ | refine WPA.ifBf ?_ ?_); assumption) | ((first | refine WPA.ifs ?_ ?_ | refine WPA.ifB ?_ ?_) <;> intro hc))
      dsimp only at hr1 hM ⊢
      refine QQ.rend fun w h => ⟨gss, s2, n2, wv, gv, rows, R3 ++ (R2 ++ R), ha1, hr1, hM.sub ⟨fun z hz => ?_⟩, ⟨rfl, rfl, rfl, trivial⟩, (h.sub fun z hz => ?_).to⟩
      · simpa [List.append_assoc] using hz
      · simpa [List.append_assoc] using hz
    clear ha hw
    rintro ⟨f, ms⟩ w a ha hm ⟨gss, s2, n2, wv, gv, rows, R3, ha1, hr1, hM, hH, hw⟩
    rw [env_has hm hH] at ha
    clear hm hH
    obtain ⟨d1, d2, d3, d4⟩ := told_few (by omega) hh ha1 hr1
    have hp : parseF s = if chkA fr (wdsF (gss.getD 0 [])) (evs rows) ≠ 0 then .error (0, chkA fr (wdsF (gss.getD 0 [])) (evs rows)) else .ok (fr, wdsF (gss.getD 0 []), evs rows) := by unfold parseF; simp only [hh, ha1, hr1]
    have hchk := fun {L : List HP} => CheckA_tr (w0 := w0) (L := L) (fr := fr) hM d1 d2 d3 d4
    have hsub : SubI (R3 ++ I) I := inferInstance
    generalize chkA fr (wdsF (gss.getD 0 [])) (evs rows) = e at hp hchk
    refine wp_dfR (Qr' := fun ρ w => Has ρ (Slt3 (p, q, r) []) ∧ ∃ x : SV × SV × Foot, (SubI x.2.2 I ∧ MdL x.2.2 x.1 x.2.1 (prW (parseF s)) (prA (parseF s))) ∧ SL w0 x.2.2 (Res3 (p, q, r) [.int .i64 (prF (parseF s)), .slice x.1.a x.1.n x.1.cap, .slice x.2.1.a x.2.1.n x.2.1.cap] (prY (parseF s)).1 (prY (parseF s)).2 L) w) ha hw ?_ (fun ρ w t h1 h2 => ⟨HasT.of h1 h2.1, h2.2⟩)
    unfold Res3 Slt3
    dsimp only
    repeat' ((fail_if_success (guard_target =~ WPA _ _ _ (.region 6 _ _) _ _ _)); first | ((first | refine WLA.m rfl rfl ?_ ?_ | refine WLA.st rfl ?_ ?_ | refine WLA.x rfl rfl ?_ (fun x => ?_) | refine WLA.x0 rfl ?_ (fun x => ?_)); first | exact sdT | skip) | (refine Stp.go ?_) | (guard_target =~ WLA _ _ _ _ _ (⟨_, .call ⟨.value (.func 15), _, _⟩, _, _, _, _⟩ :: _) _ _; refine WLA.call rfl rfl (hchk) ?_; rintro ⟨⟩) | (refine WPA.ifT ?_) | (refine WPA.ifF ?_) | ((first | refine WPA.dec ?_); first | refine orL ?_ | refine orR ?_) | ((first | refine WPA.ifBt ?_ ?_ | refine WPA.ifBnf ?_ ?_); assumption) | ((first | refine WPA.ifBnt ?_ ?_ | refine WPA.ifBf ?_ ?_); assumption) | ((first | refine WPA.ifs ?_ ?_ | refine WPA.ifB ?_ ?_) <;> intro hc))
    by_cases he : e = 0
    · rw [if_neg (fun k => k he)] at hp
      rw [hp]
      repeat' (first | ((first | refine WLA.m rfl rfl ?_ ?_ | refine WLA.st rfl ?_ ?_ | refine WLA.x rfl rfl ?_ (fun x => ?_) | refine WLA.x0 rfl ?_ (fun x => ?_)); first | exact sdT | skip) | (refine Stp.go ?_) | (refine WPA.ifT ?_) | (refine WPA.ifF ?_) | ((first | refine WPA.dec ?_); first | refine orL ?_ | refine orR ?_) | ((first | refine WPA.ifBt ?_ ?_ | refine WPA.ifBnf ?_ ?_); assumption) | ((first | refine WPA.ifBnt ?_ ?_ | refine WPA.ifBf ?_ ?_); assumption) | ((first | refine WPA.ifs ?_ ?_ | refine WPA.ifB ?_ ?_) <;> intro hc))
      exact QQ.dret (fun w h => ⟨⟨rfl, rfl, rfl, trivial⟩, (wv, gv, R3 ++ I), ⟨hsub, hM⟩, by
        show SL w0 (R3 ++ I) (Bk p 25 [.int .i64 fr, .slice wv.a wv.n wv.cap, .slice gv.a gv.n gv.cap] :: Bk q 3 [.int .i64 0] :: Bk r 28 [.int .i64 0] :: L) w
        exact h.to⟩)
    · rw [if_pos he] at hp
      rw [hp]
      repeat' (first | ((first | refine WLA.m rfl rfl ?_ ?_ | refine WLA.st rfl ?_ ?_ | refine WLA.x rfl rfl ?_ (fun x => ?_) | refine WLA.x0 rfl ?_ (fun x => ?_)); first | exact sdT | skip) | (refine Stp.go ?_) | (refine WPA.ifT ?_) | (refine WPA.ifF ?_) | ((first | refine WPA.dec ?_); first | refine orL ?_ | refine orR ?_) | ((first | refine WPA.ifBt ?_ ?_ | refine WPA.ifBnf ?_ ?_); assumption) | ((first | refine WPA.ifBnt ?_ ?_ | refine WPA.ifBf ?_ ?_); assumption) | ((first | refine WPA.ifs ?_ ?_ | refine WPA.ifB ?_ ?_) <;> intro hc))
      exact QQ.dret (fun w h => ⟨⟨rfl, rfl, rfl, trivial⟩, (SV.nil, SV.nil, I), ⟨inferInstance, MdL.nil⟩, by
        show SL w0 I (Bk p 25 [.int .i64 0, .slice none 0 0, .slice none 0 0] :: Bk q 3 [.int .i64 0] :: Bk r 28 [.int .i64 e] :: L) w
        exact (h.sub hsub.out).to⟩)
  · rintro ⟨p, q, r⟩ w tmps ⟨hH, x, hx, hw⟩
    refine ⟨by simp, .inr ⟨by simp [Fence.wide], _, _, 24, _, rfl, clo_invoke, fun _ _ => trivial, (clo_idle hw).mono ?_⟩⟩
    rintro e u' w' ⟨rfl, rfl, hw'⟩
    exact ⟨_, leave3 hH hw', x, rfl, hx, (Ent.drop1.trans (Ent.drop1.trans Ent.drop1)).sl hw'⟩
  · rintro ⟨p, q, r⟩ c w tmps ⟨hH, ⟨y, hy⟩, rfl, hw⟩
    refine ⟨by simp, .inr ⟨by simp [Fence.wide], _, _, 24, _, rfl, clo_invoke, fun _ _ => trivial, (clo_caught hw).mono ?_⟩⟩
    rintro e u' w' ⟨rfl, rfl, hw'⟩
    have k := leave3 (J := I) (L := L) (a := .int .i64 0) (b := .slice none 0 0) (c := .slice none 0 0) (l := y.1) (e := y.2) hH hw'
    show LeavesInM Fence.wide 0 Tryz.prog Tryz.f10 tmps _ [] .returning w'
    refine ⟨_, k, (SV.nil, SV.nil, I), ?_⟩
    dsimp only
    rw [hy]
    exact ⟨rfl, ⟨inferInstance, MdL.nil⟩, (Ent.drop1.trans (Ent.drop1.trans Ent.drop1)).sl hw'⟩
end
end Go.Proofs.YthkhneimfjaohaaGreatDoor
namespace Go.Proofs.YthkhneimfjaohaaGreatDoor
open Go Go.Fw Go.RowKit
set_option linter.unusedVariables false
set_option linter.unusedSimpArgs false
set_option maxRecDepth 100000
set_option maxHeartbeats 16000000
set_option synthInstance.maxHeartbeats 200000
set_option synthInstance.maxSize 100000
attribute [local irreducible] WPA WLA WDA WDQ WDE QQ seqQ blockQ loopQ fnQ OpP OpT Tr TrP SL SLd OwnS LitS Bk BkE Ob
attribute [local irreducible] fnX TrX TblH VocH EntOk TabP PrnR parseF printB chkA
section
variable {L : List HP} {w0 : World} {I : Foot}
theorem PrintA_tr {fr : Int} {w g : SV} {ws : List ByteArray} {A : List (List EV)} (hT : TabP w0) (h0 : w0.drawn = 0) (hM : MdL I w g ws A) (h1 : ∀ s ∈ ws, s.size ≤ 140737488351232) (h2 : ws.length ≤ 1000000) (h3 : A.length ≤ 1000000) (h4 : ∀ es ∈ A, es.length ≤ 1000000 ∧ ∀ e ∈ es, e.2.length ≤ 1000000) (hz : chkA fr ws A = 0 → (printB fr ws A).size ≤ 900000000) :
    Tr Tryz.prog 8 #[.agg #[.int .i64 fr, .slice w.a w.n w.cap, .slice g.a g.n g.cap]] (SL w0 I L) (fun _ : Unit => .tuple #[.string (if chkA fr ws A = 0 then printB fr ws A else ⟨#[]⟩), .int .i64 (chkA fr ws A)]) (fun _ => SL w0 I L) := by
  unfold Tr
  intro u hu
  obtain ⟨gr, hQ⟩ := hM.nst hu
  have := Print_trK (L := L) (w0 := w0) (fr := fr) hT h0 (hQ.mdI h1 h2 h3 h4) hQ.cont hz
  unfold Tr at this
  exact this u hu
theorem known_tr : TrP Tryz.prog 14 #[] (SL w0 I L) (.string kn0) := by
  refine TrP.ofD fun u => Tr.intro Tryz.func14 rfl Tryz.ntmps14 rfl ?_
  repeat' (first | ((first | refine WLA.m rfl rfl ?_ ?_ | refine WLA.st rfl ?_ ?_ | refine WLA.x rfl rfl ?_ (fun x => ?_) | refine WLA.x0 rfl ?_ (fun x => ?_)); first | exact sdT | skip) | (refine Stp.go ?_) | (refine WPA.ifT ?_) | (refine WPA.ifF ?_) | ((first | refine WPA.dec ?_); first | refine orL ?_ | refine orR ?_) | ((first | refine WPA.ifBt ?_ ?_ | refine WPA.ifBnf ?_ ?_); assumption) | ((first | refine WPA.ifBnt ?_ ?_ | refine WPA.ifBf ?_ ?_); assumption) | ((first | refine WPA.ifs ?_ ?_ | refine WPA.ifB ?_ ?_) <;> intro hc))
  exact QQ.end_ rfl () rfl fun w h => h
theorem Parse_trS {s : ByteArray} (hs : s.size ≤ 999990) : Tr Tryz.prog 10 #[.string s] (SL w0 I L)
    (fun x : { x : SV × SV × Foot // MdL (x.2.2 ++ I) x.1 x.2.1 (prW (parseF s)) (prA (parseF s)) } => .tuple #[.agg #[.int .i64 (prF (parseF s)), .slice x.1.1.a x.1.1.n x.1.1.cap, .slice x.1.2.1.a x.1.2.1.n x.1.2.1.cap], .int .i64 (prY (parseF s)).1, .int .i64 (prY (parseF s)).2])
    (fun x => SL w0 (x.1.2.2 ++ I) L) := by
  have h := Parse_tr (w0 := w0) (I := I) (L := L) hs
  unfold Tr at h ⊢
  intro w hw
  refine (h w hw).mono ?_
  rintro e w' ⟨x, he, ⟨h1, h2⟩, h3⟩
  exact ⟨⟨x, h2.sub ⟨fun z hz => List.mem_append_left _ hz⟩⟩, he, h3.sub fun z hz => by
    rcases List.mem_append.1 hz with hz | hz
    · exact hz
    · exact h1.out hz⟩
theorem live_tr39 (hT : TabP w0) (h0 : w0.drawn = 0) : Tr Tryz.prog 7 #[] (SL w0 I L) (fun _ : Unit => .bool true) (fun _ => SL w0 I L) := by
  refine Tr.intro Tryz.func7 rfl Tryz.ntmps7 rfl ?_
  have hk := fun {I : Foot} {L : List HP} => known_tr (w0 := w0) (I := I) (L := L)
  have hp1 : ∀ {L : List HP}, Tr Tryz.prog 10 #[.string kn0] (SL w0 I L)
      (fun x : { x : SV × SV × Foot // MdL (x.2.2 ++ I) x.1 x.2.1 [kw0, kw1, kw2] kA } => .tuple #[.agg #[.int .i64 4, .slice x.1.1.a x.1.1.n x.1.1.cap, .slice x.1.2.1.a x.1.2.1.n x.1.2.1.cap], .int .i64 0, .int .i64 0]) (fun x => SL w0 (x.1.2.2 ++ I) L) := fun {L} => by
    have := Parse_trS (w0 := w0) (I := I) (L := L) (s := kn0) (by decide +kernel)
    rw [kparse] at this
    exact this
  repeat' ((fail_if_success (guard_target =~ WPA _ _ _ (.region 2 _ _) _ _ _)); first | ((first | refine WLA.m rfl rfl ?_ ?_ | refine WLA.st rfl ?_ ?_ | refine WLA.x rfl rfl ?_ (fun x => ?_) | refine WLA.x0 rfl ?_ (fun x => ?_)); first | exact sdT | skip) | (refine Stp.go ?_) | (guard_target =~ WLA _ _ _ _ _ (⟨_, .call ⟨.value (.func 14), _, _⟩, _, _, _, _⟩ :: _) _ _; refine WLA.cq rfl rfl (hk) ?_) | (guard_target =~ WLA _ _ _ _ _ (⟨_, .call ⟨.value (.func 10), _, _⟩, _, _, _, _⟩ :: _) _ _; refine WLA.call rfl rfl (hp1) ?_; rintro ⟨⟨wv, gv, R⟩, hM⟩) | (refine WPA.ifT ?_) | (refine WPA.ifF ?_) | ((first | refine WPA.dec ?_); first | refine orL ?_ | refine orR ?_) | ((first | refine WPA.ifBt ?_ ?_ | refine WPA.ifBnf ?_ ?_); assumption) | ((first | refine WPA.ifBnt ?_ ?_ | refine WPA.ifBf ?_ ?_); assumption) | ((first | refine WPA.ifs ?_ ?_ | refine WPA.ifB ?_ ?_) <;> intro hc))
  dsimp only at hM ⊢
  revert x; intro t1
  have hp2 : ∀ {L : List HP}, Tr Tryz.prog 10 #[.string ⟨#[92, 100, 97, 116, 97, 92, 10, 102, 114, 97, 99, 61, 48, 52, 10]⟩] (SL w0 (R ++ I) L)
      (fun x : { x : SV × SV × Foot // MdL (x.2.2 ++ (R ++ I)) x.1 x.2.1 [] [] } => .tuple #[.agg #[.int .i64 0, .slice x.1.1.a x.1.1.n x.1.1.cap, .slice x.1.2.1.a x.1.2.1.n x.1.2.1.cap], .int .i64 2, .int .i64 3]) (fun x => SL w0 (x.1.2.2 ++ (R ++ I)) L) := fun {L} => by
    have := Parse_trS (w0 := w0) (I := R ++ I) (L := L) (s := kz0) (by decide +kernel)
    rw [kzparse] at this
    exact this
  have hpr : ∀ {L : List HP}, Tr Tryz.prog 8 #[.agg #[.int .i64 4, .slice wv.a wv.n wv.cap, .slice gv.a gv.n gv.cap]] (SL w0 (R ++ I) L) (fun _ : Unit => .tuple #[.string kn0, .int .i64 0]) (fun _ => SL w0 (R ++ I) L) := fun {L} => by
    have := PrintA_tr (w0 := w0) (L := L) (fr := 4) hT h0 hM (by decide +kernel) (by decide) (by decide) (by decide) (fun _ => by rw [kprint]; decide +kernel)
    rw [kchk, if_pos rfl, kprint] at this
    exact this
  have hwv : SlI (R ++ I) wv ByteArray inferInstance [kw0, kw1, kw2] := hM.1
  repeat' ((fail_if_success (guard_target =~ WPA _ _ _ (.region 4 _ _) _ _ _)); first | ((first | refine WLA.m rfl rfl ?_ ?_ | refine WLA.st rfl ?_ ?_ | refine WLA.x rfl rfl ?_ (fun x => ?_) | refine WLA.x0 rfl ?_ (fun x => ?_)); first | exact sdT | skip) | (refine Stp.go ?_) | (guard_target =~ WLA _ _ _ _ _ (⟨_, .call ⟨.value (.func 8), _, _⟩, _, _, _, _⟩ :: _) _ _; refine WLA.call rfl rfl (hpr) ?_; rintro ⟨⟩) | (guard_target =~ WLA _ _ _ _ _ (⟨_, .call ⟨.value (.func 10), _, _⟩, _, _, _, _⟩ :: _) _ _; refine WLA.call rfl rfl (hp2) ?_; rintro ⟨⟨wv2, gv2, R2⟩, hM2⟩) | (refine WPA.ifT ?_) | (refine WPA.ifF ?_) | ((first | refine WPA.dec ?_); first | refine orL ?_ | refine orR ?_) | ((first | refine WPA.ifBt ?_ ?_ | refine WPA.ifBnf ?_ ?_); assumption) | ((first | refine WPA.ifBnt ?_ ?_ | refine WPA.ifBf ?_ ?_); assumption) | ((first | refine WPA.ifs ?_ ?_ | refine WPA.ifB ?_ ?_) <;> intro hc))
  dsimp only at hM2 ⊢
  have hwv2 : SlI (R2 ++ (R ++ I)) wv ByteArray inferInstance [kw0, kw1, kw2] := hwv.sub
  have d0 : decide ((0 : Int) = 0) = true := rfl
  have d3 : decide (((([kw0, kw1, kw2] : List ByteArray).length : Nat) : Int) = 3) = true := rfl
  have d4 : decide ((4 : Int) = 4) = true := rfl
  have dk : decide (kn0 = kn0) = true := decide_eq_true rfl
  have d2 : decide ((2 : Int) = 2) = true := rfl
  have d33 : decide ((3 : Int) = 3) = true := rfl
  repeat' (first | ((rw [d0])) | ((rw [d3])) | ((rw [d4])) | ((rw [dk])) | ((rw [d2])) | ((rw [d33])) | ((first | refine WLA.m rfl rfl ?_ ?_ | refine WLA.st rfl ?_ ?_ | refine WLA.x rfl rfl ?_ (fun x => ?_) | refine WLA.x0 rfl ?_ (fun x => ?_)); first | exact sdT | skip) | (refine Stp.go ?_) | (guard_target =~ WLA _ _ _ _ _ (⟨_, .call ⟨.value (.func 14), _, _⟩, _, _, _, _⟩ :: _) _ _; refine WLA.cq rfl rfl (hk) ?_) | (refine WPA.ifT ?_) | (refine WPA.ifF ?_) | (refine WLA.no rfl rfl ?_) | ((first | refine WPA.dec ?_ | ((fail_if_success (guard_target =~ WLA _ _ _ _ _ _ (put1 _ _ (.bool true)) _)); (fail_if_success (guard_target =~ WLA _ _ _ _ _ _ (put1 _ _ (.bool false)) _)); refine WLA.dec rfl rfl ?_) | refine WLA.pk ?_); first | refine orL ?_ | refine orR ?_) | ((first | refine WPA.ifBt ?_ ?_ | refine WPA.ifBnf ?_ ?_); assumption) | ((first | refine WPA.ifBnt ?_ ?_ | refine WPA.ifBf ?_ ?_); assumption) | ((first | refine WPA.ifs ?_ ?_ | refine WPA.ifB ?_ ?_) <;> intro hc) | ((fail_if_success (guard_target =~ WLA _ _ _ _ _ _ (put1 _ _ (.bool true)) _)); (fail_if_success (guard_target =~ WLA _ _ _ _ _ _ (put1 _ _ (.bool false)) _)); (first | refine WLA.both rfl rfl ?_ ?_ | refine WLA.bothB rfl rfl ?_ ?_) <;> intro hg))
  exact QQ.end_ rfl () rfl fun w h => (SL.unI (SL.unI h)).to
end
end Go.Proofs.YthkhneimfjaohaaGreatDoor
