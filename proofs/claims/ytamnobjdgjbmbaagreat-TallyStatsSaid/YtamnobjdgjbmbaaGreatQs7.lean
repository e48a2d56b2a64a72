/- Texts that TallyStats_law leans on, part 7. Conditions: none. -/
import Derived.Test.YtamnobjdgjbmbaaGreatQs6
namespace Go.Proofs.YtamnobjdgjbmbaaGreat
open Go Go.Fw Go.RowKit
set_option linter.unusedVariables false
set_option linter.unusedSimpArgs false
set_option maxRecDepth 100000
set_option maxHeartbeats 16000000
set_option synthInstance.maxHeartbeats 200000
set_option synthInstance.maxSize 100000
attribute [local irreducible] WPA WLA WDA WDQ WDE QQ seqQ blockQ loopQ fnQ OpP OpT Tr TrP SL SLd OwnS LitS Bk BkE Ob
attribute [local irreducible] RowH PileM
structure GoodL (I : Foot) (kg : SV → List Int) (tp : SV → List (SV × Int)) (h : SV) : Prop where
  sl : SlI I h (SV × Int) inferInstance (tp h)
  el : ∀ p ∈ tp h, SlI I p.1 Int inferInstance (kg p.1) ∧ (kg p.1).length ≤ 1000000
  ris : Ris kg (tp h)
def moP (kg : SV → List Int) (p : SV × Int) : Ct := (kg p.1, p.2)
section
variable (kg : SV → List Int) (tp : SV → List (SV × Int))
def ckey (c : Cu) : List Int := kg (at_ (tp c.1) c.2).1
def remC (c : Cu) : List Ct := ((tp c.1).drop c.2.toNat).map (moP kg)
def remL (l : List Cu) : List Ct := l.flatMap (remC kg tp)
def curB (hs : List SV) (c : Cu) : Prop := c.1 ∈ hs ∧ 0 ≤ c.2 ∧ c.2 < (tp c.1).length
end
section
variable {kg : SV → List Int} {tp : SV → List (SV × Int)} {I : Foot} {hs : List SV}
theorem curAt (hG : ∀ h ∈ hs, GoodL I kg tp h) {c : Cu} (hc : curB tp hs c) : CurAt I c (ckey kg tp c) := by
  obtain ⟨h1, h2, h3⟩ := hc
  have hm : at_ (tp c.1) c.2 ∈ tp c.1 := by rw [at_int _ _ h2 h3]; exact List.getElem_mem _
  exact ⟨tp c.1, (hG _ h1).sl, ⟨h2, h3⟩, ((hG _ h1).el _ hm).1, by have := ((hG _ h1).el _ hm).2; unfold ckey; omega⟩
theorem remC_cons {c : Cu} (hc : curB tp hs c) : remC kg tp c = (ckey kg tp c, (at_ (tp c.1) c.2).2) :: remC kg tp (c.1, c.2 + 1) := by
  obtain ⟨h1, h2, h3⟩ := hc
  unfold remC
  rw [List.drop_eq_getElem_cons (show c.2.toNat < (tp c.1).length by omega), List.map_cons, ← at_int _ _ h2 h3]
  dsimp only
  rw [show (c.2 + 1).toNat = c.2.toNat + 1 by omega]
  rfl
theorem remC_end {c : Cu} (h : ¬ c.2 < (tp c.1).length) : remC kg tp c = [] := by
  unfold remC
  rw [List.drop_of_length_le (by omega)]; rfl
theorem remL_mem {c : Cu} : ∀ {l : List Cu}, c ∈ l → (remC kg tp c).length ≤ (remL kg tp l).length
  | [], h => by simp at h
  | d :: l, h => by
    have e : remL kg tp (d :: l) = remC kg tp d ++ remL kg tp l := rfl
    rw [e, List.length_append]
    rcases List.mem_cons.1 h with rfl | h
    · omega
    · have := remL_mem h; omega
theorem tp_len {h : SV} (hm : h ∈ hs) : (tp h).length ≤ (remL kg tp (hs.map fun h => (h, 0))).length := by
  have h1 : ((h, 0) : Cu) ∈ hs.map fun h => (h, 0) := List.mem_map.2 ⟨h, hm, rfl⟩
  have h2 := remL_mem (kg := kg) (tp := tp) h1
  unfold remC at h2
  simpa using h2
theorem key_next (hG : ∀ h ∈ hs, GoodL I kg tp h) {c : Cu} (hc : curB tp hs c) (hn : c.2 + 1 < (tp c.1).length) : ltL (ckey kg tp c) (ckey kg tp (c.1, c.2 + 1)) := by
  obtain ⟨h1, h2, h3⟩ := hc
  have := (hG _ h1).ris
  unfold ckey
  rw [at_int _ _ h2 h3]
  dsimp only
  rw [at_int _ (c.2 + 1) (by omega) hn]
  exact List.pairwise_iff_getElem.1 this _ _ _ _ (by omega)
end
structure ML where
  l : List Cu
  c : Nat
  out : SV
  cs : List (SV × Int)
  ms : List Ct
theorem map_set_fst {α β : Type} {l : List (α × β)} {i : Nat} {x : α × β} (h : ∀ y, l[i]? = some y → y.1 = x.1) : (l.set i x).map Prod.fst = l.map Prod.fst := by
  apply List.ext_getElem?
  intro j
  rw [List.getElem?_map, List.getElem?_map, List.getElem?_set]
  by_cases e : i = j
  · subst e
    rw [if_pos rfl]
    split
    · rename_i hl
      rw [List.getElem?_eq_getElem hl, Option.map_some, Option.map_some, h _ (List.getElem?_eq_getElem hl)]
    · rename_i hl
      rw [List.getElem?_eq_none (by omega)]
  · rw [if_neg e]
theorem map_set_snd {α β γ : Type} {l : List (α × β)} {m : List (γ × β)} {i : Nat} {x : α × β} {y : γ × β} (hl : l.map Prod.snd = m.map Prod.snd) (h : x.2 = y.2) : (l.set i x).map Prod.snd = (m.set i y).map Prod.snd := by
  rw [List.map_set, List.map_set, hl, h]
theorem Lists_tr {kg : SV → List Int} {tp : SV → List (SV × Int)} {s : SV} {hs : List SV} {L : List HP} {w0 : World} {I : Foot} [hr : RdS I L s SV inferInstance hs] (hG : ∀ h ∈ hs, GoodL I kg tp h) (hn : hs.length + (remL kg tp (hs.map fun h => (h, 0))).length ≤ 50000) :
    Tr Tryz.prog 36 #[.slice s.a s.n s.cap] (SL w0 I L) (fun x : SV × List (SV × Int) => .slice x.1.a x.1.n x.1.cap)
      (fun x w => x.2.map Prod.snd = (((remL kg tp (hs.map fun h => (h, 0))).foldl putM []).map Prod.snd) ∧ SL w0 I (OwnS 84 x.1 x.2 :: RowH 3 (x.2.map Prod.fst) (((remL kg tp (hs.map fun h => (h, 0))).foldl putM []).map Prod.fst) :: L) w) := by
  refine Tr.intro Tryz.func36 rfl Tryz.ntmps36 rfl ?_
  generalize hall : remL kg tp (hs.map fun h => (h, 0)) = all at hn
  repeat' (first | ((first | refine WLA.m rfl rfl ?_ ?_ | refine WLA.st rfl ?_ ?_ | refine WLA.x rfl rfl ?_ (fun x => ?_) | refine WLA.x0 rfl ?_ (fun x => ?_)); first | exact trivial | exact rfl | assumption | omega | (refine ⟨?_, ?_⟩ <;> omega) | (simp only [Room, lenS]; omega) | decide | skip) | (refine Stp.go ?_) | (guard_target =~ WLA _ _ _ _ _ (⟨_, .call ⟨.value (.func 64), _, _⟩, _, _, _, _⟩ :: _) _ _; refine WLA.call rfl rfl (New_trM (ckey kg tp) _ _ _) ?_; rintro p) | (refine WPA.ifT ?_) | (refine WPA.ifF ?_) | ((first | refine WPA.dec ?_); first | refine .inl ⟨by first | assumption | omega | with_reducible rfl | (refine fun h => h ?_; first | assumption | with_reducible rfl) | (simp only [lenS] <;> omega) | decide, ?_⟩ | refine .inr ⟨by first | assumption | omega | with_reducible rfl | (refine fun h => h ?_; first | assumption | with_reducible rfl) | (simp only [lenS] <;> omega) | decide, ?_⟩) | ((first | refine WPA.ifBt ?_ ?_ | refine WPA.ifBnf ?_ ?_); assumption) | ((first | refine WPA.ifBnt ?_ ?_ | refine WPA.ifBf ?_ ?_); assumption) | ((first | refine WPA.ifs ?_ ?_ | refine WPA.ifB ?_ ?_) <;> intro hc))
  revert x; intro pb
  refine WPA.loopS (σ := Nat × List Cu × Nat) (fun y => [(3, .pointer (some ⟨pb, 0, none⟩)), (11, .slice s.a s.n s.cap), (12, .int .i64 hs.length), (13, .int .i64 y.1)])
    (fun y => (y.1 ≤ hs.length ∧ y.2.1.length ≤ y.1 ∧ y.2.2 ≤ y.1) ∧ (∀ q ∈ y.2.1, curB tp hs q) ∧ (remL kg tp y.2.1).Perm (remL kg tp ((hs.take y.1).map fun h => (h, 0))))
    (fun y => SL w0 I (PileM (ckey kg tp) p y.2 :: Bk pb 133 [.pointer (some ⟨p, 0, none⟩)] :: L)) (fun y => hs.length - y.1) (0, [], 0) ⟨rfl, rfl, rfl, rfl, trivial⟩ ⟨⟨Nat.zero_le _, Nat.le_refl _, Nat.le_refl _⟩, by simp, by simp⟩ (fun w h => h.to) ?_
  rintro ⟨i, l, c⟩ ρ ⟨⟨hi, hl, hc⟩, hq, hp⟩
  dsimp only at hi hl hc hq hp ⊢
  have hgl : ∀ q ∈ l, CurAt I q (ckey kg tp q) := fun q h => curAt hG (hq q h)
  by_cases hlt : i < hs.length
  · have hlt' : (i : Int) < hs.length := by omega
    have ei : at_ hs (i : Int) = hs[i] := at_nat hs i hlt
    have hm : at_ hs (i : Int) ∈ hs := by rw [ei]; exact List.getElem_mem _
    have hsl := (hG _ hm).sl
    have et : (hs.take (i + 1)).map (fun h => ((h, 0) : Cu)) = (hs.take i).map (fun h => (h, 0)) ++ [(at_ hs (i : Int), 0)] := by
      rw [List.take_add_one, List.getElem?_eq_getElem hlt, ei, List.map_append]; rfl
    have er : remL kg tp ((hs.take (i + 1)).map fun h => (h, 0)) = remL kg tp ((hs.take i).map fun h => (h, 0)) ++ remC kg tp (at_ hs (i : Int), 0) := by
      rw [et]; simp [remL]
    by_cases h0 : (0 : Int) < (tp (at_ hs (i : Int))).length
    · have hcb : curB tp hs (at_ hs (i : Int), 0) := ⟨hm, Int.le_refl _, h0⟩
      have hca := curAt hG hcb
      repeat' (first | ((first | refine WLA.m rfl rfl ?_ ?_ | refine WLA.st rfl ?_ ?_ | refine WLA.x rfl rfl ?_ (fun x => ?_) | refine WLA.x0 rfl ?_ (fun x => ?_)); first | exact trivial | exact rfl | assumption | omega | (refine ⟨?_, ?_⟩ <;> omega) | (simp only [Room, lenS]; omega) | decide | skip) | (refine Stp.go ?_) | (guard_target =~ WLA _ _ _ _ _ (⟨_, .call ⟨.value (.func 65), _, _⟩, _, _, _, _⟩ :: _) _ _; refine WLA.call rfl rfl (Push_trM (a := (at_ hs (i : Int), 0)) (by omega) (by omega) hgl hca) ?_; rintro ⟨⟩) | (refine WPA.ifT ?_) | (refine WPA.ifF ?_) | ((first | refine WPA.dec ?_); first | refine .inl ⟨by first | assumption | omega | with_reducible rfl | (refine fun h => h ?_; first | assumption | with_reducible rfl) | (simp only [lenS] <;> omega) | decide, ?_⟩ | refine .inr ⟨by first | assumption | omega | with_reducible rfl | (refine fun h => h ?_; first | assumption | with_reducible rfl) | (simp only [lenS] <;> omega) | decide, ?_⟩) | ((first | refine WPA.ifBt ?_ ?_ | refine WPA.ifBnf ?_ ?_); assumption) | ((first | refine WPA.ifBnt ?_ ?_ | refine WPA.ifBf ?_ ?_); assumption) | ((first | refine WPA.ifs ?_ ?_ | refine WPA.ifB ?_ ?_) <;> intro hc))
      refine QQ.loopS (i + 1, (at_ hs (i : Int), 0) :: l, c + 1) ⟨rfl, rfl, rfl, rfl, trivial⟩ ⟨⟨hlt, by simp; omega, by dsimp only; omega⟩, ?_, ?_⟩ (by dsimp only; omega) (fun w h => h.to)
      · intro q hm'
        rcases List.mem_cons.1 hm' with rfl | hm'
        · exact hcb
        · exact hq q hm'
      · dsimp only
        rw [er]
        exact (List.perm_append_comm (l₁ := remC kg tp (at_ hs (i : Int), 0)) (l₂ := remL kg tp l)).trans (hp.append_right _)
    · skip
      repeat' (first | ((first | refine WLA.m rfl rfl ?_ ?_ | refine WLA.st rfl ?_ ?_ | refine WLA.x rfl rfl ?_ (fun x => ?_) | refine WLA.x0 rfl ?_ (fun x => ?_)); first | exact trivial | exact rfl | assumption | omega | (refine ⟨?_, ?_⟩ <;> omega) | (simp only [Room, lenS]; omega) | decide | skip) | (refine Stp.go ?_) | (refine WPA.ifT ?_) | (refine WPA.ifF ?_) | ((first | refine WPA.dec ?_); first | refine .inl ⟨by first | assumption | omega | with_reducible rfl | (refine fun h => h ?_; first | assumption | with_reducible rfl) | (simp only [lenS] <;> omega) | decide, ?_⟩ | refine .inr ⟨by first | assumption | omega | with_reducible rfl | (refine fun h => h ?_; first | assumption | with_reducible rfl) | (simp only [lenS] <;> omega) | decide, ?_⟩) | ((first | refine WPA.ifBt ?_ ?_ | refine WPA.ifBnf ?_ ?_); assumption) | ((first | refine WPA.ifBnt ?_ ?_ | refine WPA.ifBf ?_ ?_); assumption) | ((first | refine WPA.ifs ?_ ?_ | refine WPA.ifB ?_ ?_) <;> intro hc))
      refine QQ.loopS (i + 1, l, c) ⟨rfl, rfl, rfl, rfl, trivial⟩ ⟨⟨hlt, by dsimp only; omega, by dsimp only; omega⟩, hq, ?_⟩ (by dsimp only; omega) (fun w h => h.to)
      dsimp only
      rw [er, remC_end (by dsimp only; omega), List.append_nil]
      exact hp
  · have hie : i = hs.length := by omega
    subst hie
    rw [List.take_length, hall] at hp
    repeat' (first | ((first | refine WLA.m rfl rfl ?_ ?_ | refine WLA.st rfl ?_ ?_ | refine WLA.x rfl rfl ?_ (fun x => ?_) | refine WLA.x0 rfl ?_ (fun x => ?_)); first | exact trivial | exact rfl | assumption | omega | (refine ⟨?_, ?_⟩ <;> omega) | (simp only [Room, lenS]; omega) | decide | skip) | (refine Stp.go ?_) | (guard_target =~ WLA _ _ _ _ _ (⟨_, .call ⟨.value (.func 66), _, _⟩, _, _, _, _⟩ :: _) _ _; refine WLA.call rfl rfl (Drain_tr _ _) ?_; rintro bx) | (refine WPA.ifT ?_) | (refine WPA.ifF ?_) | ((first | refine WPA.dec ?_); first | refine .inl ⟨by first | assumption | omega | with_reducible rfl | (refine fun h => h ?_; first | assumption | with_reducible rfl) | (simp only [lenS] <;> omega) | decide, ?_⟩ | refine .inr ⟨by first | assumption | omega | with_reducible rfl | (refine fun h => h ?_; first | assumption | with_reducible rfl) | (simp only [lenS] <;> omega) | decide, ?_⟩) | ((first | refine WPA.ifBt ?_ ?_ | refine WPA.ifBnf ?_ ?_); assumption) | ((first | refine WPA.ifBnt ?_ ?_ | refine WPA.ifBf ?_ ?_); assumption) | ((first | refine WPA.ifs ?_ ?_ | refine WPA.ifB ?_ ?_) <;> intro hc))
    revert x; intro t6
    refine WPA.rangeS fun D rc hrc => ?_
    let C : ML → Prop := fun x => ((∀ q ∈ x.l, curB tp hs q) ∧ x.l.length ≤ 50000 ∧ x.c + (remL kg tp x.l).length ≤ 50000 ∧ x.ms.length + (remL kg tp x.l).length ≤ 50000) ∧ (x.cs.map Prod.snd = x.ms.map Prod.snd ∧ Ris id x.ms ∧ ∀ m ∈ x.ms, m.1.length ≤ 1000000) ∧ (remL kg tp x.l).foldl putM x.ms = all.foldl putM [] ∧ ∀ m ∈ x.ms, ∀ q ∈ x.l, ¬ ltL (ckey kg tp q) m.1
    let Lk : ML → List HP := fun x => Ob (D + 1) (rc .ready none) :: Ob D (.deferred (some [])) :: Bk t6 27 [.slice x.out.a x.out.n x.out.cap] :: OwnS 84 x.out x.cs :: RowH 3 (x.cs.map Prod.fst) (x.ms.map Prod.fst) :: Bk pb 133 [.pointer (some ⟨p, 0, none⟩)] :: L
    refine ⟨{x : ML // C x ∧ x.l = []}, fun _ => .tuple #[], fun _ => .ready, fun _ => none, fun x => Ob D (.deferred (some [])) :: Bk t6 27 [.slice x.1.out.a x.1.out.n x.1.out.cap] :: OwnS 84 x.1.out x.1.cs :: RowH 3 (x.1.cs.map Prod.fst) (x.1.ms.map Prod.fst) :: L, ?_, ?_⟩
    · refine (Drain1_tr (w0 := w0) (I := I) (ky := ckey kg tp) (p := p) (Bx := bx) (ω := Empty) Lk (fun x => (x.l, x.c)) (fun x => (remL kg tp x.l).length) C (fun z _ => z.elim) ?_ ?_ ⟨l, c, SV.nil, [], []⟩ ?_).conv (fun w h => ?_) ?_
      · rintro x ⟨⟨h1, h2, -⟩, -⟩
        exact ⟨by dsimp only; omega, fun q hq => curAt hG (h1 q hq)⟩
      · rintro ⟨l, c, out, cs, ms⟩ q l' ⟨⟨h1, h2, h3, h4⟩, ⟨h5, h6, h6b⟩, h7, h8⟩ hpq hmin
        dsimp only at h1 h2 h3 h4 h5 h6 h6b h7 h8 hpq hmin
        dsimp only [Lk]
        have hcb : curB tp hs q := h1 q (hpq.subset (List.mem_cons_self ..))
        have hl'b : ∀ y ∈ l', curB tp hs y := fun y hy => h1 y (hpq.subset (List.mem_cons_of_mem _ hy))
        have hll : l'.length + 1 = l.length := by have := hpq.length_eq; simpa using this
        obtain ⟨hq1, hq2, hq3⟩ := hcb
        have hqg := hG _ hq1
        have htl := tp_len (kg := kg) (tp := tp) hq1
        rw [hall] at htl
        have hsl := hqg.sl
        have hxm : at_ (tp q.1) q.2 ∈ tp q.1 := by rw [at_int _ _ hq2 hq3]; exact List.getElem_mem _
        obtain ⟨hxs, hxl⟩ := hqg.el _ hxm
        have hrp : (remL kg tp l).Perm (remC kg tp q ++ remL kg tp l') := (hpq.flatMap_right (remC kg tp)).symm
        have hrc0 : remC kg tp q = (kg (at_ (tp q.1) q.2).1, (at_ (tp q.1) q.2).2) :: remC kg tp (q.1, q.2 + 1) := remC_cons ⟨hq1, hq2, hq3⟩
        rw [hrc0] at hrp
        have hrl := hrp.length_eq
        rw [List.length_append, List.length_cons] at hrl
        rw [foldl_perm hrp h6, List.cons_append, List.foldl_cons] at h7
        have hmq : ∀ m ∈ ms, ¬ ltL (ckey kg tp q) m.1 := fun m hm => h8 m hm q (hpq.subset (List.mem_cons_self ..))
        have hpl := put_last (x := (kg (at_ (tp q.1) q.2).1, (at_ (tp q.1) q.2).2)) h6 hmq
        have hcl : cs.length = ms.length := by have := congrArg List.length h5; simpa using this
        -- the heads that are left
        have hms' : ∀ m ∈ putM ms (kg (at_ (tp q.1) q.2).1, (at_ (tp q.1) q.2).2), (¬ ltL (ckey kg tp q) m.1 ∧ m.1.length ≤ 1000000) ∧ ∀ y ∈ l', ¬ ltL (ckey kg tp y) m.1 := by
          intro m hm
          rcases putL_mem m hm with e | ⟨z, hz, e⟩
          · have e : m.1 = ckey kg tp q := e
            rw [e]; exact ⟨⟨ltL_irr _, hxl⟩, hmin⟩
          · rw [e]; exact ⟨⟨hmq z hz, h6b z hz⟩, fun y hy => h8 z hz y (hpq.subset (List.mem_cons_of_mem _ hy))⟩
        have hris' : Ris id (putM ms (kg (at_ (tp q.1) q.2).1, (at_ (tp q.1) q.2).2)) := putL_ris h6
        have hlen' : (putM ms (kg (at_ (tp q.1) q.2).1, (at_ (tp q.1) q.2).2)).length ≤ ms.length + 1 := putL_len ms
        have hgl' : ∀ y ∈ l', CurAt I y (ckey kg tp y) := fun y hy => curAt hG (hl'b y hy)
        have hnext : q.2 + 1 < (tp q.1).length → CurAt I (q.1, q.2 + 1) (ckey kg tp (q.1, q.2 + 1)) := fun h => curAt hG ⟨hq1, by dsimp only; omega, h⟩
        -- the round's end, whatever the list is then
        have hfin : ∀ (out' : SV) (cs' : List (SV × Int)) (c' : Nat) (l2 : List Cu), cs'.map Prod.snd = (putM ms (kg (at_ (tp q.1) q.2).1, (at_ (tp q.1) q.2).2)).map Prod.snd →
            (q.2 + 1 < (tp q.1).length ∧ l2 = (q.1, q.2 + 1) :: l' ∧ c' = c + 1 ∨ ¬ q.2 + 1 < (tp q.1).length ∧ l2 = l' ∧ c' = c) → C ⟨l2, c', out', cs', putM ms (kg (at_ (tp q.1) q.2).1, (at_ (tp q.1) q.2).2)⟩ ∧ (remL kg tp l2).length < (remL kg tp l).length := by
          rintro out' cs' c' l2 hcs (⟨hn1, rfl, rfl⟩ | ⟨hn1, rfl, rfl⟩)
          · have hr2 : remL kg tp ((q.1, q.2 + 1) :: l') = remC kg tp (q.1, q.2 + 1) ++ remL kg tp l' := rfl
            have hr3 : (remL kg tp ((q.1, q.2 + 1) :: l')).length + 1 = (remL kg tp l).length := by rw [hr2, List.length_append]; omega
            refine ⟨⟨⟨?_, by simp; omega, by dsimp only; omega, by dsimp only; omega⟩, ⟨hcs, hris', fun m hm => (hms' m hm).1.2⟩, h7, ?_⟩, by omega⟩
            · intro y hy
              rcases List.mem_cons.1 hy with rfl | hy
              · exact ⟨hq1, by dsimp only; omega, hn1⟩
              · exact hl'b y hy
            · intro m hm y hy
              obtain ⟨⟨g1, -⟩, g2⟩ := hms' m hm
              rcases List.mem_cons.1 hy with rfl | hy
              · exact leL_tr g1 (ltL_as (key_next hG ⟨hq1, hq2, hq3⟩ hn1))
              · exact g2 y hy
          · have hr0 : remC kg tp (q.1, q.2 + 1) = [] := remC_end hn1
            rw [hr0] at hrl h7
            rw [List.nil_append] at h7
            simp only [List.length_nil] at hrl
            refine ⟨⟨⟨hl'b, by dsimp only; omega, by dsimp only; omega, by dsimp only; omega⟩, ⟨hcs, hris', fun m hm => (hms' m hm).1.2⟩, h7, ?_⟩, by omega⟩
            exact fun m hm y hy => (hms' m hm).2 y hy
        refine (YTr.ofS (val := fun y : ML ⊕ Empty => y.isLeft) hrc (agreeP rfl) rfl ?_)
        repeat' (first | ((first | refine WLA.m rfl rfl ?_ ?_ | refine WLA.st rfl ?_ ?_ | refine WLA.x rfl rfl ?_ (fun x => ?_) | refine WLA.x0 rfl ?_ (fun x => ?_)); first | exact trivial | exact rfl | assumption | omega | (refine ⟨?_, ?_⟩ <;> omega) | (simp only [Room, lenS]; omega) | decide | skip) | (refine Stp.go ?_) | (refine WPA.ifT ?_) | (refine WPA.ifF ?_) | ((first | refine WPA.dec ?_); first | refine .inl ⟨by first | assumption | omega | with_reducible rfl | (refine fun h => h ?_; first | assumption | with_reducible rfl) | (simp only [lenS] <;> omega) | decide, ?_⟩ | refine .inr ⟨by first | assumption | omega | with_reducible rfl | (refine fun h => h ?_; first | assumption | with_reducible rfl) | (simp only [lenS] <;> omega) | decide, ?_⟩) | ((first | refine WPA.ifBt ?_ ?_ | refine WPA.ifBnf ?_ ?_); assumption) | ((first | refine WPA.ifBnt ?_ ?_ | refine WPA.ifBf ?_ ?_); assumption) | ((first | refine WPA.ifs ?_ ?_ | refine WPA.ifB ?_ ?_) <;> intro hc))
        refine QQ.midS ?_
        have hfin' := hfin
        generalize hX : at_ (tp q.1) q.2 = x at hxs hxl hpl hfin
        obtain ⟨xg, xn⟩ := x
        dsimp only at hxs hxl hpl hfin
        have hxl' : (kg xg).length ≤ 1000000000 := by omega
        have haux : ∀ (g' : SV), cs.map Prod.snd ++ [xn] = (cs ++ [(g', xn)]).map Prod.snd := by simp
        by_cases hz : cs.length = 0
        · have hz0 : ¬ (0 : Int) < cs.length := by omega
          have hms0 : ms = [] := List.eq_nil_of_length_eq_zero (by omega)
          rw [dif_neg (fun h => h.1 hms0)] at hpl
          rw [hpl] at hfin
          by_cases hnx : q.2 + 1 < (tp q.1).length
          all_goals skip
          repeat' (first | ((first | refine WLA.m rfl rfl ?_ ?_ | refine WDQ.m rfl rfl ?_ ?_ | refine WLA.st rfl ?_ ?_ | refine WLA.x rfl rfl ?_ (fun x => ?_) | refine WLA.x0 rfl ?_ (fun x => ?_)); first | exact trivial | exact rfl | assumption | omega | (refine ⟨?_, ?_⟩ <;> omega) | (simp only [Room, lenS]; omega) | decide | skip) | (refine Stp.go ?_) | (guard_target =~ WLA _ _ _ _ _ (⟨_, .call ⟨.value (.func 67), _, _⟩, _, _, _, _⟩ :: _) _ _; refine WLA.call rfl rfl (head_tr ⟨hq2, hq3⟩) ?_; rintro ⟨⟩; rw [hX]; dsimp only) | (guard_target =~ WLA _ _ _ _ _ (⟨_, .call ⟨.value (.func 68), _, _⟩, _, _, _, _⟩ :: _) _ _; refine WLA.cq rfl rfl (Equal_tr (by assumption)) ?_) | (guard_target =~ WLA _ _ _ _ _ (⟨_, .call ⟨.value (.func 46), _, _⟩, _, _, _, _⟩ :: _) _ _; refine WLA.call rfl rfl (Clone_tr (by assumption)) ?_; rintro g') | (guard_target =~ WLA _ _ _ _ _ (⟨_, .call ⟨.value (.func 65), _, _⟩, _, _, _, _⟩ :: _) _ _; refine WLA.call rfl rfl (Push_trM (a := (q.1, q.2 + 1)) (by omega) (by omega) hgl' (hnext hnx)) ?_; rintro ⟨⟩) | (refine WPA.ifT ?_) | (refine WPA.ifF ?_) | (refine WLA.no rfl rfl ?_) | (refine WDQ.no rfl rfl ?_) | ((first | refine WPA.dec ?_ | ((fail_if_success (guard_target =~ WLA _ _ _ _ _ _ (put1 _ _ (.bool true)) _)); (fail_if_success (guard_target =~ WLA _ _ _ _ _ _ (put1 _ _ (.bool false)) _)); refine WLA.dec rfl rfl ?_) | refine WLA.pk ?_ | refine WDQ.dec rfl rfl ?_); first | refine .inl ⟨by first | assumption | omega | with_reducible rfl | (refine fun h => h ?_; first | assumption | with_reducible rfl) | (simp only [lenS] <;> omega) | decide, ?_⟩ | refine .inr ⟨by first | assumption | omega | with_reducible rfl | (refine fun h => h ?_; first | assumption | with_reducible rfl) | (simp only [lenS] <;> omega) | decide, ?_⟩) | ((first | refine WPA.ifBt ?_ ?_ | refine WPA.ifBnf ?_ ?_); assumption) | ((first | refine WPA.ifBnt ?_ ?_ | refine WPA.ifBf ?_ ?_); assumption) | ((first | refine WPA.ifs ?_ ?_ | refine WPA.ifB ?_ ?_) <;> intro hc) | ((fail_if_success (guard_target =~ WLA _ _ _ _ _ _ (put1 _ _ (.bool true)) _)); (fail_if_success (guard_target =~ WLA _ _ _ _ _ _ (put1 _ _ (.bool false)) _)); (first | refine WLA.both rfl rfl ?_ ?_ | refine WLA.bothB rfl rfl ?_ ?_) <;> intro hg) | (guard_target =~ WPA _ _ _ (.region 13 _ true) _ _ _; refine WPA.drawT 11 (.q 0 (.q 1 (.q 2 (.q 3 (.q 4 (.q 5 (.q 6 (.q 7 (.q 8 (.q 9 (.q 10 .fin))))))))))) mixed ?_ ?_; kernel_rfl) | (guard_target =~ WPA _ _ _ (.region 14 _ true) _ _ _; refine WPA.drawT 8 (.q 0 (.q 1 (.q 2 (.q 3 (.q 4 (.q 5 (.q 6 (.q 7 .fin)))))))) mixed ?_ ?_; kernel_rfl) | (guard_target =~ WPA _ _ _ (.region 15 _ true) _ _ _; refine WPA.drawT 8 (.q 0 (.q 1 (.q 2 (.q 4 (.q 5 (.e 3 (.q 6 (.e 7 .fin)))))))) mixed ?_ ?_; kernel_rfl) | (refine WDA.finish (tl := [⟨_, _, _, _, _, _⟩, ⟨_, _, _, _, _, _⟩]) rfl ?_) | (refine WDA.finish (tl := [⟨_, _, _, _, _, _⟩, ⟨_, _, _, _, _, _⟩, ⟨_, _, _, _, _, _⟩, ⟨_, _, _, _, _, _⟩]) rfl ?_) | (refine WDQ.see rfl ?_) | (refine WDE.see rfl ?_) | (refine WDE.alloc rfl rfl (fun w h => h) (fun x => ?_)) | (refine WDE.stE rfl ?_) | (refine WDE.x rfl rfl ?_ ?_ (fun x => ?_); rotate_left 1; (intro x w h; first | exact h | exact Ent.drop1.sl h | exact SL.unI h | exact SL.to h); rotate_left 1; first | exact trivial | exact rfl | assumption | omega | (refine ⟨?_, ?_⟩ <;> omega) | (simp only [Room, lenS]; omega) | decide | skip) | (guard_target =~ WDE _ _ _ _ _ _ _ ⟨_, .call ⟨.value (.func 67), _, _⟩, _, _, _, _⟩ _ _ _; refine WDE.call rfl rfl (head_tr ⟨hq2, hq3⟩) ?_ ?_; (intro x w h; first | exact h | exact Ent.drop1.sl h | exact SL.unI h | exact SL.to h); rintro ⟨⟩; rw [hX]; dsimp only) | (guard_target =~ WDW _ _ _ _ _ _ _ ⟨_, .call ⟨.value (.func 67), _, _⟩, _, _, _, _⟩ _ _ _; refine WDW.call rfl rfl (head_tr ⟨hq2, hq3⟩) ?_; rintro ⟨⟩; rw [hX]; dsimp only) | (guard_target =~ WDQ _ _ _ _ _ _ _ ⟨_, .call ⟨.value (.func 68), _, _⟩, _, _, _, _⟩ _ _ _; refine WDQ.cq rfl rfl (Equal_tr (by assumption)) ?_) | (guard_target =~ WDE _ _ _ _ _ _ _ ⟨_, .call ⟨.value (.func 46), _, _⟩, _, _, _, _⟩ _ _ _; refine WDE.call rfl rfl (Clone_tr (by assumption)) ?_ ?_; (intro x w h; first | exact h | exact Ent.drop1.sl h | exact SL.unI h | exact SL.to h); rintro g') | (guard_target =~ WDW _ _ _ _ _ _ _ ⟨_, .call ⟨.value (.func 46), _, _⟩, _, _, _, _⟩ _ _ _; refine WDW.call rfl rfl (Clone_tr (by assumption)) ?_; rintro g') | (guard_target =~ WDE _ _ _ _ _ _ _ ⟨_, .call ⟨.value (.func 65), _, _⟩, _, _, _, _⟩ _ _ _; refine WDE.call rfl rfl (Push_trM (a := (q.1, q.2 + 1)) (by omega) (by omega) hgl' (hnext hnx)) ?_ ?_; (intro x w h; first | exact h | exact Ent.drop1.sl h | exact SL.unI h | exact SL.to h); rintro ⟨⟩) | (guard_target =~ WDW _ _ _ _ _ _ _ ⟨_, .call ⟨.value (.func 65), _, _⟩, _, _, _, _⟩ _ _ _; refine WDW.call rfl rfl (Push_trM (a := (q.1, q.2 + 1)) (by omega) (by omega) hgl' (hnext hnx)) ?_; rintro ⟨⟩) | ((first | refine WDQ.both rfl rfl ?_ ?_) <;> intro hg))
          all_goals have hsn : (cs.map Prod.fst).length = (ms.map Prod.fst).length := by rw [List.length_map, List.length_map, hcl]
          all_goals have hcs2 : (cs ++ [(g', xn)]).map Prod.snd = (ms ++ [(kg xg, xn)]).map Prod.snd := by rw [List.map_append, List.map_append, h5]; rfl
          · refine QQ.rndN (fun w h => ⟨.inl ⟨(q.1, q.2 + 1) :: l', c + 1, x, cs ++ [(g', xn)], ms ++ [(kg xg, xn)]⟩, rfl, hfin x _ _ _ hcs2 (.inl ⟨hnx, rfl, rfl⟩), ?_⟩)
            have h2 := (RowH.snoc hsn).sl ((EntC.out (L' := OwnS 3 g' (kg xg) :: RowH 3 (cs.map Prod.fst) (ms.map Prod.fst) :: PileM (ckey kg tp) p ((q.1, q.2 + 1) :: l', c + 1) :: Bk bx 133 [.pointer (some ⟨p, 0, none⟩)] :: Ob (D + 1) (rc .ready none) :: Ob D (.deferred (some [])) :: Bk t6 27 [.slice x.a x.n x.cap] :: OwnS 84 x (cs ++ [(g', xn)]) :: Bk pb 133 [.pointer (some ⟨p, 0, none⟩)] :: L)).sl h)
            dsimp only [Lk]
            simp only [List.map_append, List.map_cons, List.map_nil]
            exact h2.to
          · refine QQ.rndN (fun w h => ⟨.inl ⟨l', c, x, cs ++ [(g', xn)], ms ++ [(kg xg, xn)]⟩, rfl, hfin x _ _ _ hcs2 (.inr ⟨hnx, rfl, rfl⟩), ?_⟩)
            have h2 := (RowH.snoc hsn).sl ((EntC.out (L' := OwnS 3 g' (kg xg) :: RowH 3 (cs.map Prod.fst) (ms.map Prod.fst) :: PileM (ckey kg tp) p (l', c) :: Bk bx 133 [.pointer (some ⟨p, 0, none⟩)] :: Ob (D + 1) (rc .ready none) :: Ob D (.deferred (some [])) :: Bk t6 27 [.slice x.a x.n x.cap] :: OwnS 84 x (cs ++ [(g', xn)]) :: Bk pb 133 [.pointer (some ⟨p, 0, none⟩)] :: L)).sl h)
            dsimp only [Lk]
            simp only [List.map_append, List.map_cons, List.map_nil]
            exact h2.to
        · have hz0 : (0 : Int) < cs.length := by omega
          have hmi : ms.length - 1 < ms.length := by omega
          have hlast : ms.getD (ms.length - 1) ([], 0) = ms[ms.length - 1] := by simp [List.getD_eq_getElem?_getD, hmi]
          have hci : (cs.length : Int) - 1 = ((ms.length - 1 : Nat) : Int) := by omega
          have hcat : at_ cs ((cs.length : Int) - 1) = cs[ms.length - 1] := by rw [hci]; exact at_nat _ _ (by omega)
          rw [hlast] at hpl
          have hlb := h6b _ (List.getElem_mem hmi)
          have hsnd : (at_ cs ((cs.length : Int) - 1)).2 = ms[ms.length - 1].2 := by
            rw [hcat]
            have := congrArg (fun l => l[ms.length - 1]?) h5
            simp only [List.getElem?_map, List.getElem?_eq_getElem hmi, List.getElem?_eq_getElem (show ms.length - 1 < cs.length by omega), Option.map_some] at this
            injection this
          have hmne : ms ≠ [] := fun e => by rw [e] at hmi; simp at hmi
          haveI hrow : IsRow (cs.map Prod.fst) (ms.map Prod.fst) (at_ cs ((cs.length : Int) - 1)).1 ms[ms.length - 1].1 := ⟨⟨ms.length - 1, by rw [List.length_map]; omega, by rw [List.length_map]; omega, by
            rw [hcat, List.getD_eq_getElem?_getD, List.getElem?_map, List.getElem?_eq_getElem (by omega)]; rfl, by
            rw [List.getD_eq_getElem?_getD, List.getElem?_map, List.getElem?_eq_getElem hmi]; rfl⟩⟩
          have hlb' : ms[ms.length - 1].1.length ≤ 1000000000 := by omega
          by_cases heq : ms[ms.length - 1].1 = kg xg
          · rw [dif_pos ⟨hmne, heq⟩] at hpl
            rw [hpl] at hfin
            have hnat : ((cs.length : Int) - 1).toNat = ms.length - 1 := by omega
            have hf1 : (cs.set ((cs.length : Int) - 1).toNat ((at_ cs ((cs.length : Int) - 1)).1, IntKind.i64.wrap ((at_ cs ((cs.length : Int) - 1)).2 + xn))).map Prod.fst = cs.map Prod.fst := map_set_fst fun y hy => by
              rw [hnat, List.getElem?_eq_getElem (by omega)] at hy; injection hy with hy; show y.1 = (at_ cs ((cs.length : Int) - 1)).1; rw [hcat, ← hy]
            have hf2 : (ms.set (ms.length - 1) (kg xg, addN ms[ms.length - 1].2 xn)).map Prod.fst = ms.map Prod.fst := map_set_fst fun y hy => by
              rw [List.getElem?_eq_getElem hmi] at hy; injection hy with hy; show y.1 = kg xg; rw [← heq, ← hy]
            have hcs2 : (cs.set ((cs.length : Int) - 1).toNat ((at_ cs ((cs.length : Int) - 1)).1, IntKind.i64.wrap ((at_ cs ((cs.length : Int) - 1)).2 + xn))).map Prod.snd = (ms.set (ms.length - 1) (kg xg, addN ms[ms.length - 1].2 xn)).map Prod.snd := by
              rw [hnat]; exact map_set_snd h5 (by rw [hsnd])
            by_cases hnx : q.2 + 1 < (tp q.1).length
            all_goals skip
            repeat' (first | ((first | refine WLA.m rfl rfl ?_ ?_ | refine WDQ.m rfl rfl ?_ ?_ | refine WLA.st rfl ?_ ?_ | refine WLA.x rfl rfl ?_ (fun x => ?_) | refine WLA.x0 rfl ?_ (fun x => ?_)); first | exact trivial | exact rfl | assumption | omega | (refine ⟨?_, ?_⟩ <;> omega) | (simp only [Room, lenS]; omega) | decide | skip) | (refine Stp.go ?_) | (guard_target =~ WLA _ _ _ _ _ (⟨_, .call ⟨.value (.func 67), _, _⟩, _, _, _, _⟩ :: _) _ _; refine WLA.call rfl rfl (head_tr ⟨hq2, hq3⟩) ?_; rintro ⟨⟩; rw [hX]; dsimp only) | (guard_target =~ WLA _ _ _ _ _ (⟨_, .call ⟨.value (.func 68), _, _⟩, _, _, _, _⟩ :: _) _ _; refine WLA.cq rfl rfl (Equal_tr (by assumption)) ?_) | (guard_target =~ WLA _ _ _ _ _ (⟨_, .call ⟨.value (.func 46), _, _⟩, _, _, _, _⟩ :: _) _ _; refine WLA.call rfl rfl (Clone_tr (by assumption)) ?_; rintro g') | (guard_target =~ WLA _ _ _ _ _ (⟨_, .call ⟨.value (.func 65), _, _⟩, _, _, _, _⟩ :: _) _ _; refine WLA.call rfl rfl (Push_trM (a := (q.1, q.2 + 1)) (by omega) (by omega) hgl' (hnext hnx)) ?_; rintro ⟨⟩) | (refine WPA.ifT ?_) | (refine WPA.ifF ?_) | (refine WLA.no rfl rfl ?_) | (refine WDQ.no rfl rfl ?_) | ((first | refine WPA.dec ?_ | ((fail_if_success (guard_target =~ WLA _ _ _ _ _ _ (put1 _ _ (.bool true)) _)); (fail_if_success (guard_target =~ WLA _ _ _ _ _ _ (put1 _ _ (.bool false)) _)); refine WLA.dec rfl rfl ?_) | refine WLA.pk ?_ | refine WDQ.dec rfl rfl ?_); first | refine .inl ⟨by first | assumption | omega | with_reducible rfl | (refine fun h => h ?_; first | assumption | with_reducible rfl) | (simp only [lenS] <;> omega) | decide, ?_⟩ | refine .inr ⟨by first | assumption | omega | with_reducible rfl | (refine fun h => h ?_; first | assumption | with_reducible rfl) | (simp only [lenS] <;> omega) | decide, ?_⟩) | ((first | refine WPA.ifBt ?_ ?_ | refine WPA.ifBnf ?_ ?_); assumption) | ((first | refine WPA.ifBnt ?_ ?_ | refine WPA.ifBf ?_ ?_); assumption) | ((first | refine WPA.ifs ?_ ?_ | refine WPA.ifB ?_ ?_) <;> intro hc) | ((fail_if_success (guard_target =~ WLA _ _ _ _ _ _ (put1 _ _ (.bool true)) _)); (fail_if_success (guard_target =~ WLA _ _ _ _ _ _ (put1 _ _ (.bool false)) _)); (first | refine WLA.both rfl rfl ?_ ?_ | refine WLA.bothB rfl rfl ?_ ?_) <;> intro hg) | (guard_target =~ WPA _ _ _ (.region 13 _ true) _ _ _; refine WPA.drawT 11 (.q 0 (.q 1 (.q 2 (.q 3 (.q 4 (.q 5 (.q 6 (.q 7 (.q 8 (.q 9 (.q 10 .fin))))))))))) mixed ?_ ?_; kernel_rfl) | (refine WDA.finish (tl := [⟨_, _, _, _, _, _⟩, ⟨_, _, _, _, _, _⟩]) rfl ?_) | (refine WDQ.see rfl ?_) | (guard_target =~ WDE _ _ _ _ _ _ _ ⟨_, .call ⟨.value (.func 67), _, _⟩, _, _, _, _⟩ _ _ _; refine WDE.call rfl rfl (head_tr ⟨hq2, hq3⟩) ?_ ?_; (intro x w h; first | exact h | exact Ent.drop1.sl h | exact SL.unI h | exact SL.to h); rintro ⟨⟩; rw [hX]; dsimp only) | (guard_target =~ WDW _ _ _ _ _ _ _ ⟨_, .call ⟨.value (.func 67), _, _⟩, _, _, _, _⟩ _ _ _; refine WDW.call rfl rfl (head_tr ⟨hq2, hq3⟩) ?_; rintro ⟨⟩; rw [hX]; dsimp only) | (guard_target =~ WDQ _ _ _ _ _ _ _ ⟨_, .call ⟨.value (.func 68), _, _⟩, _, _, _, _⟩ _ _ _; refine WDQ.cq rfl rfl (Equal_tr (by assumption)) ?_) | (guard_target =~ WDE _ _ _ _ _ _ _ ⟨_, .call ⟨.value (.func 46), _, _⟩, _, _, _, _⟩ _ _ _; refine WDE.call rfl rfl (Clone_tr (by assumption)) ?_ ?_; (intro x w h; first | exact h | exact Ent.drop1.sl h | exact SL.unI h | exact SL.to h); rintro g') | (guard_target =~ WDW _ _ _ _ _ _ _ ⟨_, .call ⟨.value (.func 46), _, _⟩, _, _, _, _⟩ _ _ _; refine WDW.call rfl rfl (Clone_tr (by assumption)) ?_; rintro g') | (guard_target =~ WDE _ _ _ _ _ _ _ ⟨_, .call ⟨.value (.func 65), _, _⟩, _, _, _, _⟩ _ _ _; refine WDE.call rfl rfl (Push_trM (a := (q.1, q.2 + 1)) (by omega) (by omega) hgl' (hnext hnx)) ?_ ?_; (intro x w h; first | exact h | exact Ent.drop1.sl h | exact SL.unI h | exact SL.to h); rintro ⟨⟩) | (guard_target =~ WDW _ _ _ _ _ _ _ ⟨_, .call ⟨.value (.func 65), _, _⟩, _, _, _, _⟩ _ _ _; refine WDW.call rfl rfl (Push_trM (a := (q.1, q.2 + 1)) (by omega) (by omega) hgl' (hnext hnx)) ?_; rintro ⟨⟩) | ((first | refine WDQ.both rfl rfl ?_ ?_) <;> intro hg))
            all_goals skip
            repeat' ((fail_if_success (guard_target =~ WPA _ _ _ (.region 16 _ _) _ _ _)); first | (guard_target =~ WLA _ _ _ _ _ (⟨_, .binOp .add _ _ _ _, _, _, _, _⟩ :: _) _ _; refine WLA.m (h := addW) rfl rfl trivial ?_) | (guard_target =~ WDQ _ _ _ _ _ _ _ ⟨_, .binOp .add _ _ _ _, _, _, _, _⟩ _ _ _; refine WDQ.m (h := addW) rfl rfl trivial ?_) | (guard_target =~ WDP _ _ _ _ _ _ _ ⟨_, .binOp .add _ _ _ _, _, _, _, _⟩ _ _ _; refine WDP.m (h := addW) rfl rfl trivial ?_) | ((first | refine WLA.m rfl rfl ?_ ?_ | refine WDQ.m rfl rfl ?_ ?_ | refine WLA.st rfl ?_ ?_ | refine WLA.x rfl rfl ?_ (fun x => ?_) | refine WLA.x0 rfl ?_ (fun x => ?_)); first | exact trivial | exact rfl | assumption | omega | (refine ⟨?_, ?_⟩ <;> omega) | (simp only [Room, lenS]; omega) | decide | skip) | (refine Stp.go ?_) | (refine WPA.ifT ?_) | (refine WPA.ifF ?_) | ((first | refine WPA.dec ?_); first | refine .inl ⟨by first | assumption | omega | with_reducible rfl | (refine fun h => h ?_; first | assumption | with_reducible rfl) | (simp only [lenS] <;> omega) | decide, ?_⟩ | refine .inr ⟨by first | assumption | omega | with_reducible rfl | (refine fun h => h ?_; first | assumption | with_reducible rfl) | (simp only [lenS] <;> omega) | decide, ?_⟩) | ((first | refine WPA.ifBt ?_ ?_ | refine WPA.ifBnf ?_ ?_); assumption) | ((first | refine WPA.ifBnt ?_ ?_ | refine WPA.ifBf ?_ ?_); assumption) | ((first | refine WPA.ifs ?_ ?_ | refine WPA.ifB ?_ ?_) <;> intro hc) | (guard_target =~ WPA _ _ _ (.region 14 _ true) _ _ _; refine WPA.drawT 8 (.q 0 (.q 1 (.q 2 (.q 3 (.q 4 (.q 5 (.q 6 (.q 7 .fin)))))))) mixed ?_ ?_; kernel_rfl) | (refine WDA.finish (tl := [⟨_, _, _, _, _, _⟩, ⟨_, _, _, _, _, _⟩, ⟨_, _, _, _, _, _⟩, ⟨_, _, _, _, _, _⟩]) rfl ?_) | (refine WDQ.see rfl ?_))
            all_goals skip
            repeat' (first | ((first | refine WLA.m rfl rfl ?_ ?_ | refine WLA.st rfl ?_ ?_ | refine WLA.x rfl rfl ?_ (fun x => ?_) | refine WLA.x0 rfl ?_ (fun x => ?_)); first | exact trivial | exact rfl | assumption | omega | (refine ⟨?_, ?_⟩ <;> omega) | (simp only [Room, lenS]; omega) | decide | skip) | (refine Stp.go ?_) | (guard_target =~ WLA _ _ _ _ _ (⟨_, .call ⟨.value (.func 65), _, _⟩, _, _, _, _⟩ :: _) _ _; refine WLA.call rfl rfl (Push_trM (a := (q.1, q.2 + 1)) (by omega) (by omega) hgl' (hnext hnx)) ?_; rintro ⟨⟩) | (refine WPA.ifT ?_) | (refine WPA.ifF ?_) | ((first | refine WPA.dec ?_); first | refine .inl ⟨by first | assumption | omega | with_reducible rfl | (refine fun h => h ?_; first | assumption | with_reducible rfl) | (simp only [lenS] <;> omega) | decide, ?_⟩ | refine .inr ⟨by first | assumption | omega | with_reducible rfl | (refine fun h => h ?_; first | assumption | with_reducible rfl) | (simp only [lenS] <;> omega) | decide, ?_⟩) | ((first | refine WPA.ifBt ?_ ?_ | refine WPA.ifBnf ?_ ?_); assumption) | ((first | refine WPA.ifBnt ?_ ?_ | refine WPA.ifBf ?_ ?_); assumption) | ((first | refine WPA.ifs ?_ ?_ | refine WPA.ifB ?_ ?_) <;> intro hc))
            · refine QQ.rndN (fun w h => ⟨.inl ⟨(q.1, q.2 + 1) :: l', c + 1, out, _, _⟩, rfl, hfin out _ _ _ hcs2 (.inl ⟨hnx, rfl, rfl⟩), ?_⟩)
              dsimp only [Lk]
              rw [hf1, hf2]
              exact h.to
            · refine QQ.rndN (fun w h => ⟨.inl ⟨l', c, out, _, _⟩, rfl, hfin out _ _ _ hcs2 (.inr ⟨hnx, rfl, rfl⟩), ?_⟩)
              dsimp only [Lk]
              rw [hf1, hf2]
              exact h.to
          · rw [dif_neg (fun h => heq h.2)] at hpl
            rw [hpl] at hfin
            by_cases hnx : q.2 + 1 < (tp q.1).length
            all_goals skip
            repeat' (first | ((first | refine WLA.m rfl rfl ?_ ?_ | refine WDQ.m rfl rfl ?_ ?_ | refine WLA.st rfl ?_ ?_ | refine WLA.x rfl rfl ?_ (fun x => ?_) | refine WLA.x0 rfl ?_ (fun x => ?_)); first | exact trivial | exact rfl | assumption | omega | (refine ⟨?_, ?_⟩ <;> omega) | (simp only [Room, lenS]; omega) | decide | skip) | (refine Stp.go ?_) | (guard_target =~ WLA _ _ _ _ _ (⟨_, .call ⟨.value (.func 67), _, _⟩, _, _, _, _⟩ :: _) _ _; refine WLA.call rfl rfl (head_tr ⟨hq2, hq3⟩) ?_; rintro ⟨⟩; rw [hX]; dsimp only) | (guard_target =~ WLA _ _ _ _ _ (⟨_, .call ⟨.value (.func 68), _, _⟩, _, _, _, _⟩ :: _) _ _; refine WLA.cq rfl rfl (Equal_tr (by assumption)) ?_) | (guard_target =~ WLA _ _ _ _ _ (⟨_, .call ⟨.value (.func 46), _, _⟩, _, _, _, _⟩ :: _) _ _; refine WLA.call rfl rfl (Clone_tr (by assumption)) ?_; rintro g') | (guard_target =~ WLA _ _ _ _ _ (⟨_, .call ⟨.value (.func 65), _, _⟩, _, _, _, _⟩ :: _) _ _; refine WLA.call rfl rfl (Push_trM (a := (q.1, q.2 + 1)) (by omega) (by omega) hgl' (hnext hnx)) ?_; rintro ⟨⟩) | (refine WPA.ifT ?_) | (refine WPA.ifF ?_) | (refine WLA.no rfl rfl ?_) | (refine WDQ.no rfl rfl ?_) | ((first | refine WPA.dec ?_ | ((fail_if_success (guard_target =~ WLA _ _ _ _ _ _ (put1 _ _ (.bool true)) _)); (fail_if_success (guard_target =~ WLA _ _ _ _ _ _ (put1 _ _ (.bool false)) _)); refine WLA.dec rfl rfl ?_) | refine WLA.pk ?_ | refine WDQ.dec rfl rfl ?_); first | refine .inl ⟨by first | assumption | omega | with_reducible rfl | (refine fun h => h ?_; first | assumption | with_reducible rfl) | (simp only [lenS] <;> omega) | decide, ?_⟩ | refine .inr ⟨by first | assumption | omega | with_reducible rfl | (refine fun h => h ?_; first | assumption | with_reducible rfl) | (simp only [lenS] <;> omega) | decide, ?_⟩) | ((first | refine WPA.ifBt ?_ ?_ | refine WPA.ifBnf ?_ ?_); assumption) | ((first | refine WPA.ifBnt ?_ ?_ | refine WPA.ifBf ?_ ?_); assumption) | ((first | refine WPA.ifs ?_ ?_ | refine WPA.ifB ?_ ?_) <;> intro hc) | ((fail_if_success (guard_target =~ WLA _ _ _ _ _ _ (put1 _ _ (.bool true)) _)); (fail_if_success (guard_target =~ WLA _ _ _ _ _ _ (put1 _ _ (.bool false)) _)); (first | refine WLA.both rfl rfl ?_ ?_ | refine WLA.bothB rfl rfl ?_ ?_) <;> intro hg) | (guard_target =~ WPA _ _ _ (.region 13 _ true) _ _ _; refine WPA.drawT 11 (.q 0 (.q 1 (.q 2 (.q 3 (.q 4 (.q 5 (.q 6 (.q 7 (.q 8 (.q 9 (.q 10 .fin))))))))))) mixed ?_ ?_; kernel_rfl) | (guard_target =~ WPA _ _ _ (.region 14 _ true) _ _ _; refine WPA.drawT 8 (.q 0 (.q 1 (.q 2 (.q 3 (.q 4 (.q 5 (.q 6 (.q 7 .fin)))))))) mixed ?_ ?_; kernel_rfl) | (guard_target =~ WPA _ _ _ (.region 15 _ true) _ _ _; refine WPA.drawT 8 (.q 0 (.q 1 (.q 2 (.q 4 (.q 5 (.e 3 (.q 6 (.e 7 .fin)))))))) mixed ?_ ?_; kernel_rfl) | (refine WDA.finish (tl := [⟨_, _, _, _, _, _⟩, ⟨_, _, _, _, _, _⟩]) rfl ?_) | (refine WDA.finish (tl := [⟨_, _, _, _, _, _⟩, ⟨_, _, _, _, _, _⟩, ⟨_, _, _, _, _, _⟩, ⟨_, _, _, _, _, _⟩]) rfl ?_) | (refine WDQ.see rfl ?_) | (refine WDE.see rfl ?_) | (refine WDE.alloc rfl rfl (fun w h => h) (fun x => ?_)) | (refine WDE.stE rfl ?_) | (refine WDE.x rfl rfl ?_ ?_ (fun x => ?_); rotate_left 1; (intro x w h; first | exact h | exact Ent.drop1.sl h | exact SL.unI h | exact SL.to h); rotate_left 1; first | exact trivial | exact rfl | assumption | omega | (refine ⟨?_, ?_⟩ <;> omega) | (simp only [Room, lenS]; omega) | decide | skip) | (guard_target =~ WDE _ _ _ _ _ _ _ ⟨_, .call ⟨.value (.func 67), _, _⟩, _, _, _, _⟩ _ _ _; refine WDE.call rfl rfl (head_tr ⟨hq2, hq3⟩) ?_ ?_; (intro x w h; first | exact h | exact Ent.drop1.sl h | exact SL.unI h | exact SL.to h); rintro ⟨⟩; rw [hX]; dsimp only) | (guard_target =~ WDW _ _ _ _ _ _ _ ⟨_, .call ⟨.value (.func 67), _, _⟩, _, _, _, _⟩ _ _ _; refine WDW.call rfl rfl (head_tr ⟨hq2, hq3⟩) ?_; rintro ⟨⟩; rw [hX]; dsimp only) | (guard_target =~ WDQ _ _ _ _ _ _ _ ⟨_, .call ⟨.value (.func 68), _, _⟩, _, _, _, _⟩ _ _ _; refine WDQ.cq rfl rfl (Equal_tr (by assumption)) ?_) | (guard_target =~ WDE _ _ _ _ _ _ _ ⟨_, .call ⟨.value (.func 46), _, _⟩, _, _, _, _⟩ _ _ _; refine WDE.call rfl rfl (Clone_tr (by assumption)) ?_ ?_; (intro x w h; first | exact h | exact Ent.drop1.sl h | exact SL.unI h | exact SL.to h); rintro g') | (guard_target =~ WDW _ _ _ _ _ _ _ ⟨_, .call ⟨.value (.func 46), _, _⟩, _, _, _, _⟩ _ _ _; refine WDW.call rfl rfl (Clone_tr (by assumption)) ?_; rintro g') | (guard_target =~ WDE _ _ _ _ _ _ _ ⟨_, .call ⟨.value (.func 65), _, _⟩, _, _, _, _⟩ _ _ _; refine WDE.call rfl rfl (Push_trM (a := (q.1, q.2 + 1)) (by omega) (by omega) hgl' (hnext hnx)) ?_ ?_; (intro x w h; first | exact h | exact Ent.drop1.sl h | exact SL.unI h | exact SL.to h); rintro ⟨⟩) | (guard_target =~ WDW _ _ _ _ _ _ _ ⟨_, .call ⟨.value (.func 65), _, _⟩, _, _, _, _⟩ _ _ _; refine WDW.call rfl rfl (Push_trM (a := (q.1, q.2 + 1)) (by omega) (by omega) hgl' (hnext hnx)) ?_; rintro ⟨⟩) | ((first | refine WDQ.both rfl rfl ?_ ?_) <;> intro hg))
            all_goals have hsn : (cs.map Prod.fst).length = (ms.map Prod.fst).length := by rw [List.length_map, List.length_map, hcl]
            all_goals have hcs2 : (cs ++ [(g', xn)]).map Prod.snd = (ms ++ [(kg xg, xn)]).map Prod.snd := by rw [List.map_append, List.map_append, h5]; rfl
            · refine QQ.rndN (fun w h => ⟨.inl ⟨(q.1, q.2 + 1) :: l', c + 1, x, cs ++ [(g', xn)], ms ++ [(kg xg, xn)]⟩, rfl, hfin x _ _ _ hcs2 (.inl ⟨hnx, rfl, rfl⟩), ?_⟩)
              have h2 := (RowH.snoc hsn).sl ((EntC.out (L' := OwnS 3 g' (kg xg) :: RowH 3 (cs.map Prod.fst) (ms.map Prod.fst) :: PileM (ckey kg tp) p ((q.1, q.2 + 1) :: l', c + 1) :: Bk bx 133 [.pointer (some ⟨p, 0, none⟩)] :: Ob (D + 1) (rc .ready none) :: Ob D (.deferred (some [])) :: Bk t6 27 [.slice x.a x.n x.cap] :: OwnS 84 x (cs ++ [(g', xn)]) :: Bk pb 133 [.pointer (some ⟨p, 0, none⟩)] :: L)).sl h)
              dsimp only [Lk]
              simp only [List.map_append, List.map_cons, List.map_nil]
              exact h2.to
            · refine QQ.rndN (fun w h => ⟨.inl ⟨l', c, x, cs ++ [(g', xn)], ms ++ [(kg xg, xn)]⟩, rfl, hfin x _ _ _ hcs2 (.inr ⟨hnx, rfl, rfl⟩), ?_⟩)
              have h2 := (RowH.snoc hsn).sl ((EntC.out (L' := OwnS 3 g' (kg xg) :: RowH 3 (cs.map Prod.fst) (ms.map Prod.fst) :: PileM (ckey kg tp) p (l', c) :: Bk bx 133 [.pointer (some ⟨p, 0, none⟩)] :: Ob (D + 1) (rc .ready none) :: Ob D (.deferred (some [])) :: Bk t6 27 [.slice x.a x.n x.cap] :: OwnS 84 x (cs ++ [(g', xn)]) :: Bk pb 133 [.pointer (some ⟨p, 0, none⟩)] :: L)).sl h)
              dsimp only [Lk]
              simp only [List.map_append, List.map_cons, List.map_nil]
              exact h2.to
      · have hrl := hp.length_eq
        exact ⟨⟨hq, by dsimp only; omega, by dsimp only; omega, by dsimp only [List.length_nil]; omega⟩, ⟨rfl, List.Pairwise.nil, by simp⟩, foldl_perm hp List.Pairwise.nil, by simp⟩
      · show SL w0 I (PileM (ckey kg tp) p (l, c) :: Bk bx 133 [.pointer (some ⟨p, 0, none⟩)] :: Ob (D + 1) (rc .ready none) :: Ob D (.deferred (some [])) :: Bk t6 27 [.slice SV.nil.a SV.nil.n SV.nil.cap] :: OwnS 84 SV.nil ([] : List (SV × Int)) :: RowH 3 [] ([] : List (List Int)) :: Bk pb 133 [.pointer (some ⟨p, 0, none⟩)] :: L) w
        have h2 : SL w0 I (Ob (D + 1) (rc .ready none) :: Ob D (.deferred (some [])) :: Bk bx 133 [.pointer (some ⟨p, 0, none⟩)] :: Bk t6 27 [.slice SV.nil.a SV.nil.n SV.nil.cap] :: PileM (ckey kg tp) p (l, c) :: Bk pb 133 [.pointer (some ⟨p, 0, none⟩)] :: L) w := h
        have h3 := (RowH.nil (α := Int) (e := 3)).sl h2
        exact h3.to
      · rintro (x | x) w hb
        · refine ⟨⟨x, hb.1⟩, rfl, ?_⟩
          have h := hb.2
          dsimp only [Lk] at h ⊢
          exact h.to
        · exact x.elim
    · rintro ⟨⟨l, c, out, cs, ms⟩, ⟨⟨h1, h2, h3, h4⟩, ⟨h5, h6, h6b⟩, h7, h8⟩, hl⟩
      dsimp only at h5 h7 hl ⊢
      subst hl
      refine ⟨by simp, ?_⟩
      show QQ _ _ _ _
      repeat' (first | ((first | refine WLA.m rfl rfl ?_ ?_ | refine WLA.st rfl ?_ ?_ | refine WLA.x rfl rfl ?_ (fun x => ?_) | refine WLA.x0 rfl ?_ (fun x => ?_)); first | exact trivial | exact rfl | assumption | omega | (refine ⟨?_, ?_⟩ <;> omega) | (simp only [Room, lenS]; omega) | decide | skip) | (refine Stp.go ?_) | (refine WPA.ifT ?_) | (refine WPA.ifF ?_) | ((first | refine WPA.dec ?_); first | refine .inl ⟨by first | assumption | omega | with_reducible rfl | (refine fun h => h ?_; first | assumption | with_reducible rfl) | (simp only [lenS] <;> omega) | decide, ?_⟩ | refine .inr ⟨by first | assumption | omega | with_reducible rfl | (refine fun h => h ?_; first | assumption | with_reducible rfl) | (simp only [lenS] <;> omega) | decide, ?_⟩) | ((first | refine WPA.ifBt ?_ ?_ | refine WPA.ifBnf ?_ ?_); assumption) | ((first | refine WPA.ifBnt ?_ ?_ | refine WPA.ifBf ?_ ?_); assumption) | ((first | refine WPA.ifs ?_ ?_ | refine WPA.ifB ?_ ?_) <;> intro hc))
      have h7 : ms = all.foldl putM [] := h7
      rw [← h7]
      exact QQ.fin [D] (L' := OwnS 84 out cs :: RowH 3 (cs.map Prod.fst) (ms.map Prod.fst) :: L) rfl (EntC.out (L' := Ob D (.deferred (some [])) :: OwnS 84 out cs :: RowH 3 (cs.map Prod.fst) (ms.map Prod.fst) :: L)) rfl (out, cs) rfl fun w h => ⟨h5, h⟩
end Go.Proofs.YtamnobjdgjbmbaaGreat
namespace Go.Proofs.YtamnobjdgjbmbaaGreat
open Go Go.Fw Go.RowKit
set_option linter.unusedVariables false
set_option linter.unusedSimpArgs false
set_option maxRecDepth 100000
set_option maxHeartbeats 16000000
set_option synthInstance.maxHeartbeats 200000
set_option synthInstance.maxSize 100000
attribute [local irreducible] WPA WLA WDA WDQ WDE QQ seqQ blockQ loopQ fnQ OpP OpT Tr TrP SL SLd OwnS LitS Bk BkE Ob
attribute [local irreducible] RowH
def GrG (I : Foot) (kg : SV → List Int) (ps : List (SV × Int)) : Prop := ∀ p ∈ ps, SlI I p.1 Int inferInstance (kg p.1)
theorem GrG.at {I : Foot} {kg : SV → List Int} {ps : List (SV × Int)} (h : GrG I kg ps) {i : Nat} (hi : i < ps.length) : SlI I (at_ ps (i : Int)).1 Int inferInstance (kg (at_ ps (i : Int)).1) := h _ (by rw [at_nat ps i hi]; exact List.getElem_mem _)
section
variable {kg : SV → List Int} {L : List HP} {w0 : World} {I : Foot}
structure RP where
  i : Nat
  r : SV
  o : List (SV × Int)
  laid : Bool
theorem rPut_tr {s : SV} {ps : List (SV × Int)} {xg : SV} {xn : Int} [hr : RdS I L s (SV × Int) inferInstance ps] (hg : GrG I kg ps) (hl : ∀ p ∈ ps, (kg p.1).length ≤ 1000000) (hx : SlI I xg Int inferInstance (kg xg)) (hxl : (kg xg).length ≤ 1000000) (hn : ps.length ≤ 100000) :
    Tr Tryz.prog 63 #[.slice s.a s.n s.cap, .agg #[.slice xg.a xg.n xg.cap, .int .i64 xn]] (SL w0 I L) (fun r : SV => .slice r.a r.n r.cap) (fun r => SL w0 I (OwnS 84 r ((putG kg (xg, xn) false ps).1 ++ (if (putG kg (xg, xn) false ps).2 = true then [] else [(xg, xn)])) :: L)) := by
  refine Tr.intro Tryz.func63 rfl Tryz.ntmps63 rfl ?_
  generalize hall : putG kg (xg, xn) false ps = all
  repeat' (first | ((first | refine WLA.m rfl rfl ?_ ?_ | refine WLA.st rfl ?_ ?_ | refine WLA.x rfl rfl ?_ (fun x => ?_) | refine WLA.x0 rfl ?_ (fun x => ?_)); first | exact trivial | exact rfl | assumption | omega | (refine ⟨?_, ?_⟩ <;> omega) | (simp only [Room, lenS]; omega) | decide | skip) | (refine Stp.go ?_) | (refine WPA.ifT ?_) | (refine WPA.ifF ?_) | ((first | refine WPA.dec ?_); first | refine .inl ⟨by first | assumption | omega | with_reducible rfl | (refine fun h => h ?_; first | assumption | with_reducible rfl) | (simp only [lenS] <;> omega) | decide, ?_⟩ | refine .inr ⟨by first | assumption | omega | with_reducible rfl | (refine fun h => h ?_; first | assumption | with_reducible rfl) | (simp only [lenS] <;> omega) | decide, ?_⟩) | ((first | refine WPA.ifBt ?_ ?_ | refine WPA.ifBnf ?_ ?_); assumption) | ((first | refine WPA.ifBnt ?_ ?_ | refine WPA.ifBf ?_ ?_); assumption) | ((first | refine WPA.ifs ?_ ?_ | refine WPA.ifB ?_ ?_) <;> intro hc))
  revert x; intro t3
  refine WPA.loopS (σ := RP) (fun y => [(0, .slice s.a s.n s.cap), (3, .pointer (some ⟨t3, 0, none⟩)), (5, .slice y.r.a y.r.n y.r.cap), (6, .bool y.laid), (7, .int .i64 y.i)])
    (fun y => (y.i ≤ ps.length ∧ y.o.length ≤ 2 * y.i) ∧ y.o ++ (putG kg (xg, xn) y.laid (ps.drop y.i)).1 = all.1 ∧ (putG kg (xg, xn) y.laid (ps.drop y.i)).2 = all.2)
    (fun y => SL w0 I (OwnS 84 y.r y.o :: Bk t3 84 [.slice xg.a xg.n xg.cap, .int .i64 xn] :: L)) (fun y => ps.length - y.i) ⟨0, SV.nil, [], false⟩ ⟨rfl, rfl, rfl, rfl, rfl, trivial⟩ ⟨⟨Nat.zero_le _, Nat.zero_le _⟩, by rw [List.drop_zero, hall]; rfl, by rw [List.drop_zero, hall]⟩ (fun w h => h.to) ?_
  rintro ⟨i, r, o, laid⟩ ρ ⟨⟨hi, ho⟩, h1, h2⟩
  dsimp only at hi ho h1 h2 ⊢
  by_cases hlt : i < ps.length
  · have hlt' : (i : Int) < ps.length := by omega
    have hyg := hg.at hlt
    have hyl : (kg (at_ ps (i : Int)).1).length ≤ 1000000000 := by have := hl (at_ ps (i : Int)) (by rw [at_nat ps i hlt]; exact List.getElem_mem _); omega
    have hxl' : (kg xg).length ≤ 1000000000 := by omega
    rw [List.drop_eq_getElem_cons hlt, ← at_nat ps i hlt] at h1 h2
    simp only [putG] at h1 h2
    by_cases hp : 0 < cmpL (kg (at_ ps (i : Int)).1) (kg xg)
    · have hz : ¬ cmpL (kg (at_ ps (i : Int)).1) (kg xg) = 0 := by omega
      have hd : decide (0 ≤ cmpL (kg (at_ ps (i : Int)).1) (kg xg)) = true := decide_eq_true (by omega)
      rw [hd, Bool.or_true] at h1 h2
      rw [if_neg hz] at h1
      cases laid
      · rw [if_pos ⟨hp, rfl⟩] at h1
        repeat' (first | ((first | refine WLA.m rfl rfl ?_ ?_ | refine WDQ.m rfl rfl ?_ ?_ | refine WLA.st rfl ?_ ?_ | refine WLA.x rfl rfl ?_ (fun x => ?_) | refine WLA.x0 rfl ?_ (fun x => ?_)); first | exact trivial | exact rfl | assumption | omega | (refine ⟨?_, ?_⟩ <;> omega) | (simp only [Room, lenS]; omega) | decide | skip) | (refine Stp.go ?_) | (guard_target =~ WLA _ _ _ _ _ (⟨_, .call ⟨.value (.func 39), _, _⟩, _, _, _, _⟩ :: _) _ _; refine WLA.cq rfl rfl (Compare_tr (by assumption) (by assumption)) ?_) | (refine WPA.ifT ?_) | (refine WPA.ifF ?_) | (refine WLA.no rfl rfl ?_) | ((first | refine WPA.dec ?_ | ((fail_if_success (guard_target =~ WLA _ _ _ _ _ _ (put1 _ _ (.bool true)) _)); (fail_if_success (guard_target =~ WLA _ _ _ _ _ _ (put1 _ _ (.bool false)) _)); refine WLA.dec rfl rfl ?_) | refine WLA.pk ?_); first | refine .inl ⟨by first | assumption | omega | with_reducible rfl | (refine fun h => h ?_; first | assumption | with_reducible rfl) | (simp only [lenS] <;> omega) | decide, ?_⟩ | refine .inr ⟨by first | assumption | omega | with_reducible rfl | (refine fun h => h ?_; first | assumption | with_reducible rfl) | (simp only [lenS] <;> omega) | decide, ?_⟩) | ((first | refine WPA.ifBt ?_ ?_ | refine WPA.ifBnf ?_ ?_); assumption) | ((first | refine WPA.ifBnt ?_ ?_ | refine WPA.ifBf ?_ ?_); assumption) | ((first | refine WPA.ifs ?_ ?_ | refine WPA.ifB ?_ ?_) <;> intro hc) | ((fail_if_success (guard_target =~ WLA _ _ _ _ _ _ (put1 _ _ (.bool true)) _)); (fail_if_success (guard_target =~ WLA _ _ _ _ _ _ (put1 _ _ (.bool false)) _)); (first | refine WLA.both rfl rfl ?_ ?_ | refine WLA.bothB rfl rfl ?_ ?_) <;> intro hg) | (guard_target =~ WPA _ _ _ (.region 6 _ true) _ _ _; refine WPA.drawT 7 (.q 0 (.q 1 (.q 2 (.q 3 (.q 4 (.q 5 (.q 6 .fin))))))) mixed ?_ ?_; kernel_rfl) | (refine WDA.finish (tl := [⟨_, _, _, _, _, _⟩, ⟨_, _, _, _, _, _⟩]) rfl ?_) | (refine WDQ.see rfl ?_) | (guard_target =~ WDQ _ _ _ _ _ _ _ ⟨_, .call ⟨.value (.func 39), _, _⟩, _, _, _, _⟩ _ _ _; refine WDQ.cq rfl rfl (Compare_tr (by assumption) (by assumption)) ?_))
        refine QQ.loopS ⟨i + 1, x, o ++ [(xg, xn)] ++ [((at_ ps (i : Int)).1, (at_ ps (i : Int)).2)], true⟩ ⟨rfl, rfl, rfl, rfl, rfl, trivial⟩ ⟨⟨hlt, ?_⟩, ?_, h2⟩ (by dsimp only; omega) (fun w h => h.to)
        · simp; omega
        · rw [← h1]; simp
      · rw [if_neg (fun h => by cases h.2)] at h1
        repeat' (first | ((first | refine WLA.m rfl rfl ?_ ?_ | refine WDQ.m rfl rfl ?_ ?_ | refine WLA.st rfl ?_ ?_ | refine WLA.x rfl rfl ?_ (fun x => ?_) | refine WLA.x0 rfl ?_ (fun x => ?_)); first | exact trivial | exact rfl | assumption | omega | (refine ⟨?_, ?_⟩ <;> omega) | (simp only [Room, lenS]; omega) | decide | skip) | (refine Stp.go ?_) | (guard_target =~ WLA _ _ _ _ _ (⟨_, .call ⟨.value (.func 39), _, _⟩, _, _, _, _⟩ :: _) _ _; refine WLA.cq rfl rfl (Compare_tr (by assumption) (by assumption)) ?_) | (refine WPA.ifT ?_) | (refine WPA.ifF ?_) | (refine WLA.no rfl rfl ?_) | ((first | refine WPA.dec ?_ | ((fail_if_success (guard_target =~ WLA _ _ _ _ _ _ (put1 _ _ (.bool true)) _)); (fail_if_success (guard_target =~ WLA _ _ _ _ _ _ (put1 _ _ (.bool false)) _)); refine WLA.dec rfl rfl ?_) | refine WLA.pk ?_); first | refine .inl ⟨by first | assumption | omega | with_reducible rfl | (refine fun h => h ?_; first | assumption | with_reducible rfl) | (simp only [lenS] <;> omega) | decide, ?_⟩ | refine .inr ⟨by first | assumption | omega | with_reducible rfl | (refine fun h => h ?_; first | assumption | with_reducible rfl) | (simp only [lenS] <;> omega) | decide, ?_⟩) | ((first | refine WPA.ifBt ?_ ?_ | refine WPA.ifBnf ?_ ?_); assumption) | ((first | refine WPA.ifBnt ?_ ?_ | refine WPA.ifBf ?_ ?_); assumption) | ((first | refine WPA.ifs ?_ ?_ | refine WPA.ifB ?_ ?_) <;> intro hc) | ((fail_if_success (guard_target =~ WLA _ _ _ _ _ _ (put1 _ _ (.bool true)) _)); (fail_if_success (guard_target =~ WLA _ _ _ _ _ _ (put1 _ _ (.bool false)) _)); (first | refine WLA.both rfl rfl ?_ ?_ | refine WLA.bothB rfl rfl ?_ ?_) <;> intro hg) | (guard_target =~ WPA _ _ _ (.region 6 _ true) _ _ _; refine WPA.drawT 7 (.q 0 (.q 1 (.q 2 (.q 3 (.q 4 (.q 5 (.q 6 .fin))))))) mixed ?_ ?_; kernel_rfl) | (refine WDA.finish (tl := [⟨_, _, _, _, _, _⟩, ⟨_, _, _, _, _, _⟩]) rfl ?_) | (refine WDQ.see rfl ?_) | (guard_target =~ WDQ _ _ _ _ _ _ _ ⟨_, .call ⟨.value (.func 39), _, _⟩, _, _, _, _⟩ _ _ _; refine WDQ.cq rfl rfl (Compare_tr (by assumption) (by assumption)) ?_))
        refine QQ.loopS ⟨i + 1, x, o ++ [((at_ ps (i : Int)).1, (at_ ps (i : Int)).2)], true⟩ ⟨rfl, rfl, rfl, rfl, rfl, trivial⟩ ⟨⟨hlt, ?_⟩, ?_, h2⟩ (by dsimp only; omega) (fun w h => h.to)
        · simp; omega
        · rw [← h1]; simp
    · rw [if_neg (fun h => hp h.1), List.nil_append] at h1
      by_cases hz : cmpL (kg (at_ ps (i : Int)).1) (kg xg) = 0
      · have hd : decide (0 ≤ cmpL (kg (at_ ps (i : Int)).1) (kg xg)) = true := decide_eq_true (by omega)
        rw [hd, Bool.or_true] at h1 h2
        rw [if_pos hz] at h1
        repeat' ((fail_if_success (guard_target =~ WPA _ _ _ (.region 12 _ _) _ _ _)); first | ((first | refine WLA.m rfl rfl ?_ ?_ | refine WDQ.m rfl rfl ?_ ?_ | refine WLA.st rfl ?_ ?_ | refine WLA.x rfl rfl ?_ (fun x => ?_) | refine WLA.x0 rfl ?_ (fun x => ?_)); first | exact trivial | exact rfl | assumption | omega | (refine ⟨?_, ?_⟩ <;> omega) | (simp only [Room, lenS]; omega) | decide | skip) | (refine Stp.go ?_) | (guard_target =~ WLA _ _ _ _ _ (⟨_, .call ⟨.value (.func 39), _, _⟩, _, _, _, _⟩ :: _) _ _; refine WLA.cq rfl rfl (Compare_tr (by assumption) (by assumption)) ?_) | (refine WPA.ifT ?_) | (refine WPA.ifF ?_) | (refine WLA.no rfl rfl ?_) | ((first | refine WPA.dec ?_ | ((fail_if_success (guard_target =~ WLA _ _ _ _ _ _ (put1 _ _ (.bool true)) _)); (fail_if_success (guard_target =~ WLA _ _ _ _ _ _ (put1 _ _ (.bool false)) _)); refine WLA.dec rfl rfl ?_) | refine WLA.pk ?_); first | refine .inl ⟨by first | assumption | omega | with_reducible rfl | (refine fun h => h ?_; first | assumption | with_reducible rfl) | (simp only [lenS] <;> omega) | decide, ?_⟩ | refine .inr ⟨by first | assumption | omega | with_reducible rfl | (refine fun h => h ?_; first | assumption | with_reducible rfl) | (simp only [lenS] <;> omega) | decide, ?_⟩) | ((first | refine WPA.ifBt ?_ ?_ | refine WPA.ifBnf ?_ ?_); assumption) | ((first | refine WPA.ifBnt ?_ ?_ | refine WPA.ifBf ?_ ?_); assumption) | ((first | refine WPA.ifs ?_ ?_ | refine WPA.ifB ?_ ?_) <;> intro hc) | ((fail_if_success (guard_target =~ WLA _ _ _ _ _ _ (put1 _ _ (.bool true)) _)); (fail_if_success (guard_target =~ WLA _ _ _ _ _ _ (put1 _ _ (.bool false)) _)); (first | refine WLA.both rfl rfl ?_ ?_ | refine WLA.bothB rfl rfl ?_ ?_) <;> intro hg) | (guard_target =~ WPA _ _ _ (.region 6 _ true) _ _ _; refine WPA.drawT 7 (.q 0 (.q 1 (.q 2 (.q 3 (.q 4 (.q 5 (.q 6 .fin))))))) mixed ?_ ?_; kernel_rfl) | (refine WDA.finish (tl := [⟨_, _, _, _, _, _⟩, ⟨_, _, _, _, _, _⟩]) rfl ?_) | (refine WDQ.see rfl ?_) | (guard_target =~ WDQ _ _ _ _ _ _ _ ⟨_, .call ⟨.value (.func 39), _, _⟩, _, _, _, _⟩ _ _ _; refine WDQ.cq rfl rfl (Compare_tr (by assumption) (by assumption)) ?_))
        repeat' ((fail_if_success (guard_target =~ WPA _ _ _ (.region 13 _ _) _ _ _)); first | (guard_target =~ WLA _ _ _ _ _ (⟨_, .binOp .add _ _ _ _, _, _, _, _⟩ :: _) _ _; refine WLA.m (h := addW) rfl rfl trivial ?_) | (guard_target =~ WDQ _ _ _ _ _ _ _ ⟨_, .binOp .add _ _ _ _, _, _, _, _⟩ _ _ _; refine WDQ.m (h := addW) rfl rfl trivial ?_) | (guard_target =~ WDP _ _ _ _ _ _ _ ⟨_, .binOp .add _ _ _ _, _, _, _, _⟩ _ _ _; refine WDP.m (h := addW) rfl rfl trivial ?_) | ((first | refine WLA.m rfl rfl ?_ ?_ | refine WLA.st rfl ?_ ?_ | refine WLA.x rfl rfl ?_ (fun x => ?_) | refine WLA.x0 rfl ?_ (fun x => ?_)); first | exact trivial | exact rfl | assumption | omega | (refine ⟨?_, ?_⟩ <;> omega) | (simp only [Room, lenS]; omega) | decide | skip) | (refine Stp.go ?_) | (refine WPA.ifT ?_) | (refine WPA.ifF ?_) | ((first | refine WPA.dec ?_); first | refine .inl ⟨by first | assumption | omega | with_reducible rfl | (refine fun h => h ?_; first | assumption | with_reducible rfl) | (simp only [lenS] <;> omega) | decide, ?_⟩ | refine .inr ⟨by first | assumption | omega | with_reducible rfl | (refine fun h => h ?_; first | assumption | with_reducible rfl) | (simp only [lenS] <;> omega) | decide, ?_⟩) | ((first | refine WPA.ifBt ?_ ?_ | refine WPA.ifBnf ?_ ?_); assumption) | ((first | refine WPA.ifBnt ?_ ?_ | refine WPA.ifBf ?_ ?_); assumption) | ((first | refine WPA.ifs ?_ ?_ | refine WPA.ifB ?_ ?_) <;> intro hc))
        repeat' (first | ((first | refine WLA.m rfl rfl ?_ ?_ | refine WLA.st rfl ?_ ?_ | refine WLA.x rfl rfl ?_ (fun x => ?_) | refine WLA.x0 rfl ?_ (fun x => ?_)); first | exact trivial | exact rfl | assumption | omega | (refine ⟨?_, ?_⟩ <;> omega) | (simp only [Room, lenS]; omega) | decide | skip) | (refine Stp.go ?_) | (refine WPA.ifT ?_) | (refine WPA.ifF ?_) | ((first | refine WPA.dec ?_); first | refine .inl ⟨by first | assumption | omega | with_reducible rfl | (refine fun h => h ?_; first | assumption | with_reducible rfl) | (simp only [lenS] <;> omega) | decide, ?_⟩ | refine .inr ⟨by first | assumption | omega | with_reducible rfl | (refine fun h => h ?_; first | assumption | with_reducible rfl) | (simp only [lenS] <;> omega) | decide, ?_⟩) | ((first | refine WPA.ifBt ?_ ?_ | refine WPA.ifBnf ?_ ?_); assumption) | ((first | refine WPA.ifBnt ?_ ?_ | refine WPA.ifBf ?_ ?_); assumption) | ((first | refine WPA.ifs ?_ ?_ | refine WPA.ifB ?_ ?_) <;> intro hc))
        refine QQ.loopS ⟨i + 1, x, o ++ [((at_ ps (i : Int)).1, IntKind.i64.wrap ((at_ ps (i : Int)).2 + xn))], true⟩ ⟨rfl, rfl, rfl, rfl, rfl, trivial⟩ ⟨⟨hlt, ?_⟩, ?_, h2⟩ (by dsimp only; omega) (fun w h => h.to)
        · simp; omega
        · rw [← h1]; simp
      · have hd : decide (0 ≤ cmpL (kg (at_ ps (i : Int)).1) (kg xg)) = false := decide_eq_false (by omega)
        rw [hd, Bool.or_false] at h1 h2
        rw [if_neg hz] at h1
        repeat' (first | ((first | refine WLA.m rfl rfl ?_ ?_ | refine WDQ.m rfl rfl ?_ ?_ | refine WLA.st rfl ?_ ?_ | refine WLA.x rfl rfl ?_ (fun x => ?_) | refine WLA.x0 rfl ?_ (fun x => ?_)); first | exact trivial | exact rfl | assumption | omega | (refine ⟨?_, ?_⟩ <;> omega) | (simp only [Room, lenS]; omega) | decide | skip) | (refine Stp.go ?_) | (guard_target =~ WLA _ _ _ _ _ (⟨_, .call ⟨.value (.func 39), _, _⟩, _, _, _, _⟩ :: _) _ _; refine WLA.cq rfl rfl (Compare_tr (by assumption) (by assumption)) ?_) | (refine WPA.ifT ?_) | (refine WPA.ifF ?_) | (refine WLA.no rfl rfl ?_) | ((first | refine WPA.dec ?_ | ((fail_if_success (guard_target =~ WLA _ _ _ _ _ _ (put1 _ _ (.bool true)) _)); (fail_if_success (guard_target =~ WLA _ _ _ _ _ _ (put1 _ _ (.bool false)) _)); refine WLA.dec rfl rfl ?_) | refine WLA.pk ?_); first | refine .inl ⟨by first | assumption | omega | with_reducible rfl | (refine fun h => h ?_; first | assumption | with_reducible rfl) | (simp only [lenS] <;> omega) | decide, ?_⟩ | refine .inr ⟨by first | assumption | omega | with_reducible rfl | (refine fun h => h ?_; first | assumption | with_reducible rfl) | (simp only [lenS] <;> omega) | decide, ?_⟩) | ((first | refine WPA.ifBt ?_ ?_ | refine WPA.ifBnf ?_ ?_); assumption) | ((first | refine WPA.ifBnt ?_ ?_ | refine WPA.ifBf ?_ ?_); assumption) | ((first | refine WPA.ifs ?_ ?_ | refine WPA.ifB ?_ ?_) <;> intro hc) | ((fail_if_success (guard_target =~ WLA _ _ _ _ _ _ (put1 _ _ (.bool true)) _)); (fail_if_success (guard_target =~ WLA _ _ _ _ _ _ (put1 _ _ (.bool false)) _)); (first | refine WLA.both rfl rfl ?_ ?_ | refine WLA.bothB rfl rfl ?_ ?_) <;> intro hg) | (guard_target =~ WPA _ _ _ (.region 6 _ true) _ _ _; refine WPA.drawT 7 (.q 0 (.q 1 (.q 2 (.q 3 (.q 4 (.q 5 (.q 6 .fin))))))) mixed ?_ ?_; kernel_rfl) | (refine WDA.finish (tl := [⟨_, _, _, _, _, _⟩, ⟨_, _, _, _, _, _⟩]) rfl ?_) | (refine WDQ.see rfl ?_) | (guard_target =~ WDQ _ _ _ _ _ _ _ ⟨_, .call ⟨.value (.func 39), _, _⟩, _, _, _, _⟩ _ _ _; refine WDQ.cq rfl rfl (Compare_tr (by assumption) (by assumption)) ?_))
        refine QQ.loopS ⟨i + 1, x, o ++ [((at_ ps (i : Int)).1, (at_ ps (i : Int)).2)], laid⟩ ⟨rfl, rfl, rfl, rfl, rfl, trivial⟩ ⟨⟨hlt, ?_⟩, ?_, h2⟩ (by dsimp only; omega) (fun w h => h.to)
        · simp; omega
        · rw [← h1]; simp
  · have hlt' : ¬ (i : Int) < ps.length := by omega
    rw [List.drop_of_length_le (by omega)] at h1 h2
    simp only [putG, List.append_nil] at h1 h2
    subst h1
    cases laid
    · rw [← h2, if_neg (by decide)]
      repeat' (first | ((first | refine WLA.m rfl rfl ?_ ?_ | refine WDQ.m rfl rfl ?_ ?_ | refine WLA.st rfl ?_ ?_ | refine WLA.x rfl rfl ?_ (fun x => ?_) | refine WLA.x0 rfl ?_ (fun x => ?_)); first | exact trivial | exact rfl | assumption | omega | (refine ⟨?_, ?_⟩ <;> omega) | (simp only [Room, lenS]; omega) | decide | skip) | (refine Stp.go ?_) | (refine WPA.ifT ?_) | (refine WPA.ifF ?_) | (refine WLA.no rfl rfl ?_) | ((first | refine WPA.dec ?_ | ((fail_if_success (guard_target =~ WLA _ _ _ _ _ _ (put1 _ _ (.bool true)) _)); (fail_if_success (guard_target =~ WLA _ _ _ _ _ _ (put1 _ _ (.bool false)) _)); refine WLA.dec rfl rfl ?_) | refine WLA.pk ?_); first | refine .inl ⟨by first | assumption | omega | with_reducible rfl | (refine fun h => h ?_; first | assumption | with_reducible rfl) | (simp only [lenS] <;> omega) | decide, ?_⟩ | refine .inr ⟨by first | assumption | omega | with_reducible rfl | (refine fun h => h ?_; first | assumption | with_reducible rfl) | (simp only [lenS] <;> omega) | decide, ?_⟩) | ((first | refine WPA.ifBt ?_ ?_ | refine WPA.ifBnf ?_ ?_); assumption) | ((first | refine WPA.ifBnt ?_ ?_ | refine WPA.ifBf ?_ ?_); assumption) | ((first | refine WPA.ifs ?_ ?_ | refine WPA.ifB ?_ ?_) <;> intro hc) | ((fail_if_success (guard_target =~ WLA _ _ _ _ _ _ (put1 _ _ (.bool true)) _)); (fail_if_success (guard_target =~ WLA _ _ _ _ _ _ (put1 _ _ (.bool false)) _)); (first | refine WLA.both rfl rfl ?_ ?_ | refine WLA.bothB rfl rfl ?_ ?_) <;> intro hg) | (guard_target =~ WPA _ _ _ (.region 6 _ true) _ _ _; refine WPA.drawT 7 (.q 0 (.q 1 (.q 2 (.q 3 (.q 4 (.q 5 (.q 6 .fin))))))) mixed ?_ ?_; kernel_rfl) | (refine WDA.finish (tl := [⟨_, _, _, _, _, _⟩, ⟨_, _, _, _, _, _⟩]) rfl ?_) | (refine WDQ.see rfl ?_))
      exact QQ.end_ rfl _ rfl fun w h => h.to
    · rw [← h2, if_pos rfl, List.append_nil]
      repeat' (first | ((first | refine WLA.m rfl rfl ?_ ?_ | refine WDQ.m rfl rfl ?_ ?_ | refine WLA.st rfl ?_ ?_ | refine WLA.x rfl rfl ?_ (fun x => ?_) | refine WLA.x0 rfl ?_ (fun x => ?_)); first | exact trivial | exact rfl | assumption | omega | (refine ⟨?_, ?_⟩ <;> omega) | (simp only [Room, lenS]; omega) | decide | skip) | (refine Stp.go ?_) | (refine WPA.ifT ?_) | (refine WPA.ifF ?_) | (refine WLA.no rfl rfl ?_) | ((first | refine WPA.dec ?_ | ((fail_if_success (guard_target =~ WLA _ _ _ _ _ _ (put1 _ _ (.bool true)) _)); (fail_if_success (guard_target =~ WLA _ _ _ _ _ _ (put1 _ _ (.bool false)) _)); refine WLA.dec rfl rfl ?_) | refine WLA.pk ?_); first | refine .inl ⟨by first | assumption | omega | with_reducible rfl | (refine fun h => h ?_; first | assumption | with_reducible rfl) | (simp only [lenS] <;> omega) | decide, ?_⟩ | refine .inr ⟨by first | assumption | omega | with_reducible rfl | (refine fun h => h ?_; first | assumption | with_reducible rfl) | (simp only [lenS] <;> omega) | decide, ?_⟩) | ((first | refine WPA.ifBt ?_ ?_ | refine WPA.ifBnf ?_ ?_); assumption) | ((first | refine WPA.ifBnt ?_ ?_ | refine WPA.ifBf ?_ ?_); assumption) | ((first | refine WPA.ifs ?_ ?_ | refine WPA.ifB ?_ ?_) <;> intro hc) | ((fail_if_success (guard_target =~ WLA _ _ _ _ _ _ (put1 _ _ (.bool true)) _)); (fail_if_success (guard_target =~ WLA _ _ _ _ _ _ (put1 _ _ (.bool false)) _)); (first | refine WLA.both rfl rfl ?_ ?_ | refine WLA.bothB rfl rfl ?_ ?_) <;> intro hg) | (guard_target =~ WPA _ _ _ (.region 6 _ true) _ _ _; refine WPA.drawT 7 (.q 0 (.q 1 (.q 2 (.q 3 (.q 4 (.q 5 (.q 6 .fin))))))) mixed ?_ ?_; kernel_rfl) | (refine WDA.finish (tl := [⟨_, _, _, _, _, _⟩, ⟨_, _, _, _, _, _⟩]) rfl ?_) | (refine WDQ.see rfl ?_))
      exact QQ.end_ rfl _ rfl fun w h => h.to
theorem putL_grg {ps : List (SV × Int)} {x : SV × Int} {G : SV → Prop} (h : ∀ p ∈ ps, G p.1) (hx : G x.1) : ∀ p ∈ putL kg ps x, G p.1 := by
  intro p hp
  rcases putL_fst p hp with e | ⟨y, hy, e⟩
  · rw [e]; exact hx
  · rw [e]; exact h y hy
theorem rSum_tr {s : SV} {ps : List (SV × Int)} [hr : RdS I L s (SV × Int) inferInstance ps] (hg : GrG I kg ps) (hl : ∀ p ∈ ps, (kg p.1).length ≤ 1000000) (hn : ps.length ≤ 100000) :
    Tr Tryz.prog 53 #[.slice s.a s.n s.cap] (SL w0 I L) (fun r : SV => .slice r.a r.n r.cap) (fun r => SL w0 I (OwnS 84 r (ps.foldl (putL kg) []) :: L)) := by
  refine Tr.intro Tryz.func53 rfl Tryz.ntmps53 rfl ?_
  repeat' (first | ((first | refine WLA.m rfl rfl ?_ ?_ | refine WLA.st rfl ?_ ?_ | refine WLA.x rfl rfl ?_ (fun x => ?_) | refine WLA.x0 rfl ?_ (fun x => ?_)); first | exact trivial | exact rfl | assumption | omega | (refine ⟨?_, ?_⟩ <;> omega) | (simp only [Room, lenS]; omega) | decide | skip) | (refine Stp.go ?_) | (refine WPA.ifT ?_) | (refine WPA.ifF ?_) | ((first | refine WPA.dec ?_); first | refine .inl ⟨by first | assumption | omega | with_reducible rfl | (refine fun h => h ?_; first | assumption | with_reducible rfl) | (simp only [lenS] <;> omega) | decide, ?_⟩ | refine .inr ⟨by first | assumption | omega | with_reducible rfl | (refine fun h => h ?_; first | assumption | with_reducible rfl) | (simp only [lenS] <;> omega) | decide, ?_⟩) | ((first | refine WPA.ifBt ?_ ?_ | refine WPA.ifBnf ?_ ?_); assumption) | ((first | refine WPA.ifBnt ?_ ?_ | refine WPA.ifBf ?_ ?_); assumption) | ((first | refine WPA.ifs ?_ ?_ | refine WPA.ifB ?_ ?_) <;> intro hc))
  refine WPA.loopS (σ := Nat × SV × List (SV × Int)) (fun y => [(0, .slice s.a s.n s.cap), (3, .slice y.2.1.a y.2.1.n y.2.1.cap), (4, .int .i64 y.1)])
    (fun y => (y.1 ≤ ps.length ∧ y.2.2.length ≤ y.1) ∧ (ps.drop y.1).foldl (putL kg) y.2.2 = ps.foldl (putL kg) [] ∧ Ris kg y.2.2 ∧ ∀ p ∈ y.2.2, SlI I p.1 Int inferInstance (kg p.1) ∧ (kg p.1).length ≤ 1000000)
    (fun y => SL w0 I (OwnS 84 y.2.1 y.2.2 :: L)) (fun y => ps.length - y.1) (0, SV.nil, []) ⟨rfl, rfl, rfl, trivial⟩ ⟨⟨Nat.zero_le _, Nat.le_refl _⟩, rfl, List.Pairwise.nil, by simp⟩ (fun w h => h.to) ?_
  rintro ⟨i, r, o⟩ ρ ⟨⟨hi, ho⟩, h1, h2, h3⟩
  dsimp only at hi ho h1 h2 h3 ⊢
  by_cases hlt : i < ps.length
  · have hlt' : (i : Int) < ps.length := by omega
    have hm : at_ ps (i : Int) ∈ ps := by rw [at_nat ps i hlt]; exact List.getElem_mem _
    rw [List.drop_eq_getElem_cons hlt, ← at_nat ps i hlt, List.foldl_cons] at h1
    have hpg := putG_put (f := kg) (x := ((at_ ps (i : Int)).1, (at_ ps (i : Int)).2)) h2
    have hgr := putL_grg (kg := kg) (G := fun s => SlI I s Int inferInstance (kg s) ∧ (kg s).length ≤ 1000000) h3 (x := at_ ps (i : Int)) ⟨hg _ hm, hl _ hm⟩
    have hlen : (putL kg o (at_ ps (i : Int))).length ≤ o.length + 1 := putL_len o
    have h3a : GrG I kg o := fun p hp => (h3 p hp).1
    have h3b : ∀ p ∈ o, (kg p.1).length ≤ 1000000 := fun p hp => (h3 p hp).2
    repeat' (first | ((first | refine WLA.m rfl rfl ?_ ?_ | refine WLA.st rfl ?_ ?_ | refine WLA.x rfl rfl ?_ (fun x => ?_) | refine WLA.x0 rfl ?_ (fun x => ?_)); first | exact trivial | exact rfl | assumption | omega | (refine ⟨?_, ?_⟩ <;> omega) | (simp only [Room, lenS]; omega) | decide | skip) | (refine Stp.go ?_) | (guard_target =~ WLA _ _ _ _ _ (⟨_, .call ⟨.value (.func 63), _, _⟩, _, _, _, _⟩ :: _) _ _; refine WLA.call rfl rfl (rPut_tr h3a h3b (hg _ hm) (hl _ hm) (by omega)) ?_; rintro r2; rw [hpg]) | (refine WPA.ifT ?_) | (refine WPA.ifF ?_) | ((first | refine WPA.dec ?_); first | refine .inl ⟨by first | assumption | omega | with_reducible rfl | (refine fun h => h ?_; first | assumption | with_reducible rfl) | (simp only [lenS] <;> omega) | decide, ?_⟩ | refine .inr ⟨by first | assumption | omega | with_reducible rfl | (refine fun h => h ?_; first | assumption | with_reducible rfl) | (simp only [lenS] <;> omega) | decide, ?_⟩) | ((first | refine WPA.ifBt ?_ ?_ | refine WPA.ifBnf ?_ ?_); assumption) | ((first | refine WPA.ifBnt ?_ ?_ | refine WPA.ifBf ?_ ?_); assumption) | ((first | refine WPA.ifs ?_ ?_ | refine WPA.ifB ?_ ?_) <;> intro hc))
    exact QQ.loopS (i + 1, r2, putL kg o (at_ ps (i : Int))) ⟨rfl, rfl, rfl, trivial⟩ ⟨⟨hlt, by dsimp only; omega⟩, h1, putL_ris h2, hgr⟩ (by dsimp only; omega) (fun w h => h.to)
  · have hlt' : ¬ (i : Int) < ps.length := by omega
    rw [List.drop_of_length_le (by omega), List.foldl_nil] at h1
    rw [← h1]
    repeat' (first | ((first | refine WLA.m rfl rfl ?_ ?_ | refine WLA.st rfl ?_ ?_ | refine WLA.x rfl rfl ?_ (fun x => ?_) | refine WLA.x0 rfl ?_ (fun x => ?_)); first | exact trivial | exact rfl | assumption | omega | (refine ⟨?_, ?_⟩ <;> omega) | (simp only [Room, lenS]; omega) | decide | skip) | (refine Stp.go ?_) | (refine WPA.ifT ?_) | (refine WPA.ifF ?_) | ((first | refine WPA.dec ?_); first | refine .inl ⟨by first | assumption | omega | with_reducible rfl | (refine fun h => h ?_; first | assumption | with_reducible rfl) | (simp only [lenS] <;> omega) | decide, ?_⟩ | refine .inr ⟨by first | assumption | omega | with_reducible rfl | (refine fun h => h ?_; first | assumption | with_reducible rfl) | (simp only [lenS] <;> omega) | decide, ?_⟩) | ((first | refine WPA.ifBt ?_ ?_ | refine WPA.ifBnf ?_ ?_); assumption) | ((first | refine WPA.ifBnt ?_ ?_ | refine WPA.ifBf ?_ ?_); assumption) | ((first | refine WPA.ifs ?_ ?_ | refine WPA.ifB ?_ ?_) <;> intro hc))
    exact QQ.end_ rfl _ rfl fun w h => h.to
theorem rLists_tr {tp : SV → List (SV × Int)} {s : SV} {hs : List SV} [hr : SlI I s SV inferInstance hs] (hG : ∀ h ∈ hs, GoodL I kg tp h) (hn : hs.length ≤ 100000) (hn2 : (hs.flatMap tp).length ≤ 100000) :
    Tr Tryz.prog 20 #[.slice s.a s.n s.cap] (SL w0 I L) (fun r : SV => .slice r.a r.n r.cap) (fun r => SL w0 I (OwnS 84 r ((hs.flatMap tp).foldl (putL kg) []) :: L)) := by
  refine Tr.intro Tryz.func20 rfl Tryz.ntmps20 rfl ?_
  repeat' (first | ((first | refine WLA.m rfl rfl ?_ ?_ | refine WLA.st rfl ?_ ?_ | refine WLA.x rfl rfl ?_ (fun x => ?_) | refine WLA.x0 rfl ?_ (fun x => ?_)); first | exact trivial | exact rfl | assumption | omega | (refine ⟨?_, ?_⟩ <;> omega) | (simp only [Room, lenS]; omega) | decide | skip) | (refine Stp.go ?_) | (refine WPA.ifT ?_) | (refine WPA.ifF ?_) | ((first | refine WPA.dec ?_); first | refine .inl ⟨by first | assumption | omega | with_reducible rfl | (refine fun h => h ?_; first | assumption | with_reducible rfl) | (simp only [lenS] <;> omega) | decide, ?_⟩ | refine .inr ⟨by first | assumption | omega | with_reducible rfl | (refine fun h => h ?_; first | assumption | with_reducible rfl) | (simp only [lenS] <;> omega) | decide, ?_⟩) | ((first | refine WPA.ifBt ?_ ?_ | refine WPA.ifBnf ?_ ?_); assumption) | ((first | refine WPA.ifBnt ?_ ?_ | refine WPA.ifBf ?_ ?_); assumption) | ((first | refine WPA.ifs ?_ ?_ | refine WPA.ifB ?_ ?_) <;> intro hc))
  refine WPA.loopS (σ := Nat × SV) (fun y => [(0, .slice s.a s.n s.cap), (3, .slice y.2.a y.2.n y.2.cap), (4, .int .i64 y.1)])
    (fun y => y.1 ≤ hs.length) (fun y => SL w0 I (OwnS 84 y.2 ((hs.take y.1).flatMap tp) :: L)) (fun y => hs.length - y.1) (0, SV.nil) ⟨rfl, rfl, rfl, trivial⟩ (Nat.zero_le _) (fun w h => by
      show SL w0 I (OwnS 84 SV.nil ([] : List (SV × Int)) :: L) w
      exact h.to) ?_
  rintro ⟨i, r⟩ ρ hi
  dsimp only at hi ⊢
  by_cases hlt : i < hs.length
  · have hlt' : (i : Int) < hs.length := by omega
    have hm : at_ hs (i : Int) ∈ hs := by rw [at_nat hs i hlt]; exact List.getElem_mem _
    have hsl := (hG _ hm).sl
    have e1 : (hs.take (i + 1)).flatMap tp = (hs.take i).flatMap tp ++ tp (at_ hs (i : Int)) := by
      rw [List.take_add_one, List.getElem?_eq_getElem hlt, at_nat hs i hlt, List.flatMap_append]; simp
    have e2 : ((hs.take (i + 1)).flatMap tp).length + ((hs.drop (i + 1)).flatMap tp).length = (hs.flatMap tp).length := by
      rw [← List.length_append, ← List.flatMap_append, List.take_append_drop]
    rw [e1, List.length_append] at e2
    repeat' (first | ((first | refine WLA.m rfl rfl ?_ ?_ | refine WDQ.m rfl rfl ?_ ?_ | refine WDP.m rfl rfl ?_ ?_ | refine WLA.st rfl ?_ ?_ | refine WLA.x rfl rfl ?_ (fun x => ?_) | refine WLA.x0 rfl ?_ (fun x => ?_) | refine WDW.x rfl rfl ?_ (fun x => ?_) | refine WDW.st rfl ?_ ?_); first | exact trivial | exact rfl | assumption | omega | (refine ⟨?_, ?_⟩ <;> omega) | (simp only [Room, lenS]; omega) | decide | skip) | (refine Stp.go ?_) | (refine WPA.ifT ?_) | (refine WPA.ifF ?_) | ((first | refine WPA.dec ?_); first | refine .inl ⟨by first | assumption | omega | with_reducible rfl | (refine fun h => h ?_; first | assumption | with_reducible rfl) | (simp only [lenS] <;> omega) | decide, ?_⟩ | refine .inr ⟨by first | assumption | omega | with_reducible rfl | (refine fun h => h ?_; first | assumption | with_reducible rfl) | (simp only [lenS] <;> omega) | decide, ?_⟩) | ((first | refine WPA.ifBt ?_ ?_ | refine WPA.ifBnf ?_ ?_); assumption) | ((first | refine WPA.ifBnt ?_ ?_ | refine WPA.ifBf ?_ ?_); assumption) | ((first | refine WPA.ifs ?_ ?_ | refine WPA.ifB ?_ ?_) <;> intro hc) | (guard_target =~ WPA _ _ _ (.region 5 _ true) _ _ _; refine WPA.drawT 7 (.p 1 (.p 3 (.p 4 (.p 5 (.p 6 (.e 0 (.w 2 .fin))))))) mixed ?_ ?_; kernel_rfl) | (refine WDA.finish (tl := [⟨_, _, _, _, _, _⟩, ⟨_, _, _, _, _, _⟩]) rfl ?_) | (refine WDQ.see rfl ?_) | (refine WDP.see rfl ?_) | (refine WDW.see rfl ?_) | (refine WDE.see rfl ?_) | (refine WDE.alloc rfl rfl (fun w h => h) (fun x => ?_)) | (refine WDE.stE rfl ?_) | (refine WDE.x rfl rfl ?_ ?_ (fun x => ?_); rotate_left 1; (intro x w h; first | exact h | exact Ent.drop1.sl h | exact SL.unI h | exact SL.to h); rotate_left 1; first | exact trivial | exact rfl | assumption | omega | (refine ⟨?_, ?_⟩ <;> omega) | (simp only [Room, lenS]; omega) | decide | skip))
    refine QQ.loopS (i + 1, x) ⟨rfl, rfl, rfl, trivial⟩ hlt (by dsimp only; omega) (fun w h => ?_)
    dsimp only
    rw [e1]
    exact h.to
  · have hlt' : ¬ (i : Int) < hs.length := by omega
    rw [List.take_of_length_le (by omega)]
    have hgm : ∀ p ∈ hs.flatMap tp, SlI I p.1 Int inferInstance (kg p.1) ∧ (kg p.1).length ≤ 1000000 := fun p hp => by
      obtain ⟨h, hh, hp⟩ := List.mem_flatMap.1 hp
      exact (hG h hh).el p hp
    have h3a : GrG I kg (hs.flatMap tp) := fun p hp => (hgm p hp).1
    have h3b : ∀ p ∈ hs.flatMap tp, (kg p.1).length ≤ 1000000 := fun p hp => (hgm p hp).2
    repeat' (first | ((first | refine WLA.m rfl rfl ?_ ?_ | refine WDQ.m rfl rfl ?_ ?_ | refine WDP.m rfl rfl ?_ ?_ | refine WLA.st rfl ?_ ?_ | refine WLA.x rfl rfl ?_ (fun x => ?_) | refine WLA.x0 rfl ?_ (fun x => ?_) | refine WDW.x rfl rfl ?_ (fun x => ?_) | refine WDW.st rfl ?_ ?_); first | exact trivial | exact rfl | assumption | omega | (refine ⟨?_, ?_⟩ <;> omega) | (simp only [Room, lenS]; omega) | decide | skip) | (refine Stp.go ?_) | (guard_target =~ WLA _ _ _ _ _ (⟨_, .call ⟨.value (.func 53), _, _⟩, _, _, _, _⟩ :: _) _ _; refine WLA.call rfl rfl (rSum_tr h3a h3b hn2) ?_; rintro r2) | (refine WPA.ifT ?_) | (refine WPA.ifF ?_) | ((first | refine WPA.dec ?_); first | refine .inl ⟨by first | assumption | omega | with_reducible rfl | (refine fun h => h ?_; first | assumption | with_reducible rfl) | (simp only [lenS] <;> omega) | decide, ?_⟩ | refine .inr ⟨by first | assumption | omega | with_reducible rfl | (refine fun h => h ?_; first | assumption | with_reducible rfl) | (simp only [lenS] <;> omega) | decide, ?_⟩) | ((first | refine WPA.ifBt ?_ ?_ | refine WPA.ifBnf ?_ ?_); assumption) | ((first | refine WPA.ifBnt ?_ ?_ | refine WPA.ifBf ?_ ?_); assumption) | ((first | refine WPA.ifs ?_ ?_ | refine WPA.ifB ?_ ?_) <;> intro hc) | (guard_target =~ WPA _ _ _ (.region 5 _ true) _ _ _; refine WPA.drawT 7 (.p 1 (.p 3 (.p 4 (.p 5 (.p 6 (.e 0 (.w 2 .fin))))))) mixed ?_ ?_; kernel_rfl) | (refine WDA.finish (tl := [⟨_, _, _, _, _, _⟩, ⟨_, _, _, _, _, _⟩]) rfl ?_) | (refine WDQ.see rfl ?_) | (refine WDP.see rfl ?_) | (refine WDW.see rfl ?_) | (refine WDE.see rfl ?_) | (refine WDE.alloc rfl rfl (fun w h => h) (fun x => ?_)) | (refine WDE.stE rfl ?_) | (refine WDE.x rfl rfl ?_ ?_ (fun x => ?_); rotate_left 1; (intro x w h; first | exact h | exact Ent.drop1.sl h | exact SL.unI h | exact SL.to h); rotate_left 1; first | exact trivial | exact rfl | assumption | omega | (refine ⟨?_, ?_⟩ <;> omega) | (simp only [Room, lenS]; omega) | decide | skip) | (guard_target =~ WDE _ _ _ _ _ _ _ ⟨_, .call ⟨.value (.func 53), _, _⟩, _, _, _, _⟩ _ _ _; refine WDE.call rfl rfl (rSum_tr h3a h3b hn2) ?_ ?_; (intro x w h; first | exact h | exact Ent.drop1.sl h | exact SL.unI h | exact SL.to h); rintro r2) | (guard_target =~ WDW _ _ _ _ _ _ _ ⟨_, .call ⟨.value (.func 53), _, _⟩, _, _, _, _⟩ _ _ _; refine WDW.call rfl rfl (rSum_tr h3a h3b hn2) ?_; rintro r2))
    exact QQ.end_ rfl r2 rfl fun w h => h.to
end
end Go.Proofs.YtamnobjdgjbmbaaGreat
namespace Go.Proofs.YtamnobjdgjbmbaaGreat
open Go Go.Fw Go.RowKit
set_option linter.unusedVariables false
set_option linter.unusedSimpArgs false
set_option maxRecDepth 100000
set_option maxHeartbeats 16000000
set_option synthInstance.maxHeartbeats 200000
set_option synthInstance.maxSize 100000
attribute [local irreducible] WPA WLA WDA WDQ WDE QQ seqQ blockQ loopQ fnQ OpP OpT Tr TrP SL SLd OwnS LitS Bk BkE Ob
attribute [local irreducible] RowH
section
variable {kg : SV → List Int} {L : List HP} {w0 : World} {I : Foot}
instance (a b : List Int) : Decidable (ltL a b) := inferInstanceAs (Decidable (_ < _))
instance (kg : SV → List Int) (ps : List (SV × Int)) : Decidable (Ris kg ps) := inferInstanceAs (Decidable (List.Pairwise _ _))
end
end Go.Proofs.YtamnobjdgjbmbaaGreat
namespace Go.Proofs.YtamnobjdgjbmbaaGreat
open Go Go.Fw Go.RowKit
set_option linter.unusedVariables false
set_option linter.unusedSimpArgs false
set_option maxRecDepth 100000
set_option maxHeartbeats 16000000
set_option synthInstance.maxHeartbeats 200000
set_option synthInstance.maxSize 100000
attribute [local irreducible] WPA WLA WDA WDQ WDE QQ seqQ blockQ loopQ fnQ OpP OpT Tr TrP SL SLd OwnS LitS Bk BkE Ob
attribute [local irreducible] RowH
def SmallP (kg : SV → List Int) (tp : SV → List (SV × Int)) (h : SV) : Prop := ((tp h).length ≤ 20 ∧ ∀ p ∈ tp h, (kg p.1).length ≤ 8) ∧ Ris kg (tp h)
instance {kg : SV → List Int} {tp : SV → List (SV × Int)} {h : SV} : Decidable (SmallP kg tp h) := inferInstanceAs (Decidable (_ ∧ _))
instance SubI.here {R I : Foot} : SubI (R ++ I) R := ⟨fun _ h => List.mem_append_left _ h⟩
theorem fold_cell {kg : SV → List Int} : ∀ (ps : List (SV × Int)) (a : List (SV × Int)), (ps.foldl (putL kg) a).map (moP kg) = (ps.map (moP kg)).foldl putM (a.map (moP kg))
  | [], a => rfl
  | p :: ps, a => by rw [List.foldl_cons, fold_cell ps, List.map_cons, List.foldl_cons]; congr 1; exact map_put a
end Go.Proofs.YtamnobjdgjbmbaaGreat
namespace Go.Fw
open Go Go.RowKit
set_option linter.unusedVariables false
set_option linter.unusedSimpArgs false
section
variable {P : Program} {ρ : Env} {A : World → Prop} {ty : TypeId}
theorem P_shl {x y : Operand} {t u : TypeId} {k k' : IntKind} {a : Int} {s : Nat} (h1 : evalE ρ x = .int k a) (h2 : evalE ρ y = .int k' (s : Int)) (hs : s ≤ k.bits) : OpP P ρ (.binOp .shl t x y u) ty A (.int k (k.wrap (a * 2 ^ s))) := by
  intro d pos af g w _
  have e : min s k.bits = s := by omega
  simp [execOp, eqGuard, binOp, h1, h2, Op.shift, e, go_sem]
  rw [if_neg (by omega)]
  cases k <;> simp_all [IntKind.bits]
class Pow2 (s : Int) (m : outParam Int) : Prop where
  out : (2 : Int) ^ s.toNat = m ∧ 0 ≤ s ∧ s ≤ 62
instance : Pow2 16 65536 := ⟨by decide⟩
instance : Pow2 8 256 := ⟨by decide⟩
instance {x y : Operand} {t u : TypeId} {k' : IntKind} {a s m : Int} [h1 : Ev ρ x (.int .i64 a)] [h2 : Ev ρ y (.int k' s)] [hp : Pow2 s m] : OpM P ρ A (.binOp .shl t x y u) ty (.int .i64 (a * m)) (-9223372036854775808 ≤ a * m ∧ a * m ≤ 9223372036854775807) := ⟨fun h => by
  have h3 := P_shl (P := P) (A := A) (ty := ty) (t := t) (u := u) (s := s.toNat) h1.out (by rw [h2.out]; congr 1; have := hp.out.2.1; omega) (by have := hp.out.2.2; simp [IntKind.bits]; omega)
  rw [hp.out.1, wrap_i64 h] at h3
  exact h3⟩
end
theorem or_i64 {a b : Int} (k : Nat) (ha : 0 ≤ a ∧ a < 4611686018427387904) (hb : 0 ≤ b ∧ b < 2 ^ k) (hd : a % 2 ^ k = 0) (hk : k ≤ 62) : Go.bits .or .i64 a b = a + b := by
  obtain ⟨m, rfl⟩ := Int.eq_ofNat_of_zero_le ha.1
  obtain ⟨n, rfl⟩ := Int.eq_ofNat_of_zero_le hb.1
  have hn : n < 2 ^ k := by exact_mod_cast hb.2
  have hm : m % 2 ^ k = 0 := by exact_mod_cast hd
  have hp : (2 : Nat) ^ k ≤ 2 ^ 62 := Nat.pow_le_pow_right (by decide) hk
  have h62 : (2 : Nat) ^ 62 = 4611686018427387904 := by decide
  have hmm : m < 4611686018427387904 := by have := ha.2; omega
  have hor : m ||| n = m + n := by
    have e : m = 2 ^ k * (m / 2 ^ k) := by have := Nat.div_add_mod m (2 ^ k); omega
    rw [e]; exact (Nat.two_pow_add_eq_or_of_lt hn _).symm
  have h1 : (BitVec.ofInt 64 (m : Int)).toNat = m := by
    rw [BitVec.ofInt_natCast, BitVec.toNat_ofNat]; exact Nat.mod_eq_of_lt (by omega)
  have h2 : (BitVec.ofInt 64 (n : Int)).toNat = n := by
    rw [BitVec.ofInt_natCast, BitVec.toNat_ofNat]; exact Nat.mod_eq_of_lt (by omega)
  show IntKind.i64.wrap ((BitVec.ofInt 64 (m : Int) ||| BitVec.ofInt 64 (n : Int)).toNat : Int) = _
  rw [BitVec.toNat_or, h1, h2, hor]
  have := wrap_i64 (a := ((m + n : Nat) : Int)) (by omega)
  rw [this]; omega
end Go.Fw
