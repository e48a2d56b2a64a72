/- Counts of all orders, by the reference; adjusted counts, without memory. Conditions: none. -/
import Derived.Test.YtlodbajaoadhdaaAd7
import Derived.Test.YtlodbajaoadhdaaWi0
namespace Go.Proofs.Ytlodbajaoadhdaa
open Go Go.Fw Go.RowKit
set_option linter.unusedVariables false
set_option linter.unusedSimpArgs false
set_option maxRecDepth 100000
set_option maxHeartbeats 16000000
set_option synthInstance.maxHeartbeats 200000
set_option synthInstance.maxSize 100000
attribute [local irreducible] WPA WLA WDA WDQ WDE QQ seqQ blockQ loopQ fnQ OpP OpT Tr TrP SL SLd OwnS LitS Bk BkE Ob
attribute [local irreducible] RowH
/-- The counts of an order. -/
def ordN (gs : List (List Int)) (n : Int) : List Ct := ((eachL gs n).map fun g => (g, (1 : Int))).foldl putM []
def ordA (gs : List (List Int)) (most : Nat) : List (List Ct) := (List.range most).map fun j : Nat => ordN gs ((j : Int) + 1)
section
variable {L : List HP} {w0 : World} {I : Foot}
theorem Count22_tr {s : SV} {hs : List SV} {gs : List (List Int)} {n : Int} [hr : SlI I s SV inferInstance hs] (hg : GsI I hs gs) (hn : hs.length ≤ 1000) (hl : ∀ g ∈ gs, g.length ≤ 1000) (hE : (eachL gs n).length ≤ 100000) :
    Tr Try.prog 111 #[.slice s.a s.n s.cap, .int .i64 n] (SL w0 I L) (fun x : SV × List Cn => .slice x.1.a x.1.n x.1.cap)
      (fun x w => (x.2.map (moP (rd Int I)) = ordN gs n ∧ GrG I (rd Int I) x.2) ∧ SL w0 I (OwnS 80 x.1 x.2 :: L) w) := by
  refine Tr.intro Try.func111 rfl Try.ntmps111 rfl ?_
  have hEl : ∀ g ∈ eachL gs n, g.length ≤ 1000 := eachL_sz hl
  repeat' (first | ((first | refine WLA.m rfl rfl ?_ ?_ | refine WLA.st rfl ?_ ?_ | refine WLA.x rfl rfl ?_ (fun x => ?_) | refine WLA.x0 rfl ?_ (fun x => ?_)); first | exact trivial | exact rfl | assumption | omega | (refine ⟨?_, ?_⟩ <;> omega) | (simp only [Room, List.length_set, List.length_append, List.length_cons, List.length_nil, List.length_replicate]; omega) | decide | skip) | (refine Stp.go ?_) | (guard_target =~ WLA _ _ _ _ _ (⟨_, .call ⟨.value (.func 140), _, _⟩, _, _, _, _⟩ :: _) _ _; first | (refine WLA.call rfl rfl (rEach_tr hg hn hl) ?_; rintro ⟨⟨r0, os⟩, hos⟩; dsimp only at hos ⊢) | (refine WLA.call0 rfl (rEach_tr hg hn hl) ?_; rintro ⟨⟨r0, os⟩, hos⟩; dsimp only at hos ⊢)) | (refine WPA.ifT ?_) | (refine WPA.ifF ?_) | ((first | refine WPA.dec ?_); first | refine .inl ⟨by first | assumption | omega | with_reducible rfl | (refine fun h => h ?_; first | assumption | with_reducible rfl) | (simp only [List.length_append, List.length_cons, List.length_nil, List.length_set] <;> omega) | decide, ?_⟩ | refine .inr ⟨by first | assumption | omega | with_reducible rfl | (refine fun h => h ?_; first | assumption | with_reducible rfl) | (simp only [List.length_append, List.length_cons, List.length_nil, List.length_set] <;> omega) | decide, ?_⟩) | ((first | refine WPA.ifBt ?_ ?_ | refine WPA.ifBnf ?_ ?_); assumption) | ((first | refine WPA.ifBnt ?_ ?_ | refine WPA.ifBf ?_ ?_); assumption) | ((first | refine WPA.ifs ?_ ?_ | refine WPA.ifB ?_ ?_) <;> intro hc))
  refine WPA.know (φ := ∀ i : Nat, i < os.length → rd Int I (at_ os (i : Int)) = (eachL gs n).getD i []) (fun w hw i hi => (hos.2 i hi).rd.det (hos.2 i hi) hw) fun he => ?_
  obtain ⟨hol, hos⟩ := hos
  unfold ordN
  generalize eachL gs n = E at hE hEl hos hol he
  refine WPA.loopS (σ := Nat × SV × List Cn) (fun y => [(5, .slice y.2.1.a y.2.1.n y.2.1.cap), (6, .slice r0.a r0.n r0.cap), (7, .int .i64 y.1)])
    (fun y => (y.1 ≤ os.length ∧ y.2.2.length ≤ y.1) ∧ y.2.2.map (moP (rd Int I)) = ((E.take y.1).map fun g => (g, (1 : Int))).foldl putM [] ∧ Ris (rd Int I) y.2.2 ∧ ∀ p ∈ y.2.2, SlI I p.1 Int inferInstance (rd Int I p.1) ∧ (rd Int I p.1).length ≤ 1000000)
    (fun y => SL w0 I (OwnS 80 y.2.1 y.2.2 :: OwnS 30 r0 os :: L)) (fun y => os.length - y.1) (0, SV.nil, []) ⟨rfl, rfl, rfl, trivial⟩ ⟨⟨Nat.zero_le _, Nat.le_refl _⟩, rfl, List.Pairwise.nil, by simp⟩ (fun w h => h.to) ?_
  rintro ⟨i, r, o⟩ ρ ⟨⟨hi, ho⟩, h1, h2, h3⟩
  dsimp only at hi ho h1 h2 h3 ⊢
  by_cases hlt : i < os.length
  · have hlt' : (i : Int) < os.length := by omega
    have hsi := (hos i hlt).rd
    have hei := he i hlt
    have hiE : i < E.length := by omega
    have hgl : (rd Int I (at_ os (i : Int))).length ≤ 1000000 := by
      rw [hei, List.getD_eq_getElem?_getD, List.getElem?_eq_getElem hiE]
      have := hEl _ (List.getElem_mem hiE); simp only [Option.getD_some]; omega
    have hpg := putG_put (f := rd Int I) (x := (at_ os (i : Int), (1 : Int))) h2
    have hgr := putL_grg (kg := rd Int I) (G := fun s => SlI I s Int inferInstance (rd Int I s) ∧ (rd Int I s).length ≤ 1000000) h3 (x := (at_ os (i : Int), (1 : Int))) ⟨hsi, hgl⟩
    have hlen : (putL (rd Int I) o (at_ os (i : Int), 1)).length ≤ o.length + 1 := putL_len o
    have h3a : GrG I (rd Int I) o := fun p hp => (h3 p hp).1
    have h3b : ∀ p ∈ o, (rd Int I p.1).length ≤ 1000000 := fun p hp => (h3 p hp).2
    have h1' : (putL (rd Int I) o (at_ os (i : Int), 1)).map (moP (rd Int I)) = ((E.take (i + 1)).map fun g => (g, (1 : Int))).foldl putM [] := by
      rw [show moP (rd Int I) = fun p => (rd Int I p.1, p.2) from rfl, map_put, List.take_add_one, List.getElem?_eq_getElem hiE, List.map_append, List.foldl_append, ← h1]
      show putM _ (rd Int I (at_ os (i : Int)), 1) = putM _ (E[i], 1)
      rw [hei, List.getD_eq_getElem?_getD, List.getElem?_eq_getElem hiE]; rfl
    repeat' (first | ((first | refine WLA.m rfl rfl ?_ ?_ | refine WLA.st rfl ?_ ?_ | refine WLA.x rfl rfl ?_ (fun x => ?_) | refine WLA.x0 rfl ?_ (fun x => ?_)); first | exact trivial | exact rfl | assumption | omega | (refine ⟨?_, ?_⟩ <;> omega) | (simp only [Room, List.length_set, List.length_append, List.length_cons, List.length_nil, List.length_replicate]; omega) | decide | skip) | (refine Stp.go ?_) | (guard_target =~ WLA _ _ _ _ _ (⟨_, .call ⟨.value (.func 101), _, _⟩, _, _, _, _⟩ :: _) _ _; first | (refine WLA.call rfl rfl (rPut_tr (xg := at_ os (i : Int)) (xn := 1) h3a h3b hsi hgl (by omega)) ?_; rintro r2; rw [hpg]) | (refine WLA.call0 rfl (rPut_tr (xg := at_ os (i : Int)) (xn := 1) h3a h3b hsi hgl (by omega)) ?_; rintro r2; rw [hpg])) | (refine WPA.ifT ?_) | (refine WPA.ifF ?_) | ((first | refine WPA.dec ?_); first | refine .inl ⟨by first | assumption | omega | with_reducible rfl | (refine fun h => h ?_; first | assumption | with_reducible rfl) | (simp only [List.length_append, List.length_cons, List.length_nil, List.length_set] <;> omega) | decide, ?_⟩ | refine .inr ⟨by first | assumption | omega | with_reducible rfl | (refine fun h => h ?_; first | assumption | with_reducible rfl) | (simp only [List.length_append, List.length_cons, List.length_nil, List.length_set] <;> omega) | decide, ?_⟩) | ((first | refine WPA.ifBt ?_ ?_ | refine WPA.ifBnf ?_ ?_); assumption) | ((first | refine WPA.ifBnt ?_ ?_ | refine WPA.ifBf ?_ ?_); assumption) | ((first | refine WPA.ifs ?_ ?_ | refine WPA.ifB ?_ ?_) <;> intro hc))
    exact QQ.loopS (i + 1, r2, putL (rd Int I) o (at_ os (i : Int), 1)) ⟨rfl, rfl, rfl, trivial⟩ ⟨⟨hlt, by dsimp only; omega⟩, h1', putL_ris h2, hgr⟩ (by dsimp only; omega) (fun w h => h.to)
  · have hlt' : ¬ (i : Int) < os.length := by omega
    rw [List.take_of_length_le (by omega)] at h1
    repeat' (first | ((first | refine WLA.m rfl rfl ?_ ?_ | refine WLA.st rfl ?_ ?_ | refine WLA.x rfl rfl ?_ (fun x => ?_) | refine WLA.x0 rfl ?_ (fun x => ?_)); first | exact trivial | exact rfl | assumption | omega | (refine ⟨?_, ?_⟩ <;> omega) | (simp only [Room, List.length_set, List.length_append, List.length_cons, List.length_nil, List.length_replicate]; omega) | decide | skip) | (refine Stp.go ?_) | (refine WPA.ifT ?_) | (refine WPA.ifF ?_) | ((first | refine WPA.dec ?_); first | refine .inl ⟨by first | assumption | omega | with_reducible rfl | (refine fun h => h ?_; first | assumption | with_reducible rfl) | (simp only [List.length_append, List.length_cons, List.length_nil, List.length_set] <;> omega) | decide, ?_⟩ | refine .inr ⟨by first | assumption | omega | with_reducible rfl | (refine fun h => h ?_; first | assumption | with_reducible rfl) | (simp only [List.length_append, List.length_cons, List.length_nil, List.length_set] <;> omega) | decide, ?_⟩) | ((first | refine WPA.ifBt ?_ ?_ | refine WPA.ifBnf ?_ ?_); assumption) | ((first | refine WPA.ifBnt ?_ ?_ | refine WPA.ifBf ?_ ?_); assumption) | ((first | refine WPA.ifs ?_ ?_ | refine WPA.ifB ?_ ?_) <;> intro hc))
    exact QQ.end_ rfl (r, o) rfl fun w h => ⟨⟨h1, fun p hp => (h3 p hp).1⟩, h.to⟩
theorem Orders_tr {s : SV} {hs : List SV} {gs : List (List Int)} {z : Int} {most : Nat} [hr : SlI I s SV inferInstance hs] (hz : z = (most : Int)) (hg : GsI I hs gs) (hn : hs.length ≤ 1000) (hl : ∀ g ∈ gs, g.length ≤ 1000) (hE : ∀ j : Nat, j < most → (eachL gs ((j : Int) + 1)).length ≤ 100000) (hm : most ≤ 1000) :
    Tr Try.prog 70 #[.slice s.a s.n s.cap, .int .i64 z] (SL w0 I L) (fun x : SV × Foot => .slice x.1.a x.1.n x.1.cap) (fun x w => (SubI x.2 I ∧ LstsI x.2 x.1 (ordA gs most)) ∧ SL w0 x.2 L w) := by
  refine Tr.intro Try.func70 rfl Try.ntmps70 rfl ?_
  subst hz
  repeat' (first | ((first | refine WLA.m rfl rfl ?_ ?_ | refine WLA.st rfl ?_ ?_ | refine WLA.x rfl rfl ?_ (fun x => ?_) | refine WLA.x0 rfl ?_ (fun x => ?_)); first | exact trivial | exact rfl | assumption | omega | (refine ⟨?_, ?_⟩ <;> omega) | (simp only [Room, List.length_set, List.length_append, List.length_cons, List.length_nil, List.length_replicate]; omega) | decide | skip) | (refine Stp.go ?_) | (refine WPA.ifT ?_) | (refine WPA.ifF ?_) | ((first | refine WPA.dec ?_); first | refine .inl ⟨by first | assumption | omega | with_reducible rfl | (refine fun h => h ?_; first | assumption | with_reducible rfl) | (simp only [List.length_append, List.length_cons, List.length_nil, List.length_set] <;> omega) | decide, ?_⟩ | refine .inr ⟨by first | assumption | omega | with_reducible rfl | (refine fun h => h ?_; first | assumption | with_reducible rfl) | (simp only [List.length_append, List.length_cons, List.length_nil, List.length_set] <;> omega) | decide, ?_⟩) | ((first | refine WPA.ifBt ?_ ?_ | refine WPA.ifBnf ?_ ?_); assumption) | ((first | refine WPA.ifBnt ?_ ?_ | refine WPA.ifBf ?_ ?_); assumption) | ((first | refine WPA.ifs ?_ ?_ | refine WPA.ifB ?_ ?_) <;> intro hc))
  refine WPA.loopS (σ := RS) (fun y => [(0, .slice s.a s.n s.cap), (1, .int .i64 most), (5, .slice y.out.a y.out.n y.out.cap), (6, .int .i64 ((y.n : Int) + 1))])
    (fun y => (y.n ≤ most ∧ y.vs.length = y.n) ∧ SubI y.J I ∧ ∀ j : Nat, j < y.n → LstI y.J (at_ y.vs (j : Int)) (ordN gs ((j : Int) + 1)))
    (fun y => SL w0 y.J (OwnS 61 y.out y.vs :: L)) (fun y => most - y.n) ⟨0, I, SV.nil, []⟩ ⟨rfl, rfl, rfl, rfl, trivial⟩ ⟨⟨Nat.zero_le _, rfl⟩, inferInstance, fun j hj => absurd hj (Nat.not_lt_zero _)⟩ (fun w h => h.to) ?_
  rintro ⟨n, J, out, vs⟩ ρ ⟨⟨hni, hvl⟩, hJ, hL⟩
  dsimp only at hni hvl hJ hL ⊢
  haveI := hJ
  haveI hrJ : SlI J s SV inferInstance hs := hr.sub
  have hgJ : GsI J hs gs := hg.sub
  by_cases hlt : n < most
  · have hlt' : (n : Int) + 1 ≤ most := by omega
    have hEn := hE n hlt
    repeat' (first | ((first | refine WLA.m rfl rfl ?_ ?_ | refine WLA.st rfl ?_ ?_ | refine WLA.x rfl rfl ?_ (fun x => ?_) | refine WLA.x0 rfl ?_ (fun x => ?_)); first | exact trivial | exact rfl | assumption | omega | (refine ⟨?_, ?_⟩ <;> omega) | (simp only [Room, List.length_set, List.length_append, List.length_cons, List.length_nil, List.length_replicate]; omega) | decide | skip) | (refine Stp.go ?_) | (guard_target =~ WLA _ _ _ _ _ (⟨_, .call ⟨.value (.func 111), _, _⟩, _, _, _, _⟩ :: _) _ _; first | (refine WLA.call rfl rfl (Count22_tr hgJ hn hl hEn) ?_; rintro ⟨r, cs⟩; refine WLA.pure fun hx => ?_; dsimp only at hx ⊢; refine WLA.freeze fun R hR => ?_) | (refine WLA.call0 rfl (Count22_tr hgJ hn hl hEn) ?_; rintro ⟨r, cs⟩; refine WLA.pure fun hx => ?_; dsimp only at hx ⊢; refine WLA.freeze fun R hR => ?_)) | (refine WPA.ifT ?_) | (refine WPA.ifF ?_) | ((first | refine WPA.dec ?_); first | refine .inl ⟨by first | assumption | omega | with_reducible rfl | (refine fun h => h ?_; first | assumption | with_reducible rfl) | (simp only [List.length_append, List.length_cons, List.length_nil, List.length_set] <;> omega) | decide, ?_⟩ | refine .inr ⟨by first | assumption | omega | with_reducible rfl | (refine fun h => h ?_; first | assumption | with_reducible rfl) | (simp only [List.length_append, List.length_cons, List.length_nil, List.length_set] <;> omega) | decide, ?_⟩) | ((first | refine WPA.ifBt ?_ ?_ | refine WPA.ifBnf ?_ ?_); assumption) | ((first | refine WPA.ifBnt ?_ ?_ | refine WPA.ifBf ?_ ?_); assumption) | ((first | refine WPA.ifs ?_ ?_ | refine WPA.ifB ?_ ?_) <;> intro hc))
    refine QQ.loopS ⟨n + 1, R ++ J, x, vs ++ [r]⟩ ⟨rfl, rfl, rfl, rfl, trivial⟩ ⟨⟨hlt, by simp [hvl]⟩, inferInstance, fun j hj => ?_⟩ (by dsimp only; omega) (fun w h => h.to)
    dsimp only at hj ⊢
    rcases Nat.lt_or_ge j n with h1 | h1
    · rw [at_nat _ j (by simp; omega), List.getElem_append_left (by omega), ← at_nat vs j (by omega)]
      exact (hL j h1).sub inferInstance
    · have hjn : j = n := by omega
      subst hjn
      rw [at_nat _ j (by simp; omega), List.getElem_append_right (by omega)]
      simp only [hvl, Nat.sub_self, List.getElem_singleton]
      have hcur := SlI.ofOwn hR
      rw [← hx.1]
      exact LstI.ofMap SlI.left fun p hp => (hx.2 p hp).sub
  · have hlt' : ¬ (n : Int) + 1 ≤ most := by omega
    have hne : n = most := by omega
    subst hne
    repeat' (first | ((first | refine WLA.m rfl rfl ?_ ?_ | refine WLA.st rfl ?_ ?_ | refine WLA.x rfl rfl ?_ (fun x => ?_) | refine WLA.x0 rfl ?_ (fun x => ?_)); first | exact trivial | exact rfl | assumption | omega | (refine ⟨?_, ?_⟩ <;> omega) | (simp only [Room, List.length_set, List.length_append, List.length_cons, List.length_nil, List.length_replicate]; omega) | decide | skip) | (refine Stp.go ?_) | (refine WPA.ifT ?_) | (refine WPA.ifF ?_) | ((first | refine WPA.dec ?_); first | refine .inl ⟨by first | assumption | omega | with_reducible rfl | (refine fun h => h ?_; first | assumption | with_reducible rfl) | (simp only [List.length_append, List.length_cons, List.length_nil, List.length_set] <;> omega) | decide, ?_⟩ | refine .inr ⟨by first | assumption | omega | with_reducible rfl | (refine fun h => h ?_; first | assumption | with_reducible rfl) | (simp only [List.length_append, List.length_cons, List.length_nil, List.length_set] <;> omega) | decide, ?_⟩) | ((first | refine WPA.ifBt ?_ ?_ | refine WPA.ifBnf ?_ ?_); assumption) | ((first | refine WPA.ifBnt ?_ ?_ | refine WPA.ifBf ?_ ?_); assumption) | ((first | refine WPA.ifs ?_ ?_ | refine WPA.ifB ?_ ?_) <;> intro hc))
    refine QQ.freeze fun R hR => ?_
    refine QQ.end_ rfl (out, R ++ J) rfl fun w h => ⟨⟨inferInstance, ?_⟩, h⟩
    have hcur := SlI.ofOwn hR
    have hol : (ordA gs n).length = n := by unfold ordA; rw [List.length_map, List.length_range]
    refine ⟨vs, SlI.left, by rw [hol]; exact hvl, fun i hi => ?_⟩
    rw [hol] at hi
    unfold ordA
    rw [List.getD_eq_getElem?_getD, List.getElem?_map, List.getElem?_range hi]
    exact (hL i hi).sub inferInstance
end
/-! ### Without memory -/
/-- What lists of lists hold, by where they lie. -/
theorem LstsI.nst {J : Foot} {s : SV} {A : List (List Ct)} (h : LstsI J s A) {w0 : World} {L : List HP} {w : World} (hw : SL w0 J L w) :
    ∃ vs : List SV, SlI J s SV inferInstance vs ∧ NstI J (rd Int J) (rd Cn J) vs ∧ vs.map (fun v => (rd Cn J v).map (moP (rd Int J))) = A := by
  obtain ⟨vs, h1, h2, h3⟩ := h
  have key : ∀ i (hi : i < vs.length), (SlI J vs[i] Cn inferInstance (rd Cn J vs[i]) ∧ GrG J (rd Int J) (rd Cn J vs[i])) ∧ (rd Cn J vs[i]).map (moP (rd Int J)) = A[i]'(by omega) := by
    intro i hi
    obtain ⟨cs, k1, k2, k3⟩ := h3 i (by omega)
    rw [at_nat vs i hi] at k1
    rw [List.getD_eq_getElem?_getD, List.getElem?_eq_getElem (show i < A.length by omega), Option.getD_some] at k2 k3
    have e := k1.rd.det k1 hw
    have e1 : cs.length = (A[i]'(by omega)).length := by have := congrArg List.length k2; simpa using this
    rw [e]
    refine ⟨⟨k1, fun p hp => ?_⟩, ?_⟩
    · obtain ⟨j, hj, rfl⟩ := List.getElem_of_mem hp
      have := k3 j hj
      rw [at_nat cs j hj] at this
      exact this.rd
    · refine List.ext_getElem (by simp [e1]) fun j j1 j2 => ?_
      rw [List.length_map] at j1
      have q := k3 j j1
      rw [at_nat cs j j1, List.getD_eq_getElem?_getD, List.getElem?_eq_getElem j2, Option.getD_some] at q
      have q2 := congrArg (fun l => l[j]?) k2
      simp only [List.getElem?_map, List.getElem?_eq_getElem j1, List.getElem?_eq_getElem j2, Option.map_some] at q2
      rw [List.getElem_map]
      exact Prod.ext (q.rd.det q hw) (by injection q2)
  refine ⟨vs, h1, fun v hv => ?_, List.ext_getElem (by simp [h2]) fun i i1 i2 => ?_⟩
  · obtain ⟨i, hi, rfl⟩ := List.getElem_of_mem hv
    exact (key i hi).1
  · rw [List.getElem_map]
    exact (key i (by omega)).2
def aheadP (l : List Ct) (g : List Int) : Int := (l.countP fun c => decide (c.1.drop 1 = g) : Nat)
def adjP (A : List (List Ct)) (n : Nat) : List Ct := (A.getD n []).map fun c => (c.1, if n + 1 < A.length ∧ at_ c.1 0 ≠ 1 then aheadP (A.getD (n + 1) []) c.1 else c.2)
def adjsP (A : List (List Ct)) : List (List Ct) := (List.range A.length).map (adjP A)
def OkP (n : Nat) (l : List Ct) : Prop := (∀ c ∈ l, c.1.length = n + 1 ∧ 1 ≤ c.2) ∧ Ris id l
theorem okP_iff {kg : SV → List Int} {n : Nat} {ps : List Cn} : OkP n (ps.map (moP kg)) ↔ OkL kg n ps := by
  unfold OkP OkL
  rw [ris_id]
  constructor
  · rintro ⟨h1, h2⟩
    exact ⟨fun p hp => h1 (moP kg p) (List.mem_map_of_mem hp), h2⟩
  · rintro ⟨h1, h2⟩
    refine ⟨fun c hc => ?_, h2⟩
    obtain ⟨p, hp, rfl⟩ := List.mem_map.1 hc
    exact h1 p hp
section
variable {kg : SV → List Int} {pg : SV → List Cn} {hs : List SV} {A : List (List Ct)}
theorem at_A (hA : hs.map (fun v => (pg v).map (moP kg)) = A) {n : Nat} (hn : n < hs.length) : (pg (at_ hs (n : Int))).map (moP kg) = A.getD n [] := by
  rw [← hA, List.getD_eq_getElem?_getD, List.getElem?_map, List.getElem?_eq_getElem hn, at_nat hs n hn]; rfl
theorem adj_pure (hA : hs.map (fun v => (pg v).map (moP kg)) = A) : adjA kg pg hs = adjsP A := by
  have hl : A.length = hs.length := by rw [← hA, List.length_map]
  unfold adjA adjsP
  rw [hl]
  refine List.map_congr_left fun n hn => ?_
  have hn := List.mem_range.1 hn
  unfold adjN adjP
  rw [← at_A hA hn, List.map_map]
  refine List.map_congr_left fun p hp => ?_
  show (kg p.1, valN kg pg hs n p) = (kg p.1, _)
  congr 1
  unfold valN
  rw [hl]
  show _ = if n + 1 < hs.length ∧ at_ (kg p.1) 0 ≠ 1 then _ else p.2
  by_cases h : n + 1 < hs.length
  · have h' : (n : Int) + 1 < hs.length := by omega
    simp only [h, h', true_and]
    split
    · rw [← at_A hA h, show ((n + 1 : Nat) : Int) = (n : Int) + 1 by omega]
      unfold aheadN aheadP
      rw [List.countP_map]; rfl
    · rfl
  · have h' : ¬ (n : Int) + 1 < hs.length := by omega
    simp only [h, h', false_and, if_false]
theorem wL_zero {n : Nat} {ps : List Cn} (h : OkL kg n ps) : ∀ k i, ps.length - i ≤ k → wL kg n ps i = 0 := by
  intro k
  induction k with
  | zero => intro i hk; rw [wL, if_neg (by omega)]
  | succ k ih =>
    intro i hk
    rw [wL]
    by_cases hi : i < ps.length
    · have h0 : wI kg n ps i = 0 := by
        have h1 := h.1 _ (List.getElem_mem hi)
        unfold wI
        rw [at_nat ps i hi, if_neg (by omega), if_neg (by omega)]
        by_cases h2 : 0 < i
        · obtain ⟨j, rfl⟩ : ∃ j, i = j + 1 := ⟨i - 1, by omega⟩
          have h3 := List.pairwise_iff_getElem.1 h.2 j (j + 1) (by omega) hi (by omega)
          rw [show ((j + 1 : Nat) : Int) - 1 = (j : Int) by omega, at_nat ps j (by omega), if_neg]
          unfold ltL at h3; omega
        · rw [if_neg (fun h => h2 h.1)]
      rw [if_pos hi, if_pos h0]
      exact ih (i + 1) (by omega)
    · rw [if_neg hi]
theorem wrong_zero (hA : hs.map (fun v => (pg v).map (moP kg)) = A) (h0 : 0 < A.length ∧ A.length ≤ 8) (h : ∀ n, n < A.length → OkP n (A.getD n [])) : wrongN kg pg hs = 0 := by
  have hl : A.length = hs.length := by rw [← hA, List.length_map]
  have key : ∀ k i, hs.length - i ≤ k → wN kg pg hs i = 0 := by
    intro k
    induction k with
    | zero => intro i hk; rw [wN, if_neg (by omega)]
    | succ k ih =>
      intro i hk
      rw [wN]
      by_cases hi : i < hs.length
      · have hO := h i (by omega)
        rw [← at_A hA hi] at hO
        rw [if_pos hi, if_pos (wL_zero (okP_iff.1 hO) _ 0 (Nat.le_refl _))]
        exact ih (i + 1) (by omega)
      · rw [if_neg hi]
  unfold wrongN
  rw [if_neg (by omega)]
  exact key hs.length 0 (by omega)
end
end Go.Proofs.Ytlodbajaoadhdaa
