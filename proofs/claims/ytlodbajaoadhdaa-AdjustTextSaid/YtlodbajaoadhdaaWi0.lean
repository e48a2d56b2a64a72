/- The reference's n-grams of lists. Conditions: none. -/
import Derived.Test.YtlodbajaoadhdaaMg3
namespace Go.Proofs.Ytlodbajaoadhdaa
open Go Go.Fw Go.RowKit
set_option linter.unusedVariables false
set_option linter.unusedSimpArgs false
set_option maxRecDepth 100000
set_option maxHeartbeats 16000000
set_option synthInstance.maxHeartbeats 200000
set_option synthInstance.maxSize 100000
attribute [local irreducible] WPA WLA WDA WDQ WDE QQ seqQ blockQ loopQ fnQ OpP OpT Tr TrP SL SLd OwnS LitS Bk BkE Ob
/-- How many n-grams there are. -/
def gramN (p : List Int) (n : Int) : Nat := if n < 1 then 0 else p.length + 1 - n.toNat
/-- The n-gram at i. -/
abbrev gramA (p : List Int) (n : Int) (i : Nat) : List Int := cutL p (i : Int) ((i : Int) + n)
def gramsL (p : List Int) (n : Int) : List (List Int) := (List.range (gramN p n)).map (gramA p n)
theorem gramsL_len (p : List Int) (n : Int) : (gramsL p n).length = gramN p n := by simp [gramsL]
theorem gramsL_get {p : List Int} {n : Int} {i : Nat} (h : i < gramN p n) : (gramsL p n).getD i [] = gramA p n i := by
  simp [gramsL, List.getD_eq_getElem?_getD, h]
theorem gramN_le (p : List Int) (n : Int) : gramN p n ≤ p.length := by unfold gramN; split <;> omega
theorem gramA_len {p : List Int} {n : Int} {i : Nat} (h : i < gramN p n) : (gramA p n i).length = n.toNat := by
  unfold gramN at h
  split at h
  · omega
  · unfold gramA cutL
    rw [if_pos (by omega), List.length_take, List.length_drop]; omega
/-- Slices of numbers, there for good. -/
def GsI (J : Foot) (hs : List SV) (gs : List (List Int)) : Prop := hs.length = gs.length ∧ ∀ i : Nat, i < hs.length → SlI J (at_ hs (i : Int)) Int inferInstance (gs.getD i [])
theorem GsI.snoc {J : Foot} {hs : List SV} {gs : List (List Int)} {h : SV} {g : List Int} (k : GsI J hs gs) (hg : SlI J h Int inferInstance g) : GsI J (hs ++ [h]) (gs ++ [g]) := by
  refine ⟨by simp [k.1], fun i hi => ?_⟩
  rw [at_nat _ i hi, List.getElem_append, List.getD_eq_getElem?_getD, List.getElem?_append]
  by_cases e : i < hs.length
  · rw [dif_pos e, if_pos (by rw [← k.1]; exact e), ← List.getD_eq_getElem?_getD, ← at_nat hs i e]; exact k.2 i e
  · rw [dif_neg e, if_neg (by rw [← k.1]; exact e)]
    have h0 : i - gs.length = 0 := by have := k.1; simp at hi; omega
    rw [h0]; simpa using hg
theorem GsI.app {J : Foot} {hs hs2 : List SV} {gs gs2 : List (List Int)} (k : GsI J hs gs) (k2 : GsI J hs2 gs2) : GsI J (hs ++ hs2) (gs ++ gs2) := by
  refine ⟨by simp [k.1, k2.1], fun i hi => ?_⟩
  rw [at_nat _ i hi, List.getElem_append, List.getD_eq_getElem?_getD, List.getElem?_append]
  by_cases e : i < hs.length
  · rw [dif_pos e, if_pos (by rw [← k.1]; exact e), ← List.getD_eq_getElem?_getD, ← at_nat hs i e]; exact k.2 i e
  · rw [dif_neg e, if_neg (by rw [← k.1]; exact e), ← List.getD_eq_getElem?_getD]
    have h0 : i - gs.length = i - hs.length := by rw [k.1]
    have hl : i - hs.length < hs2.length := by rw [List.length_append] at hi; omega
    rw [h0, ← at_nat hs2 (i - hs.length) hl]
    exact k2.2 _ hl
theorem GsI.sub {J J' : Foot} {hs : List SV} {gs : List (List Int)} (k : GsI J hs gs) [s : SubI J' J] : GsI J' hs gs := ⟨k.1, fun i hi => (k.2 i hi).sub⟩
/-- The n-grams of all lists. -/
def eachL (gs : List (List Int)) (n : Int) : List (List Int) := gs.flatMap fun p => gramsL p n
theorem eachL_le {n : Int} {m : Nat} : ∀ {gs : List (List Int)}, (∀ g ∈ gs, g.length ≤ m) → (eachL gs n).length ≤ gs.length * m
  | [], _ => by simp [eachL]
  | g :: gs, h => by
    have h1 := h g (List.mem_cons_self ..)
    have h2 := eachL_le (n := n) (gs := gs) fun x hx => h x (List.mem_cons_of_mem _ hx)
    have h3 := gramN_le g n
    unfold eachL at h2 ⊢
    rw [List.flatMap_cons, List.length_append, gramsL_len, List.length_cons, Nat.add_mul]; omega
theorem eachL_sz {n : Int} {m : Nat} {gs : List (List Int)} (h : ∀ g ∈ gs, g.length ≤ m) : ∀ x ∈ eachL gs n, x.length ≤ m := by
  intro x hx
  obtain ⟨g, hg, hx⟩ := List.mem_flatMap.1 hx
  obtain ⟨i, hi, rfl⟩ := List.mem_map.1 hx
  have := h g hg
  unfold gramA cutL
  split
  · rw [List.length_take, List.length_drop]; omega
  · simp
structure EC where
  i : Nat
  c : Int
section
variable {L L' : List HP} {w0 : World} {I : Foot}
theorem rGrams_tr {s : SV} {p : List Int} {n : Int} [hr : SlI I s Int inferInstance p] (hp : p.length ≤ 1000000) :
    Tr Try.prog 177 #[.slice s.a s.n s.cap, .int .i64 n] (SL w0 I L) (fun x : SV × List SV => .slice x.1.a x.1.n x.1.cap) (fun x w => GsI I x.2 (gramsL p n) ∧ SL w0 I (OwnS 30 x.1 x.2 :: L) w) := by
  refine Tr.intro Try.func177 rfl Try.ntmps177 rfl ?_
  by_cases hn : n < 1
  · have e : gramsL p n = [] := by unfold gramsL gramN; rw [if_pos hn]; rfl
    rw [e]
    repeat' (first | ((first | refine WLA.m rfl rfl ?_ ?_ | refine WLA.st rfl ?_ ?_ | refine WLA.x rfl rfl ?_ (fun x => ?_) | refine WLA.x0 rfl ?_ (fun x => ?_)); first | exact trivial | exact rfl | assumption | omega | (refine ⟨?_, ?_⟩ <;> omega) | (simp only [Room, List.length_set, List.length_append, List.length_cons, List.length_nil, List.length_replicate]; omega) | decide | skip) | (refine Stp.go ?_) | (refine WPA.ifT ?_) | (refine WPA.ifF ?_) | ((first | refine WPA.dec ?_); first | refine .inl ⟨by first | assumption | omega | with_reducible rfl | (refine fun h => h ?_; first | assumption | with_reducible rfl) | (simp only [List.length_append, List.length_cons, List.length_nil, List.length_set] <;> omega) | decide, ?_⟩ | refine .inr ⟨by first | assumption | omega | with_reducible rfl | (refine fun h => h ?_; first | assumption | with_reducible rfl) | (simp only [List.length_append, List.length_cons, List.length_nil, List.length_set] <;> omega) | decide, ?_⟩) | ((first | refine WPA.ifBt ?_ ?_ | refine WPA.ifBnf ?_ ?_); assumption) | ((first | refine WPA.ifBnt ?_ ?_ | refine WPA.ifBf ?_ ?_); assumption) | ((first | refine WPA.ifs ?_ ?_ | refine WPA.ifB ?_ ?_) <;> intro hc))
    exact QQ.end_ rfl (SV.nil, []) rfl fun w h => ⟨⟨rfl, fun i hi => by simp at hi⟩, h.to⟩
  · skip
    repeat' (first | ((first | refine WLA.m rfl rfl ?_ ?_ | refine WLA.st rfl ?_ ?_ | refine WLA.x rfl rfl ?_ (fun x => ?_) | refine WLA.x0 rfl ?_ (fun x => ?_)); first | exact trivial | exact rfl | assumption | omega | (refine ⟨?_, ?_⟩ <;> omega) | (simp only [Room, List.length_set, List.length_append, List.length_cons, List.length_nil, List.length_replicate]; omega) | decide | skip) | (refine Stp.go ?_) | (refine WPA.ifT ?_) | (refine WPA.ifF ?_) | ((first | refine WPA.dec ?_); first | refine .inl ⟨by first | assumption | omega | with_reducible rfl | (refine fun h => h ?_; first | assumption | with_reducible rfl) | (simp only [List.length_append, List.length_cons, List.length_nil, List.length_set] <;> omega) | decide, ?_⟩ | refine .inr ⟨by first | assumption | omega | with_reducible rfl | (refine fun h => h ?_; first | assumption | with_reducible rfl) | (simp only [List.length_append, List.length_cons, List.length_nil, List.length_set] <;> omega) | decide, ?_⟩) | ((first | refine WPA.ifBt ?_ ?_ | refine WPA.ifBnf ?_ ?_); assumption) | ((first | refine WPA.ifBnt ?_ ?_ | refine WPA.ifBf ?_ ?_); assumption) | ((first | refine WPA.ifs ?_ ?_ | refine WPA.ifB ?_ ?_) <;> intro hc))
    refine WPA.loopS (σ := Nat × SV × List SV) (fun y => [(0, .slice s.a s.n s.cap), (1, .int .i64 n), (5, .slice y.2.1.a y.2.1.n y.2.1.cap), (6, .int .i64 y.1)])
      (fun y => y.1 ≤ p.length ∧ GsI I y.2.2 ((gramsL p n).take y.1) ∧ y.2.2.length ≤ y.1) (fun y => SL w0 I (OwnS 30 y.2.1 y.2.2 :: L)) (fun y => p.length - y.1) (0, SV.nil, []) ⟨rfl, rfl, rfl, rfl, trivial⟩ ⟨Nat.zero_le _, ⟨rfl, fun i hi => by simp at hi⟩, Nat.le_refl _⟩ (fun w h => h.to) ?_
    rintro ⟨i, r, hs⟩ ρ ⟨hi, hg, hl⟩
    dsimp only at hi hg hl ⊢
    by_cases hlt : i < p.length
    · have hlt' : (i : Int) < p.length := by omega
      by_cases hin : i < gramN p n
      · have hin' : n ≤ (p.length : Int) - i := by unfold gramN at hin; rw [if_neg hn] at hin; omega
        have hb : -9223372036854775808 ≤ (i : Int) + n ∧ (i : Int) + n ≤ 9223372036854775807 := by omega
        repeat' (first | ((first | refine WLA.m rfl rfl ?_ ?_ | refine WLA.st rfl ?_ ?_ | refine WLA.x rfl rfl ?_ (fun x => ?_) | refine WLA.x0 rfl ?_ (fun x => ?_)); first | exact trivial | exact rfl | assumption | omega | (refine ⟨?_, ?_⟩ <;> omega) | (simp only [Room, List.length_set, List.length_append, List.length_cons, List.length_nil, List.length_replicate]; omega) | decide | skip) | (refine Stp.go ?_) | (refine WPA.ifT ?_) | (refine WPA.ifF ?_) | ((first | refine WPA.dec ?_); first | refine .inl ⟨by first | assumption | omega | with_reducible rfl | (refine fun h => h ?_; first | assumption | with_reducible rfl) | (simp only [List.length_append, List.length_cons, List.length_nil, List.length_set] <;> omega) | decide, ?_⟩ | refine .inr ⟨by first | assumption | omega | with_reducible rfl | (refine fun h => h ?_; first | assumption | with_reducible rfl) | (simp only [List.length_append, List.length_cons, List.length_nil, List.length_set] <;> omega) | decide, ?_⟩) | ((first | refine WPA.ifBt ?_ ?_ | refine WPA.ifBnf ?_ ?_); assumption) | ((first | refine WPA.ifBnt ?_ ?_ | refine WPA.ifBf ?_ ?_); assumption) | ((first | refine WPA.ifs ?_ ?_ | refine WPA.ifB ?_ ?_) <;> intro hc))
        refine QQ.loopS (i + 1, x, hs ++ [s.cut 1 (i : Int) ((i : Int) + n)]) ⟨rfl, rfl, rfl, rfl, trivial⟩ ⟨hlt, ?_, by simp; omega⟩ (by dsimp only; omega) (fun w h => h.to)
        have hgl : i < (gramsL p n).length := by rw [gramsL_len]; exact hin
        dsimp only
        rw [List.take_add_one, List.getElem?_eq_getElem hgl]
        have e : (gramsL p n)[i] = cutL p (i : Int) ((i : Int) + n) := by have := gramsL_get hin; rw [List.getD_eq_getElem?_getD, List.getElem?_eq_getElem hgl] at this; exact this
        rw [Option.toList_some, e]
        exact hg.snoc inferInstance
      · have hin' : ¬ n ≤ (p.length : Int) - i := by unfold gramN at hin; rw [if_neg hn] at hin; omega
        repeat' (first | ((first | refine WLA.m rfl rfl ?_ ?_ | refine WLA.st rfl ?_ ?_ | refine WLA.x rfl rfl ?_ (fun x => ?_) | refine WLA.x0 rfl ?_ (fun x => ?_)); first | exact trivial | exact rfl | assumption | omega | (refine ⟨?_, ?_⟩ <;> omega) | (simp only [Room, List.length_set, List.length_append, List.length_cons, List.length_nil, List.length_replicate]; omega) | decide | skip) | (refine Stp.go ?_) | (refine WPA.ifT ?_) | (refine WPA.ifF ?_) | ((first | refine WPA.dec ?_); first | refine .inl ⟨by first | assumption | omega | with_reducible rfl | (refine fun h => h ?_; first | assumption | with_reducible rfl) | (simp only [List.length_append, List.length_cons, List.length_nil, List.length_set] <;> omega) | decide, ?_⟩ | refine .inr ⟨by first | assumption | omega | with_reducible rfl | (refine fun h => h ?_; first | assumption | with_reducible rfl) | (simp only [List.length_append, List.length_cons, List.length_nil, List.length_set] <;> omega) | decide, ?_⟩) | ((first | refine WPA.ifBt ?_ ?_ | refine WPA.ifBnf ?_ ?_); assumption) | ((first | refine WPA.ifBnt ?_ ?_ | refine WPA.ifBf ?_ ?_); assumption) | ((first | refine WPA.ifs ?_ ?_ | refine WPA.ifB ?_ ?_) <;> intro hc))
        refine QQ.loopS (i + 1, r, hs) ⟨rfl, rfl, rfl, rfl, trivial⟩ ⟨hlt, ?_, by dsimp only; omega⟩ (by dsimp only; omega) (fun w h => h.to)
        dsimp only
        rw [List.take_of_length_le (by rw [gramsL_len]; omega)] at hg ⊢
        exact hg
    · have hlt' : ¬ (i : Int) < p.length := by omega
      rw [List.take_of_length_le (by rw [gramsL_len]; have := gramN_le p n; omega)] at hg
      repeat' (first | ((first | refine WLA.m rfl rfl ?_ ?_ | refine WLA.st rfl ?_ ?_ | refine WLA.x rfl rfl ?_ (fun x => ?_) | refine WLA.x0 rfl ?_ (fun x => ?_)); first | exact trivial | exact rfl | assumption | omega | (refine ⟨?_, ?_⟩ <;> omega) | (simp only [Room, List.length_set, List.length_append, List.length_cons, List.length_nil, List.length_replicate]; omega) | decide | skip) | (refine Stp.go ?_) | (refine WPA.ifT ?_) | (refine WPA.ifF ?_) | ((first | refine WPA.dec ?_); first | refine .inl ⟨by first | assumption | omega | with_reducible rfl | (refine fun h => h ?_; first | assumption | with_reducible rfl) | (simp only [List.length_append, List.length_cons, List.length_nil, List.length_set] <;> omega) | decide, ?_⟩ | refine .inr ⟨by first | assumption | omega | with_reducible rfl | (refine fun h => h ?_; first | assumption | with_reducible rfl) | (simp only [List.length_append, List.length_cons, List.length_nil, List.length_set] <;> omega) | decide, ?_⟩) | ((first | refine WPA.ifBt ?_ ?_ | refine WPA.ifBnf ?_ ?_); assumption) | ((first | refine WPA.ifBnt ?_ ?_ | refine WPA.ifBf ?_ ?_); assumption) | ((first | refine WPA.ifs ?_ ?_ | refine WPA.ifB ?_ ?_) <;> intro hc))
      exact QQ.end_ rfl (r, hs) rfl fun w h => ⟨hg, h.to⟩
theorem rGrams_trS {s : SV} {p : List Int} {n : Int} [hr : SlI I s Int inferInstance p] (hp : p.length ≤ 1000000) :
    Tr Try.prog 177 #[.slice s.a s.n s.cap, .int .i64 n] (SL w0 I L) (fun x : { y : SV × List SV // GsI I y.2 (gramsL p n) } => .slice x.1.1.a x.1.1.n x.1.1.cap) (fun x => SL w0 I (OwnS 30 x.1.1 x.1.2 :: L)) :=
  (rGrams_tr hp).conv (fun _ h => h) fun x w hb => ⟨⟨x, hb.1⟩, rfl, hb.2⟩
theorem rEach_tr {s : SV} {hs : List SV} {gs : List (List Int)} {n : Int} [hr : SlI I s SV inferInstance hs] (hg : GsI I hs gs) (hn : hs.length ≤ 1000) (hl : ∀ g ∈ gs, g.length ≤ 1000) :
    Tr Try.prog 140 #[.slice s.a s.n s.cap, .int .i64 n] (SL w0 I L) (fun x : { y : SV × List SV // GsI I y.2 (eachL gs n) } => .slice x.1.1.a x.1.1.n x.1.1.cap) (fun x => SL w0 I (OwnS 30 x.1.1 x.1.2 :: L)) := by
  refine Tr.intro Try.func140 rfl Try.ntmps140 rfl ?_
  repeat' (first | ((first | refine WLA.m rfl rfl ?_ ?_ | refine WLA.st rfl ?_ ?_ | refine WLA.x rfl rfl ?_ (fun x => ?_) | refine WLA.x0 rfl ?_ (fun x => ?_)); first | exact trivial | exact rfl | assumption | omega | (refine ⟨?_, ?_⟩ <;> omega) | (simp only [Room, List.length_set, List.length_append, List.length_cons, List.length_nil, List.length_replicate]; omega) | decide | skip) | (refine Stp.go ?_) | (refine WPA.ifT ?_) | (refine WPA.ifF ?_) | ((first | refine WPA.dec ?_); first | refine .inl ⟨by first | assumption | omega | with_reducible rfl | (refine fun h => h ?_; first | assumption | with_reducible rfl) | (simp only [List.length_append, List.length_cons, List.length_nil, List.length_set] <;> omega) | decide, ?_⟩ | refine .inr ⟨by first | assumption | omega | with_reducible rfl | (refine fun h => h ?_; first | assumption | with_reducible rfl) | (simp only [List.length_append, List.length_cons, List.length_nil, List.length_set] <;> omega) | decide, ?_⟩) | ((first | refine WPA.ifBt ?_ ?_ | refine WPA.ifBnf ?_ ?_); assumption) | ((first | refine WPA.ifBnt ?_ ?_ | refine WPA.ifBf ?_ ?_); assumption) | ((first | refine WPA.ifs ?_ ?_ | refine WPA.ifB ?_ ?_) <;> intro hc))
  refine WPA.loopS (σ := Nat × SV × List SV) (fun y => [(0, .slice s.a s.n s.cap), (1, .int .i64 n), (5, .slice y.2.1.a y.2.1.n y.2.1.cap), (6, .int .i64 y.1)])
    (fun y => y.1 ≤ hs.length ∧ GsI I y.2.2 (eachL (gs.take y.1) n)) (fun y => SL w0 I (OwnS 30 y.2.1 y.2.2 :: L)) (fun y => hs.length - y.1) (0, SV.nil, []) ⟨rfl, rfl, rfl, rfl, trivial⟩ ⟨Nat.zero_le _, ⟨rfl, fun i hi => by simp at hi⟩⟩ (fun w h => h.to) ?_
  rintro ⟨i, r, os⟩ ρ ⟨hi, ho⟩
  dsimp only at hi ho ⊢
  by_cases hlt : i < hs.length
  · have hlt' : (i : Int) < hs.length := by omega
    have hgi := hg.2 i hlt
    have hig : i < gs.length := by have := hg.1; omega
    have hgl : (gs.getD i []).length ≤ 1000000 := by
      rw [List.getD_eq_getElem?_getD, List.getElem?_eq_getElem hig]; have := hl _ (List.getElem_mem hig); simp only [Option.getD_some]; omega
    have e : eachL (gs.take (i + 1)) n = eachL (gs.take i) n ++ gramsL (gs.getD i []) n := by
      unfold eachL
      rw [List.take_add_one, List.getElem?_eq_getElem hig, List.flatMap_append]
      simp [List.getD_eq_getElem?_getD, hig]
    have hol : os.length ≤ 1000000 := by
      have h1 := ho.1
      have h2 := eachL_le (n := n) (gs := gs.take i) (m := 1000) fun x hx => hl x (List.mem_of_mem_take hx)
      have h3 : (gs.take i).length ≤ 1000 := by rw [List.length_take]; have := hg.1; omega
      omega
    have hgn := gramN_le (gs.getD i []) n
    have hgll := gramsL_len (gs.getD i []) n
    repeat' (first | ((first | refine WLA.m rfl rfl ?_ ?_ | refine WDQ.m rfl rfl ?_ ?_ | refine WDP.m rfl rfl ?_ ?_ | refine WLA.st rfl ?_ ?_ | refine WLA.x rfl rfl ?_ (fun x => ?_) | refine WLA.x0 rfl ?_ (fun x => ?_) | refine WDW.x rfl rfl ?_ (fun x => ?_) | refine WDW.st rfl ?_ ?_); first | exact trivial | exact rfl | assumption | omega | (refine ⟨?_, ?_⟩ <;> omega) | (simp only [Room, List.length_set, List.length_append, List.length_cons, List.length_nil, List.length_replicate]; omega) | decide | skip) | (refine Stp.go ?_) | (guard_target =~ WLA _ _ _ _ _ (⟨_, .call ⟨.value (.func 177), _, _⟩, _, _, _, _⟩ :: _) _ _; first | (refine WLA.call rfl rfl (rGrams_trS hgl) ?_; rintro ⟨⟨r2, os2⟩, hg2⟩; dsimp only at hg2 ⊢; have hos2 := hg2.1) | (refine WLA.call0 rfl (rGrams_trS hgl) ?_; rintro ⟨⟨r2, os2⟩, hg2⟩; dsimp only at hg2 ⊢; have hos2 := hg2.1)) | (refine WPA.ifT ?_) | (refine WPA.ifF ?_) | ((first | refine WPA.dec ?_); first | refine .inl ⟨by first | assumption | omega | with_reducible rfl | (refine fun h => h ?_; first | assumption | with_reducible rfl) | (simp only [List.length_append, List.length_cons, List.length_nil, List.length_set] <;> omega) | decide, ?_⟩ | refine .inr ⟨by first | assumption | omega | with_reducible rfl | (refine fun h => h ?_; first | assumption | with_reducible rfl) | (simp only [List.length_append, List.length_cons, List.length_nil, List.length_set] <;> omega) | decide, ?_⟩) | ((first | refine WPA.ifBt ?_ ?_ | refine WPA.ifBnf ?_ ?_); assumption) | ((first | refine WPA.ifBnt ?_ ?_ | refine WPA.ifBf ?_ ?_); assumption) | ((first | refine WPA.ifs ?_ ?_ | refine WPA.ifB ?_ ?_) <;> intro hc) | (guard_target =~ WPA _ _ _ (.region 5 _ true) _ _ _; refine WPA.drawT 8 (.p 1 (.p 3 (.p 4 (.p 5 (.p 6 (.p 7 (.e 0 (.w 2 .fin)))))))) mixed ?_ ?_; kernel_rfl) | (refine WDA.finish (tl := [⟨_, _, _, _, _, _⟩, ⟨_, _, _, _, _, _⟩, ⟨_, _, _, _, _, _⟩]) rfl ?_) | (refine WDQ.see rfl ?_) | (refine WDP.see rfl ?_) | (refine WDW.see rfl ?_) | (refine WDE.see rfl ?_) | (refine WDE.alloc rfl rfl (fun w h => h) (fun x => ?_)) | (refine WDE.stE rfl ?_) | (refine WDE.x rfl rfl ?_ ?_ (fun x => ?_); rotate_left 1; (intro x w h; first | exact h | exact Ent.drop1.sl h | exact SL.unI h | exact SL.to h); rotate_left 1; first | exact trivial | exact rfl | assumption | omega | (refine ⟨?_, ?_⟩ <;> omega) | (simp only [Room, List.length_set, List.length_append, List.length_cons, List.length_nil, List.length_replicate]; omega) | decide | skip) | (guard_target =~ WDE _ _ _ _ _ _ _ ⟨_, .call ⟨.value (.func 177), _, _⟩, _, _, _, _⟩ _ _ _; refine WDE.call rfl rfl (rGrams_trS hgl) ?_ ?_; (intro x w h; first | exact h | exact Ent.drop1.sl h | exact SL.unI h | exact SL.to h); rintro ⟨⟨r2, os2⟩, hg2⟩; dsimp only at hg2 ⊢; have hos2 := hg2.1) | (guard_target =~ WDW _ _ _ _ _ _ _ ⟨_, .call ⟨.value (.func 177), _, _⟩, _, _, _, _⟩ _ _ _; refine WDW.call rfl rfl (rGrams_trS hgl) ?_; rintro ⟨⟨r2, os2⟩, hg2⟩; dsimp only at hg2 ⊢; have hos2 := hg2.1))
    exact QQ.loopS (i + 1, x, os ++ os2) ⟨rfl, rfl, rfl, rfl, trivial⟩ ⟨hlt, by dsimp only; rw [e]; exact ho.app hg2⟩ (by dsimp only; omega) (fun w h => h.to)
  · have hlt' : ¬ (i : Int) < hs.length := by omega
    rw [List.take_of_length_le (by have := hg.1; omega)] at ho
    repeat' (first | ((first | refine WLA.m rfl rfl ?_ ?_ | refine WDQ.m rfl rfl ?_ ?_ | refine WDP.m rfl rfl ?_ ?_ | refine WLA.st rfl ?_ ?_ | refine WLA.x rfl rfl ?_ (fun x => ?_) | refine WLA.x0 rfl ?_ (fun x => ?_) | refine WDW.x rfl rfl ?_ (fun x => ?_) | refine WDW.st rfl ?_ ?_); first | exact trivial | exact rfl | assumption | omega | (refine ⟨?_, ?_⟩ <;> omega) | (simp only [Room, List.length_set, List.length_append, List.length_cons, List.length_nil, List.length_replicate]; omega) | decide | skip) | (refine Stp.go ?_) | (refine WPA.ifT ?_) | (refine WPA.ifF ?_) | ((first | refine WPA.dec ?_); first | refine .inl ⟨by first | assumption | omega | with_reducible rfl | (refine fun h => h ?_; first | assumption | with_reducible rfl) | (simp only [List.length_append, List.length_cons, List.length_nil, List.length_set] <;> omega) | decide, ?_⟩ | refine .inr ⟨by first | assumption | omega | with_reducible rfl | (refine fun h => h ?_; first | assumption | with_reducible rfl) | (simp only [List.length_append, List.length_cons, List.length_nil, List.length_set] <;> omega) | decide, ?_⟩) | ((first | refine WPA.ifBt ?_ ?_ | refine WPA.ifBnf ?_ ?_); assumption) | ((first | refine WPA.ifBnt ?_ ?_ | refine WPA.ifBf ?_ ?_); assumption) | ((first | refine WPA.ifs ?_ ?_ | refine WPA.ifB ?_ ?_) <;> intro hc) | (guard_target =~ WPA _ _ _ (.region 5 _ true) _ _ _; refine WPA.drawT 8 (.p 1 (.p 3 (.p 4 (.p 5 (.p 6 (.p 7 (.e 0 (.w 2 .fin)))))))) mixed ?_ ?_; kernel_rfl) | (refine WDA.finish (tl := [⟨_, _, _, _, _, _⟩, ⟨_, _, _, _, _, _⟩, ⟨_, _, _, _, _, _⟩]) rfl ?_) | (refine WDQ.see rfl ?_) | (refine WDP.see rfl ?_) | (refine WDW.see rfl ?_) | (refine WDE.see rfl ?_) | (refine WDE.alloc rfl rfl (fun w h => h) (fun x => ?_)) | (refine WDE.stE rfl ?_) | (refine WDE.x rfl rfl ?_ ?_ (fun x => ?_); rotate_left 1; (intro x w h; first | exact h | exact Ent.drop1.sl h | exact SL.unI h | exact SL.to h); rotate_left 1; first | exact trivial | exact rfl | assumption | omega | (refine ⟨?_, ?_⟩ <;> omega) | (simp only [Room, List.length_set, List.length_append, List.length_cons, List.length_nil, List.length_replicate]; omega) | decide | skip))
    exact QQ.end_ rfl ⟨(r, os), ho⟩ rfl fun w h => h.to
end
end Go.Proofs.Ytlodbajaoadhdaa
