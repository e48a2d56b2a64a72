/- N-grams without their first word, and how many end so. Conditions: none. -/
import Derived.Test.YtlodbajaoadhdaaGr8
import Derived.Test.YtlodbajaoadhdaaSlLoan
namespace Go.Proofs.Ytlodbajaoadhdaa
open Go Go.Fw Go.RowKit
set_option linter.unusedVariables false
set_option linter.unusedSimpArgs false
set_option maxRecDepth 100000
set_option maxHeartbeats 16000000
set_option synthInstance.maxHeartbeats 200000
set_option synthInstance.maxSize 100000
attribute [local irreducible] WPA WLA WDA WDQ WDE QQ seqQ blockQ loopQ fnQ OpP OpT Tr TrP SL SLd OwnS LitS Bk BkE Ob
attribute [local irreducible] RowH
theorem addN_assoc (a b c : Int) : addN (addN a b) c = addN a (addN b c) := by
  obtain ⟨k1, h1, h2, h3⟩ := addN_mod a b
  obtain ⟨k2, h4, h5, h6⟩ := addN_mod b c
  obtain ⟨k3, h7, h8, h9⟩ := addN_mod (addN a b) c
  obtain ⟨k4, g1, g2, g3⟩ := addN_mod a (addN b c)
  omega
/-- Twice the same one, or once with the sum. -/
theorem put_twice {l : List Ct} {g : List Int} {n m : Int} (h : Ris id l) : putM (putM l (g, n)) (g, m) = putM l (g, addN n m) := by
  refine lk_ext (putL_ris (putL_ris h)) (putL_ris h) fun k => ?_
  rw [lk_put (putL_ris h), lk_put h, lk_put h]
  by_cases e : g = k
  · simp only [e, if_true]
    cases lk k l with
    | none => rfl
    | some o => simp only; rw [addN_assoc]
  · simp only [e, if_false]
theorem cutL_tail {xs : List Int} (h : 1 ≤ xs.length) : cutL xs 1 xs.length = xs.drop 1 := by
  unfold cutL
  rw [if_pos (by omega)]
  rw [List.take_of_length_le (by rw [List.length_drop]; omega)]
  rfl
/-- A gram without its first word. -/
abbrev tl (kg : SV → List Int) (s : SV) : SV := s.cut 1 1 (kg s).length
theorem tl_at {kg : SV → List Int} {J : Foot} {s : SV} (h : SlI J s Int inferInstance (kg s)) (h1 : 1 ≤ (kg s).length) : SlI J (tl kg s) Int inferInstance ((kg s).drop 1) := by
  rw [← cutL_tail h1]; exact inferInstance
def tls (kg : SV → List Int) (ps : List Cn) : List Cn := ps.map fun p => (tl kg p.1, 1)
def endsT (ks : List (List Int)) : List Ct := (ks.map fun k => (k.drop 1, (1 : Int))).foldl putM []
section
variable {kg : SV → List Int} {L : List HP} {w0 : World} {I : Foot}
theorem rEnds_tr {s : SV} {ps : List Cn} [hr : RdS I L s Cn inferInstance ps] (hg : GrG I kg ps) (hl : ∀ p ∈ ps, 1 ≤ (kg p.1).length ∧ (kg p.1).length ≤ 1000000) (hn : ps.length ≤ 100000) (he : ∀ p ∈ ps, rd Int I (tl kg p.1) = (kg p.1).drop 1) :
    Tr Try.prog 68 #[.slice s.a s.n s.cap] (SL w0 I L) (fun r : SV => .slice r.a r.n r.cap) (fun r => SL w0 I (OwnS 80 r ((tls kg ps).foldl (putL (rd Int I)) []) :: L)) := by
  refine Tr.intro Try.func68 rfl Try.ntmps68 rfl ?_
  repeat' (first | ((first | refine WLA.m rfl rfl ?_ ?_ | refine WLA.st rfl ?_ ?_ | refine WLA.x rfl rfl ?_ (fun x => ?_) | refine WLA.x0 rfl ?_ (fun x => ?_)); first | exact trivial | exact rfl | assumption | omega | (refine ⟨?_, ?_⟩ <;> omega) | (simp only [Room, List.length_set, List.length_append, List.length_cons, List.length_nil, List.length_replicate]; omega) | decide | skip) | (refine Stp.go ?_) | (refine WPA.ifT ?_) | (refine WPA.ifF ?_) | ((first | refine WPA.dec ?_); first | refine .inl ⟨by first | assumption | omega | with_reducible rfl | (refine fun h => h ?_; first | assumption | with_reducible rfl) | (simp only [List.length_append, List.length_cons, List.length_nil, List.length_set] <;> omega) | decide, ?_⟩ | refine .inr ⟨by first | assumption | omega | with_reducible rfl | (refine fun h => h ?_; first | assumption | with_reducible rfl) | (simp only [List.length_append, List.length_cons, List.length_nil, List.length_set] <;> omega) | decide, ?_⟩) | ((first | refine WPA.ifBt ?_ ?_ | refine WPA.ifBnf ?_ ?_); assumption) | ((first | refine WPA.ifBnt ?_ ?_ | refine WPA.ifBf ?_ ?_); assumption) | ((first | refine WPA.ifs ?_ ?_ | refine WPA.ifB ?_ ?_) <;> intro hc))
  refine WPA.loopS (σ := Nat × SV × List Cn) (fun y => [(0, .slice s.a s.n s.cap), (3, .slice y.2.1.a y.2.1.n y.2.1.cap), (4, .int .i64 y.1)])
    (fun y => (y.1 ≤ ps.length ∧ y.2.2.length ≤ y.1) ∧ (tls kg (ps.drop y.1)).foldl (putL (rd Int I)) y.2.2 = (tls kg ps).foldl (putL (rd Int I)) [] ∧ Ris (rd Int I) y.2.2 ∧ ∀ p ∈ y.2.2, SlI I p.1 Int inferInstance (rd Int I p.1) ∧ (rd Int I p.1).length ≤ 1000000)
    (fun y => SL w0 I (OwnS 80 y.2.1 y.2.2 :: L)) (fun y => ps.length - y.1) (0, SV.nil, []) ⟨rfl, rfl, rfl, trivial⟩ ⟨⟨Nat.zero_le _, Nat.le_refl _⟩, rfl, List.Pairwise.nil, by simp⟩ (fun w h => h.to) ?_
  rintro ⟨i, r, o⟩ ρ ⟨⟨hi, ho⟩, h1, h2, h3⟩
  dsimp only at hi ho h1 h2 h3 ⊢
  by_cases hlt : i < ps.length
  · have hlt' : (i : Int) < ps.length := by omega
    have hm : at_ ps (i : Int) ∈ ps := by rw [at_nat ps i hlt]; exact List.getElem_mem _
    have hgi := hg _ hm
    obtain ⟨q1, q2⟩ := hl _ hm
    have ht := (tl_at hgi q1).rd
    have hel := he _ hm
    have htl : (rd Int I (tl kg (at_ ps (i : Int)).1)).length ≤ 1000000 := by rw [hel, List.length_drop]; omega
    rw [List.drop_eq_getElem_cons hlt, ← at_nat ps i hlt] at h1
    unfold tls at h1
    rw [List.map_cons, List.foldl_cons] at h1
    have hpg := putG_put (f := rd Int I) (x := (tl kg (at_ ps (i : Int)).1, 1)) h2
    have hgr := putL_grg (kg := rd Int I) (G := fun s => SlI I s Int inferInstance (rd Int I s) ∧ (rd Int I s).length ≤ 1000000) h3 (x := (tl kg (at_ ps (i : Int)).1, 1)) ⟨ht, htl⟩
    have hlen : (putL (rd Int I) o (tl kg (at_ ps (i : Int)).1, 1)).length ≤ o.length + 1 := putL_len o
    have h3a : GrG I (rd Int I) o := fun p hp => (h3 p hp).1
    have h3b : ∀ p ∈ o, (rd Int I p.1).length ≤ 1000000 := fun p hp => (h3 p hp).2
    repeat' (first | ((first | refine WLA.m rfl rfl ?_ ?_ | refine WLA.st rfl ?_ ?_ | refine WLA.x rfl rfl ?_ (fun x => ?_) | refine WLA.x0 rfl ?_ (fun x => ?_)); first | exact trivial | exact rfl | assumption | omega | (refine ⟨?_, ?_⟩ <;> omega) | (simp only [Room, List.length_set, List.length_append, List.length_cons, List.length_nil, List.length_replicate]; omega) | decide | skip) | (refine Stp.go ?_) | (guard_target =~ WLA _ _ _ _ _ (⟨_, .call ⟨.value (.func 101), _, _⟩, _, _, _, _⟩ :: _) _ _; first | (refine WLA.call rfl rfl (rPut_tr (xg := tl kg (at_ ps (i : Int)).1) (xn := 1) h3a h3b ht htl (by omega)) ?_; rintro r2; rw [hpg]) | (refine WLA.call0 rfl (rPut_tr (xg := tl kg (at_ ps (i : Int)).1) (xn := 1) h3a h3b ht htl (by omega)) ?_; rintro r2; rw [hpg])) | (refine WPA.ifT ?_) | (refine WPA.ifF ?_) | ((first | refine WPA.dec ?_); first | refine .inl ⟨by first | assumption | omega | with_reducible rfl | (refine fun h => h ?_; first | assumption | with_reducible rfl) | (simp only [List.length_append, List.length_cons, List.length_nil, List.length_set] <;> omega) | decide, ?_⟩ | refine .inr ⟨by first | assumption | omega | with_reducible rfl | (refine fun h => h ?_; first | assumption | with_reducible rfl) | (simp only [List.length_append, List.length_cons, List.length_nil, List.length_set] <;> omega) | decide, ?_⟩) | ((first | refine WPA.ifBt ?_ ?_ | refine WPA.ifBnf ?_ ?_); assumption) | ((first | refine WPA.ifBnt ?_ ?_ | refine WPA.ifBf ?_ ?_); assumption) | ((first | refine WPA.ifs ?_ ?_ | refine WPA.ifB ?_ ?_) <;> intro hc))
    exact QQ.loopS (i + 1, r2, putL (rd Int I) o (tl kg (at_ ps (i : Int)).1, 1)) ⟨rfl, rfl, rfl, trivial⟩ ⟨⟨hlt, by dsimp only; omega⟩, h1, putL_ris h2, hgr⟩ (by dsimp only; omega) (fun w h => h.to)
  · have hlt' : ¬ (i : Int) < ps.length := by omega
    rw [List.drop_of_length_le (by omega)] at h1
    unfold tls at h1
    rw [List.map_nil, List.foldl_nil] at h1
    unfold tls
    rw [← h1]
    repeat' (first | ((first | refine WLA.m rfl rfl ?_ ?_ | refine WLA.st rfl ?_ ?_ | refine WLA.x rfl rfl ?_ (fun x => ?_) | refine WLA.x0 rfl ?_ (fun x => ?_)); first | exact trivial | exact rfl | assumption | omega | (refine ⟨?_, ?_⟩ <;> omega) | (simp only [Room, List.length_set, List.length_append, List.length_cons, List.length_nil, List.length_replicate]; omega) | decide | skip) | (refine Stp.go ?_) | (refine WPA.ifT ?_) | (refine WPA.ifF ?_) | ((first | refine WPA.dec ?_); first | refine .inl ⟨by first | assumption | omega | with_reducible rfl | (refine fun h => h ?_; first | assumption | with_reducible rfl) | (simp only [List.length_append, List.length_cons, List.length_nil, List.length_set] <;> omega) | decide, ?_⟩ | refine .inr ⟨by first | assumption | omega | with_reducible rfl | (refine fun h => h ?_; first | assumption | with_reducible rfl) | (simp only [List.length_append, List.length_cons, List.length_nil, List.length_set] <;> omega) | decide, ?_⟩) | ((first | refine WPA.ifBt ?_ ?_ | refine WPA.ifBnf ?_ ?_); assumption) | ((first | refine WPA.ifBnt ?_ ?_ | refine WPA.ifBf ?_ ?_); assumption) | ((first | refine WPA.ifs ?_ ?_ | refine WPA.ifB ?_ ?_) <;> intro hc))
    exact QQ.end_ rfl _ rfl fun w h => h.to
theorem Ends1_tr {a b : SV} {xs ys : List Int} [ha : SlI I a Int inferInstance xs] [hb : SlI I b Int inferInstance ys] (h1 : xs.length ≤ 1000000000) (h2 : ys.length ≤ 1000000000) :
    Tr Try.prog 108 #[.slice a.a a.n a.cap, .slice b.a b.n b.cap] (SL w0 I L) (fun _ : Unit => .int .i64 (cmpL xs.reverse ys.reverse)) (fun _ => SL w0 I L) := by
  refine Tr.intro Try.func108 rfl Try.ntmps108 rfl ?_
  repeat' (first | ((first | refine WLA.m rfl rfl ?_ ?_ | refine WLA.st rfl ?_ ?_ | refine WLA.x rfl rfl ?_ (fun x => ?_) | refine WLA.x0 rfl ?_ (fun x => ?_)); first | exact trivial | exact rfl | assumption | omega | (refine ⟨?_, ?_⟩ <;> omega) | (simp only [Room, List.length_set, List.length_append, List.length_cons, List.length_nil, List.length_replicate]; omega) | decide | skip) | (refine Stp.go ?_) | (guard_target =~ WLA _ _ _ _ _ (⟨_, .call ⟨.value (.func 32), _, _⟩, _, _, _, _⟩ :: _) _ _; refine WLA.cq rfl rfl (Behind_tr h1 h2) ?_) | (refine WPA.ifT ?_) | (refine WPA.ifF ?_) | ((first | refine WPA.dec ?_); first | refine .inl ⟨by first | assumption | omega | with_reducible rfl | (refine fun h => h ?_; first | assumption | with_reducible rfl) | (simp only [List.length_append, List.length_cons, List.length_nil, List.length_set] <;> omega) | decide, ?_⟩ | refine .inr ⟨by first | assumption | omega | with_reducible rfl | (refine fun h => h ?_; first | assumption | with_reducible rfl) | (simp only [List.length_append, List.length_cons, List.length_nil, List.length_set] <;> omega) | decide, ?_⟩) | ((first | refine WPA.ifBt ?_ ?_ | refine WPA.ifBnf ?_ ?_); assumption) | ((first | refine WPA.ifBnt ?_ ?_ | refine WPA.ifBf ?_ ?_); assumption) | ((first | refine WPA.ifs ?_ ?_ | refine WPA.ifB ?_ ?_) <;> intro hc))
  exact QQ.end_ rfl () rfl fun w h => h.to
theorem Ends2_tr {x y : SV × Int} {xs ys : List Int} [hx : SlI I x.1 Int inferInstance xs] [hy : SlI I y.1 Int inferInstance ys] (h1 : xs.length ≤ 1000000000) (h2 : ys.length ≤ 1000000000) :
    Tr Try.prog 109 #[.agg #[.slice x.1.a x.1.n x.1.cap, .int .i64 x.2], .agg #[.slice y.1.a y.1.n y.1.cap, .int .i64 y.2]] (SL w0 I L) (fun _ : Unit => .int .i64 (cmpL xs ys)) (fun _ => SL w0 I L) := by
  refine Tr.intro Try.func109 rfl Try.ntmps109 rfl ?_
  repeat' (first | ((first | refine WLA.m rfl rfl ?_ ?_ | refine WLA.st rfl ?_ ?_ | refine WLA.x rfl rfl ?_ (fun x => ?_) | refine WLA.x0 rfl ?_ (fun x => ?_)); first | exact trivial | exact rfl | assumption | omega | (refine ⟨?_, ?_⟩ <;> omega) | (simp only [Room, List.length_set, List.length_append, List.length_cons, List.length_nil, List.length_replicate]; omega) | decide | skip) | (refine Stp.go ?_) | (guard_target =~ WLA _ _ _ _ _ (⟨_, .call ⟨.value (.func 30), _, _⟩, _, _, _, _⟩ :: _) _ _; refine WLA.cq rfl rfl (gCompare_tr h1 h2) ?_) | (refine WPA.ifT ?_) | (refine WPA.ifF ?_) | ((first | refine WPA.dec ?_); first | refine .inl ⟨by first | assumption | omega | with_reducible rfl | (refine fun h => h ?_; first | assumption | with_reducible rfl) | (simp only [List.length_append, List.length_cons, List.length_nil, List.length_set] <;> omega) | decide, ?_⟩ | refine .inr ⟨by first | assumption | omega | with_reducible rfl | (refine fun h => h ?_; first | assumption | with_reducible rfl) | (simp only [List.length_append, List.length_cons, List.length_nil, List.length_set] <;> omega) | decide, ?_⟩) | ((first | refine WPA.ifBt ?_ ?_ | refine WPA.ifBnf ?_ ?_); assumption) | ((first | refine WPA.ifBnt ?_ ?_ | refine WPA.ifBf ?_ ?_); assumption) | ((first | refine WPA.ifs ?_ ?_ | refine WPA.ifB ?_ ?_) <;> intro hc))
  exact QQ.end_ rfl () rfl fun w h => h.to
/-- Grams, sorted from behind. -/
theorem sortG_tr {s : SV} {vs : List SV} (hg : ∀ v ∈ vs, SlI I v Int inferInstance (kg v)) (hl : ∀ v ∈ vs, (kg v).length ≤ 1000000) (hn : vs.length ≤ 100000) :
    Tr Try.prog 107 #[.slice s.a s.n s.cap, .func (.func 108) #[] #[]] (SL w0 I (OwnS 30 s vs :: L)) (fun _ : SortedOf (fun p q : SV => cmpL (kg p).reverse (kg q).reverse) vs => .tuple #[]) (fun q => SL w0 I (OwnS 30 s q.1 :: L)) :=
  SortFunc1_tr (α := SV) (ρ := Try.sortInts_ren) (caps := []) Try.sortInts rfl (fun v => .slice v.a v.n v.cap) (fun _ => rfl) (fun p q : SV => cmpL (kg p).reverse (kg q).reverse) (swo_cmpL fun x : { x // x ∈ vs } => (kg x.1).reverse) (fun w1 J hJ x hx y hy => by
    haveI : SubI J I := ⟨hJ⟩
    haveI := (hg x hx).sub (I' := J)
    haveI := (hg y hy).sub (I' := J)
    have h1 := hl x hx
    have h2 := hl y hy
    exact Ends1_tr (by omega) (by omega)) (by omega)
end
end Go.Proofs.Ytlodbajaoadhdaa
