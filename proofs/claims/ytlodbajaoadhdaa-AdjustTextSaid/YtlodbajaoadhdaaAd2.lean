/- How many n-grams end so: the program. Conditions: none. -/
import Derived.Test.YtlodbajaoadhdaaAd1
namespace Go.Proofs.Ytlodbajaoadhdaa
open Go Go.Fw Go.RowKit
set_option linter.unusedVariables false
set_option linter.unusedSimpArgs false
set_option maxRecDepth 100000
set_option maxHeartbeats 16000000
set_option synthInstance.maxHeartbeats 200000
set_option synthInstance.maxSize 100000
attribute [local irreducible] WPA WLA WDA WDQ WDE QQ seqQ blockQ loopQ fnQ OpP OpT Tr TrP SL SLd OwnS LitS Bk BkE Ob
attribute [local irreducible] RowH
section
variable {kg : SV → List Int} {L : List HP} {w0 : World} {I : Foot}
theorem row_moP {cs : List Cn} {ms : List Ct} {R J : Foot} {e : TypeId} (hR : RowH e (cs.map Prod.fst) (ms.map Prod.fst) R) [hs : SubI J R] (hl : cs.map Prod.snd = ms.map Prod.snd) {w0 : World} {L : List HP} {w : World} (hw : SL w0 J L w) :
    cs.map (moP (rd Int J)) = ms ∧ GrG J (rd Int J) cs := by
  have e1 : cs.length = ms.length := by have := congrArg List.length hl; simpa using this
  have key : ∀ i (h1 : i < cs.length) (h2 : i < ms.length), SlI J cs[i].1 Int inferInstance ms[i].1 := fun i h1 h2 => by
    have h := RowH.frozen hR i (by rw [List.length_map]; exact h1) (by rw [List.length_map]; exact h2)
    rw [List.getD_eq_getElem?_getD, List.getD_eq_getElem?_getD, List.getElem?_map, List.getElem?_map, List.getElem?_eq_getElem h1, List.getElem?_eq_getElem h2] at h
    exact h.sub
  constructor
  · refine List.ext_getElem (by simp [e1]) fun i h1 h2 => ?_
    rw [List.length_map] at h1
    have k2 := congrArg (fun l => l[i]?) hl
    simp only [List.getElem?_map, List.getElem?_eq_getElem h1, List.getElem?_eq_getElem h2, Option.map_some] at k2
    rw [List.getElem_map]
    exact Prod.ext ((key i h1 h2).rd.det (key i h1 h2) hw) (by injection k2)
  · intro p hp
    obtain ⟨i, hi, rfl⟩ := List.getElem_of_mem hp
    exact (key i hi (by omega)).rd
theorem sortR_tr {s : SV} {cs : List Cn} {ms : List Ct} (h5 : cs.map Prod.snd = ms.map Prod.snd) (hl : ∀ m ∈ ms, m.1.length ≤ 1000000) (hn : cs.length ≤ 100000) :
    Tr Try.prog 98 #[.slice s.a s.n s.cap, .func (.func 109) #[] #[]] (SL w0 I (OwnS 80 s cs :: RowH 3 (cs.map Prod.fst) (ms.map Prod.fst) :: L)) (fun _ : List Cn × List Ct => .tuple #[])
      (fun x w => ((x.1.map Prod.snd = x.2.map Prod.snd ∧ x.2.Perm ms) ∧ x.2.Pairwise fun a b => ¬ ltL b.1 a.1) ∧ SL w0 I (OwnS 80 s x.1 :: RowH 3 (x.1.map Prod.fst) (x.2.map Prod.fst) :: L) w) := by
  refine Tr.mk fun w hw => ?_
  obtain ⟨R, hp, h1, back⟩ := (Ent.swap.sl hw).borrow
  obtain ⟨hm, hG⟩ := row_moP (J := R ++ I) hp h5 h1
  have hk : ∀ p ∈ cs, (rd Int (R ++ I) p.1).length ≤ 1000000 := fun p hp => hl _ (by rw [← hm]; exact List.mem_map_of_mem hp)
  refine (Tr.ap (SortFuncK_tr (α := SV × Int) (ρ := Try.sortCount_ren) (caps := []) Try.sortCount Try.isAgg80 Try.sizeOf80 (fun p q : SV × Int => cmpL (rd Int (R ++ I) p.1) (rd Int (R ++ I) q.1)) (swo_cmpL fun x : { x // x ∈ cs } => rd Int (R ++ I) x.1.1) (fun w1 J hJ x hx y hy => by
    haveI : SubI J (R ++ I) := ⟨hJ⟩
    haveI := (hG x hx).sub (I' := J)
    haveI := (hG y hy).sub (I' := J)
    have h1 := hk x hx
    have h2 := hk y hy
    exact Ends2_tr (by omega) (by omega)) (by omega)) h1).mono ?_
  rintro e w' ⟨q, rfl, h⟩
  obtain ⟨qs, q1, q2⟩ := q
  have h2 := back _ _ h
  refine ⟨(qs, qs.map (moP (rd Int (R ++ I)))), rfl, ⟨⟨?_, ?_⟩, ?_⟩, ?_⟩
  · dsimp only; rw [List.map_map]; rfl
  · dsimp only; have h3 := (q1.map (moP (rd Int (R ++ I)))).symm; rw [hm] at h3; exact h3
  · dsimp only; rw [List.pairwise_map]; exact q2
  · have h3 := (RowH.perm (e := 3) (q1.map fun p => (p.1, rd Int (R ++ I) p.1)) (L := OwnS 80 s qs :: L)).sl (by
      rw [List.map_map, List.map_map]
      rw [← hm, List.map_map] at h2
      exact h2)
    rw [List.map_map, List.map_map] at h3
    dsimp only
    rw [List.map_map]
    exact Ent.swap.sl h3
end
end Go.Proofs.Ytlodbajaoadhdaa
