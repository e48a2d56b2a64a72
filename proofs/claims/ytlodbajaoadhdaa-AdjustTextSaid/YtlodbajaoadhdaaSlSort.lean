/- slices.SortFunc, in the words of what is held. Conditions: none. -/
import Derived.Test.YtlodbajaoadhdaaSlRows
import Derived.Test.YtlodbajaoadhdaaSlOpen
import Derived.Shelf.SlSortCmp.NoneTotal
namespace Go.Fw
open Go Go.RowKit Go.Sort
set_option linter.unusedVariables false
set_option linter.unusedSimpArgs false
set_option maxHeartbeats 2000000

theorem St.grown {w0 : World} {H : HeapP} {L : Foot} {w : World} (h : St w0 H L w) (os : Array Obj) : St w0 H L (grow w os) := by
  have hk : ∀ b u, w.heap[b]? = some u → (grow w os).heap[b]? = some u := fun b u e => by
    rw [heap_grow_old w os (Array.getElem?_eq_some_iff.1 e).1]; exact e
  refine ⟨⟨h.below.os, h.below.tape, h.below.output, ?_, fun k hk' => ?_⟩, fun b u e => hk b u (h.imm b u e), fun p hp => ?_, h.nodup, h.drw⟩
  · have := h.below.size; simp only [grow, Array.size_append]; omega
  · rw [heap_grow_old w os (by have := h.below.size; omega)]; exact h.below.block k hk'
  · obtain ⟨h1, h2, h3⟩ := h.own p hp; exact ⟨hk _ _ h1, h2, h3⟩
/-- A world that is as u was below its end: u, with draws on and blocks behind. -/
theorem grown_of_below {u w : World} (h : Below u.heap.size u w) (hd : u.drawn ≤ w.drawn) : ∃ q os, w = grow (u.drewN q) os := by
  refine ⟨w.drawn - u.drawn, w.heap.extract u.heap.size w.heap.size, ?_⟩
  obtain ⟨wh, wt, wd, wo, wp⟩ := w
  obtain ⟨uh, ut, ud, uo, up⟩ := u
  obtain ⟨h1, h2, h3, h4, h5⟩ := h
  simp only at h1 h2 h3 h4 h5 hd
  subst h1 h2 h3
  have e1 : wh = uh ++ wh.extract uh.size wh.size := by
    refine Array.ext_getElem? fun k => ?_
    by_cases hk : k < uh.size
    · rw [Array.getElem?_append_left hk, h5 k hk]
    · rw [Array.getElem?_append_right (by omega)]
      by_cases hk2 : k < wh.size
      · rw [Array.getElem?_extract, if_pos (by omega)]; congr 1; omega
      · rw [Array.getElem?_extract, if_neg (by omega), Array.getElem?_eq_none (by omega)]
  have e2 : wd = ud + (wd - ud) := by omega
  show World.mk _ _ _ _ _ = World.mk (uh ++ wh.extract uh.size wh.size) wt (ud + (wd - ud)) wo wp
  rw [← e1, ← e2]

theorem putCells_take {F c : Array Value} (h : F.size ≤ c.size) : (putCells id 0 F c).toList.take F.size = F.toList ∧ (putCells id 0 F c).size = c.size := by
  refine ⟨List.ext_getElem? fun k => ?_, by simp [putCells]⟩
  by_cases hk : k < F.size
  · rw [List.getElem?_take_of_lt hk]
    simp [putCells, hk, show k < c.size by omega]
  · rw [List.getElem?_take_eq_none (by omega), List.getElem?_eq_none (by simpa using hk)]
/-- The row of a slice that is held alone is laid anew. -/
theorem SL.reput {α : Type} [Enc α] {w0 : World} {I : Foot} {L : List HP} {w : World} {e : TypeId} {s : SV} {xs ys : List α} {g : Nat} (h : SL w0 I (OwnS e s xs :: L) w) (hs : s.a = some ⟨g, 0, none⟩) (hl : ys.length = xs.length) (n : Nat) (os : Array Obj) {F : Array Value} (hF : F.toList = flat ys) :
    SL w0 I (OwnS e s ys :: L) (grow (putRow id (Sort.ahead w n) g 0 F) os) := by
  obtain ⟨H, R, Rs, h1, hp, h2, h3⟩ := h.uncons
  rcases hp.2 with ⟨q1, q2, q3⟩ | ⟨gb, cap, cur, q1, q2, q3, q4, q5, q6⟩
  · simp only [Value.slice.injEq] at q1
    rw [hs] at q1; exact absurd q1.1 (by simp)
  · simp only [Value.slice.injEq] at q1
    obtain ⟨q1, -, q7⟩ := q1
    rw [hs] at q1
    cases q1
    subst q6
    have hfl := hp.1
    rw [flat_len] at hfl
    have hFs : F.size = s.n * Enc.sz α := by rw [← Array.length_toList, hF, flat_len, hl, hfl]
    have hle : F.size ≤ cur.size := by rw [hFs, q4]; exact Nat.mul_le_mul_right _ q2
    obtain ⟨c1, c2⟩ := putCells_take hle
    have hst : St w0 H ((g, .cells cur e (0, 0)) :: Rs.flatten) (Sort.ahead w n) := h3.drawn (w.drawn + n) (Nat.le_add_right _ _)
    have hput : (putRow id (Sort.ahead w n) g 0 F) = (Sort.ahead w n).setRow g (putCells id 0 F cur) := by
      unfold putRow mapBlock World.setRow
      congr 1
      refine Array.ext_getElem? fun k => ?_
      rw [Array.getElem?_modify, Array.getElem?_modify]
      by_cases hk : g = k
      · subst hk
        rw [if_pos rfl, if_pos rfl, hst.at_ (j := 0) rfl]
        rfl
      · rw [if_neg hk, if_neg hk]
    rw [hput]
    refine SL.cons (R := [(g, .cells (putCells id 0 F cur) e (0, 0))]) h1 ⟨by rw [flat_len, hl, hfl], .inr ⟨g, cap, _, ?_, q2, q3, by rw [c2, q4], ?_, rfl⟩⟩ h2 ((hst.putRow _).grown os)
    · rw [hs, q7]
    · rw [← hFs, c1, hF]
theorem SL.row {α : Type} [Enc α] {w0 : World} {I : Foot} {L : List HP} {w : World} {e : TypeId} {s : SV} {xs : List α} (h : SL w0 I (OwnS e s xs :: L) w) (hn : 0 < xs.length) : ∃ g, s.a = some ⟨g, 0, none⟩ ∧ s.n = xs.length ∧ g < w.heap.size ∧ ∀ F : Array Value, F.toList = flat xs → Holds id w g 0 F := by
  obtain ⟨H, R, Rs, h1, hp, h2, h3⟩ := h.uncons
  have hsn := OwnR.len hp
  rcases hp.2 with ⟨q1, q2, q3⟩ | ⟨gb, cap, cur, q1, q2, q3, q4, q5, q6⟩
  · omega
  · simp only [Value.slice.injEq] at q1
    subst q6
    have hat := h3.at_ (j := 0) rfl
    refine ⟨gb, q1.1, hsn, (Array.getElem?_eq_some_iff.1 hat).1, fun F hF j hj => ⟨?_, ?_⟩⟩
    · have hj' : j < (flat xs).length := by rw [← hF]; simpa using hj
      have hg : (flat xs)[j]? = some (F[j]!) := by
        rw [← hF]; simp [hj]
      rw [← q5, List.getElem?_take] at hg
      split at hg
      · simp only [World.cell?, hat, Nat.zero_add, id]
        simpa using hg
      · cases hg
    · simp only [World.frozen?, hat]
      simp
theorem SL.drw {w0 : World} {I : Foot} {L : List HP} {w : World} (h : SL w0 I L w) : w0.drawn ≤ w.drawn := by
  obtain ⟨H, Rs, _, _, h⟩ := h; exact h.drw
/-- What a sort hands back. -/
def SortedOf {α : Type} (cf : α → α → Int) (xs : List α) : Type := { ys : List α // xs.Perm ys ∧ ys.Pairwise fun x y => ¬ cf y x < 0 }
theorem sorted_out {α β : Type} [Inhabited α] (f : α → β) (cf : β → β → Int) {d d' : Array α} (hp : PermIn 0 d.size d d') (hs : SortedIn (Go.Proofs.ltOf fun x y => cf (f x) (f y)) 0 d.size d') :
    (d.toList.map f).Perm (d'.toList.map f) ∧ (d'.toList.map f).Pairwise (fun x y => ¬ cf y x < 0) := by
  obtain ⟨h1, _, h3⟩ := hp
  have e1 : d.extract 0 d.size = d := by simp
  have e2 : d'.extract 0 d.size = d' := by rw [← h1]; simp
  rw [e1, e2] at h3
  refine ⟨h3.symm.map f, ?_⟩
  rw [List.pairwise_map]
  refine List.pairwise_iff_getElem.2 fun i j hi hj hij => ?_
  have hj' : j < d'.size := by simpa using hj
  have hi' : i < d'.size := by simpa using hi
  have := hs i j (Nat.zero_le _) hij (by omega)
  rw [getElem!_pos d' j hj', getElem!_pos d' i hi'] at this
  simpa [Go.Proofs.ltOf] using this
theorem flatK_sub {α : Type} [Enc α] {xs : List α} [Inhabited { x // x ∈ xs }] (d : Array { x // x ∈ xs }) : (flatK (fun x : { x // x ∈ xs } => Enc.cells x.1) (Enc.sz α) d).toList = flat (d.toList.map (·.1)) := by
  have hp := Enc.pos (α := α)
  refine List.ext_getElem? fun t => ?_
  by_cases ht : t < d.size * Enc.sz α
  · have hq : t / Enc.sz α < d.size := (Nat.div_lt_iff_lt_mul hp).2 ht
    have hr : t % Enc.sz α < Enc.sz α := Nat.mod_lt _ hp
    have hl : t % Enc.sz α < (Enc.cells (d[t / Enc.sz α]!).1).length := by rw [Enc.len]; exact hr
    have e := flat_get (d.toList.map (·.1)) (t / Enc.sz α) (t % Enc.sz α) ((Enc.cells (d[t / Enc.sz α]!).1)[t % Enc.sz α]) (by simpa using hq) (by
      have hd := getElem!_pos d (t / Enc.sz α) hq
      simp [List.getD_eq_getElem?_getD, hq, hd])
    rw [Nat.div_add_mod' t (Enc.sz α)] at e
    have hsz : t < (flatK (fun x : { x // x ∈ xs } => Enc.cells x.1) (Enc.sz α) d).toList.length := by rw [Array.length_toList, size_flatK]; exact ht
    rw [e, List.getElem?_eq_getElem hsz, Array.getElem_toList]
    have := get_flatK (fun x : { x // x ∈ xs } => Enc.cells x.1) (Enc.sz α) d t ht
    rw [getElem!_pos _ t (by rw [size_flatK]; exact ht)] at this
    rw [this, getElem!_pos (Enc.cells (d[t / Enc.sz α]!).1) (t % Enc.sz α) hl]
  · rw [List.getElem?_eq_none (by rw [Array.length_toList, size_flatK]; omega), List.getElem?_eq_none (by rw [flat_len, List.length_map, Array.length_toList]; omega)]
section
variable {P : Program} {ρ : Go.Shelf.Ren} {w0 : World} {I : Foot} {L : List HP}
/-- slices.SortFunc, of elements of several cells. -/
theorem SortFuncK_tr {α : Type} [Enc α] (Ly : Go.Proofs.SlLaysF0.n6 P ρ) (aE : ∀ w, (isAgg (ρ.t 24)).run P w = .ok true w) (zE : ∀ w, (Go.sizeOf (ρ.t 24)).run P w = .ok (Enc.sz α) w)
    {e : TypeId} {s : SV} {xs : List α} {g : Nat} {caps : List Value} [hg : Callb P g] (cf : α → α → Int)
    (hO : SWO (Go.Proofs.ltOf fun x y : { x // x ∈ xs } => cf x.1 y.1))
    (hc : ∀ (w1 : World) (J : Foot), I ⊆ J → ∀ x ∈ xs, ∀ y ∈ xs, Tr P g (#[.agg (Enc.cells x).toArray, .agg (Enc.cells y).toArray] ++ caps.toArray) (SL w1 J []) (fun _ : Unit => .int .i64 (cf x y)) (fun _ => SL w1 J []))
    (hn : xs.length ≤ 1000000000) :
    Tr P (ρ.f 6) #[.slice s.a s.n s.cap, .func (.func g) #[] caps.toArray] (SL w0 I (OwnS e s xs :: L)) (fun _ : SortedOf cf xs => .tuple #[]) (fun q => SL w0 I (OwnS e s q.1 :: L)) := by
  intro w hw
  by_cases hx : xs = []
  · subst hx
    have hsn : s.n = 0 := hw.facts.1
    rw [hsn]
    refine (Go.Proofs.AnyF.slices_SortFunc_none Ly s.a s.cap _ w).mono ?_
    rintro e w' ⟨rfl, rfl⟩
    exact ⟨⟨[], List.Perm.refl _, List.Pairwise.nil⟩, rfl, hw⟩
  · have hpos : 0 < xs.length := List.length_pos_iff.2 hx
    obtain ⟨g0, hs, hsn, hblk, hH⟩ := hw.row hpos
    haveI : Inhabited { x // x ∈ xs } := ⟨⟨xs[0], List.getElem_mem _⟩⟩
    have hd : xs.attach.toArray.size = xs.length := by simp
    have hdm : xs.attach.toArray.toList.map (·.1) = xs := by simp
    have hre : ∀ (m : Nat) (os : Array Obj) (dk : Array { x // x ∈ xs }), dk.size = xs.attach.toArray.size → SL w0 I (OwnS e s (dk.toList.map (·.1)) :: L) (Go.Proofs.sortWorldK (fun x : { x // x ∈ xs } => Enc.cells x.1) (Enc.sz α) w g0 0 m dk os) := fun m os dk h => by
      unfold Go.Proofs.sortWorldK putRowK
      exact hw.reput hs (by rw [List.length_map, Array.length_toList, h, hd]) m os (flatK_sub dk)
    have hcl : Go.Proofs.CmpLays P g caps.toArray (fun x : { x // x ∈ xs } => Enc.cells x.1) (Enc.sz α) (fun x y => cf x.1 y.1) g0 0 xs.attach.toArray.size w := by
      intro m os dk h x y
      have hW := hre m os dk h
      refine (hc _ (allB _) (fun p hp => mem_allB.2 (hW.mem p.1 p.2 hp)) x.1 x.2 y.1 y.2 _ (SL.all _)).mono ?_
      rintro e w' ⟨_, rfl, hb⟩
      exact ⟨rfl, grown_of_below hb.below hb.drw⟩
    have key := Go.Proofs.AnyQ.slices_SortFunc Ly (Enc.sz α) aE zE (fun x : { x // x ∈ xs } => Enc.cells x.1) (fun x => Enc.len x.1) (fun x => Enc.one x.1) (fun x y => cf x.1 y.1) hO g caps.toArray g0 0 s.cap xs.attach.toArray w
      (fun args w => run_callFunc hg.out args w) hcl (hH _ (by rw [flatK_sub, hdm])) hblk (by rw [hd]; omega)
    rw [hs, hsn, ← hd]
    refine key.mono ?_
    rintro e w' ⟨rfl, d', n, os, h1, h2, rfl⟩
    have hq := sorted_out (fun x : { x // x ∈ xs } => x.1) cf h1 h2
    rw [hdm] at hq
    exact ⟨⟨_, hq⟩, rfl, hre n os d' h1.1⟩
/-- slices.SortFunc, of elements of one cell. -/
theorem SortFunc1_tr {α : Type} [Enc α] (Ly : Go.Proofs.SlLaysF.n6 P ρ) (hz : Enc.sz α = 1) (v : α → Value) (hv : ∀ x : α, Enc.cells x = [v x])
    {e : TypeId} {s : SV} {xs : List α} {g : Nat} {caps : List Value} [hg : Callb P g] (cf : α → α → Int)
    (hO : SWO (Go.Proofs.ltOf fun x y : { x // x ∈ xs } => cf x.1 y.1))
    (hc : ∀ (w1 : World) (J : Foot), I ⊆ J → ∀ x ∈ xs, ∀ y ∈ xs, Tr P g (#[v x, v y] ++ caps.toArray) (SL w1 J []) (fun _ : Unit => .int .i64 (cf x y)) (fun _ => SL w1 J []))
    (hn : xs.length ≤ 1000000000) :
    Tr P (ρ.f 6) #[.slice s.a s.n s.cap, .func (.func g) #[] caps.toArray] (SL w0 I (OwnS e s xs :: L)) (fun _ : SortedOf cf xs => .tuple #[]) (fun q => SL w0 I (OwnS e s q.1 :: L)) := by
  intro w hw
  by_cases hx : xs = []
  · subst hx
    have hsn : s.n = 0 := hw.facts.1
    rw [hsn]
    refine (Go.Proofs.AnyF.slices_SortFunc_none { Ly with } s.a s.cap _ w).mono ?_
    rintro e w' ⟨rfl, rfl⟩
    exact ⟨⟨[], List.Perm.refl _, List.Pairwise.nil⟩, rfl, hw⟩
  · have hpos : 0 < xs.length := List.length_pos_iff.2 hx
    obtain ⟨g0, hs, hsn, hblk, hH⟩ := hw.row hpos
    haveI : Inhabited { x // x ∈ xs } := ⟨⟨xs[0], List.getElem_mem _⟩⟩
    have hd : xs.attach.toArray.size = xs.length := by simp
    have hdm : xs.attach.toArray.toList.map (·.1) = xs := by simp
    have hfl : ∀ dk : Array { x // x ∈ xs }, (dk.map fun x => v x.1).toList = flat (dk.toList.map (·.1)) := fun dk => by
      have : (Enc.cells : α → List Value) = fun x => [v x] := funext hv
      simp [flat, this, List.flatMap_map]
      induction dk.toList <;> simp_all
    have hpr : ∀ (u : World) (dk : Array { x // x ∈ xs }), putRow (fun x : { x // x ∈ xs } => v x.1) u g0 0 dk = putRow id u g0 0 (dk.map fun x => v x.1) := fun u dk => by
      unfold putRow
      congr 1
      funext c
      unfold putCells
      congr 1
      funext k x
      simp only [Array.size_map]
      split
      · rename_i hk
        rw [getElem!_pos dk _ (by omega), getElem!_pos (dk.map _) _ (by simp; omega)]
        simp
      · rfl
    have hre : ∀ (m : Nat) (os : Array Obj) (dk : Array { x // x ∈ xs }), dk.size = xs.attach.toArray.size → SL w0 I (OwnS e s (dk.toList.map (·.1)) :: L) (Go.Proofs.sortWorld (fun x : { x // x ∈ xs } => v x.1) w g0 0 m dk os) := fun m os dk h => by
      unfold Go.Proofs.sortWorld
      rw [hpr]
      exact hw.reput hs (by rw [List.length_map, Array.length_toList, h, hd]) m os (hfl dk)
    have hcl : Go.Proofs.CmpLays1 P g caps.toArray (fun x : { x // x ∈ xs } => v x.1) (fun x y => cf x.1 y.1) g0 0 xs.attach.toArray.size w := by
      intro m os dk h x y
      have hW := hre m os dk h
      refine (hc _ (allB _) (fun p hp => mem_allB.2 (hW.mem p.1 p.2 hp)) x.1 x.2 y.1 y.2 _ (SL.all _)).mono ?_
      rintro e w' ⟨_, rfl, hb⟩
      exact ⟨rfl, grown_of_below hb.below hb.drw⟩
    have hHo : Holds (fun x : { x // x ∈ xs } => v x.1) w g0 0 xs.attach.toArray := fun j hj => by
      have := hH (xs.attach.toArray.map fun x => v x.1) (by rw [hfl, hdm]) j (by simpa using hj)
      rw [getElem!_pos _ j (by simpa using hj)] at this
      rw [getElem!_pos xs.attach.toArray j hj]
      simpa using this
    have key := Go.Proofs.Any.slices_SortFunc Ly (fun x : { x // x ∈ xs } => v x.1) (fun x => Enc.one x.1 _ (by rw [hv]; exact List.mem_singleton.2 rfl)) (fun x y => cf x.1 y.1) hO g caps.toArray g0 0 s.cap xs.attach.toArray w
      (fun args w => run_callFunc hg.out args w) hcl hHo hblk (by rw [hd]; omega)
    rw [hs, hsn, ← hd]
    refine key.mono ?_
    rintro e w' ⟨rfl, d', n, os, h1, h2, rfl⟩
    have hq := sorted_out (fun x : { x // x ∈ xs } => x.1) cf h1 h2
    rw [hdm] at hq
    exact ⟨⟨_, hq⟩, rfl, hre n os d' h1.1⟩
end
end Go.Fw
