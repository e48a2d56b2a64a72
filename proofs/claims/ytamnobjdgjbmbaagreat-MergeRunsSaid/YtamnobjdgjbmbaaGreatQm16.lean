/- Texts that MergeRuns_law leans on, part 16. Conditions: none. -/
import Derived.MapKept
import Derived.WideMake
import Derived.Shelf.SlSortCmp.NoneTotal
import Derived.Shelf.Slices.In.SortNone
import Derived.Shelf.Sort.Plain
import Derived.Shelf.Slices.CompactI
import Derived.Shelf.Slices.SearchI
import Derived.Shelf.Slices.Empties
import Derived.Shelf.Strconv.Itoa0
import Derived.Test.YtamnobjdgjbmbaaGreatProg
import Derived.Test.YtamnobjdgjbmbaaGreatQm15
namespace Go.Proofs.YtamnobjdgjbmbaaGreat
open Go Go.Fw Go.RowKit
set_option linter.unusedVariables false
set_option linter.unusedSimpArgs false
set_option maxRecDepth 100000
set_option maxHeartbeats 16000000
set_option synthInstance.maxHeartbeats 200000
set_option synthInstance.maxSize 100000
attribute [local irreducible] WPA WLA WDA WDQ WDE QQ seqQ blockQ loopQ fnQ OpP OpT Tr TrP SL SLd OwnS LitS Bk BkE Ob
attribute [local irreducible] RowH CtsH
def LstI (J : Foot) (v : SV) (ms : List Ct) : Prop := ∃ cs : List Pe, SlI J v Pe inferInstance cs ∧ cs.map Prod.snd = ms.map Prod.snd ∧ ∀ i : Nat, i < cs.length → SlI J (at_ cs (i : Int)).1 Int inferInstance (ms.getD i ([], 0)).1
theorem LstI.sub {J J' : Foot} {v : SV} {ms : List Ct} (h : LstI J v ms) (hs : SubI J' J) : LstI J' v ms := by
  obtain ⟨cs, h1, h2, h3⟩ := h
  exact ⟨cs, h1.sub, h2, fun i hi => (h3 i hi).sub⟩
theorem LstI.ofMap {J : Foot} {v : SV} {cs : List Pe} {kg : SV → List Int} (h : SlI J v Pe inferInstance cs) (hg : GrG J kg cs) : LstI J v (cs.map (ctP kg)) :=
  ⟨cs, h, by rw [List.map_map]; rfl, fun i hi => by
    rw [List.getD_eq_getElem?_getD, List.getElem?_map, List.getElem?_eq_getElem hi, at_nat cs i hi]
    exact hg _ (List.getElem_mem _)⟩
theorem LstI.ofCts {x : SV} {ms : List Ct} {R : Foot} (h : CtsH x ms R) : LstI R x ms := h.frozen
theorem LstI.nil {J : Foot} : LstI J SV.nil [] := ⟨[], SlI.nil, rfl, fun i hi => by simp at hi⟩
theorem LstI.len {J : Foot} {v : SV} {ms : List Ct} (h : LstI J v ms) {w0 : World} {L : List HP} {w : World} (hw : SL w0 J L w) : v.n = ms.length := by
  obtain ⟨cs, h1, h2, _⟩ := h
  have := (h1.out w fun b o hb => hw.mem b o hb).len
  have e := congrArg List.length h2
  simp only [List.length_map] at e
  omega
theorem LstI.good {J : Foot} {v : SV} {ms : List Ct} (h : LstI J v ms) {w0 : World} {L : List HP} {w : World} (hw : SL w0 J L w) :
    SlI J v Pe inferInstance (rd Pe J v) ∧ GrG J (rd Int J) (rd Pe J v) ∧ (rd Pe J v).map (ctP (rd Int J)) = ms := by
  obtain ⟨cs, k1, k2, k3⟩ := h
  have e := k1.rd.det k1 hw
  have e1 : cs.length = ms.length := by have := congrArg List.length k2; simpa using this
  rw [e]
  refine ⟨k1, fun p hp => ?_, ?_⟩
  · obtain ⟨j, hj, rfl⟩ := List.getElem_of_mem hp
    have := k3 j hj
    rw [at_nat cs j hj] at this
    exact this.rd
  · refine List.ext_getElem (by simp [e1]) fun j j1 j2 => ?_
    rw [List.length_map] at j1
    have q := k3 j j1
    rw [at_nat cs j j1, List.getD_eq_getElem?_getD, List.getElem?_eq_getElem j2, Option.getD_some] at q
    have q2 := congrArg (fun l => l[j]?) k2
    simp only [List.getElem?_map, List.getElem?_eq_getElem j1, List.getElem?_eq_getElem j2, Option.map_some] at q2
    rw [List.getElem_map]
    exact Prod.ext (q.rd.det q hw) (by injection q2)
def Rows {α : Type} [Enc α] (R : α → PR → Prop) (es : List α) (l : List PR) : Prop := es.length = l.length ∧ ∀ i : Nat, i < l.length → R (at_ es (i : Int)) (l.getD i ([], []))
section
variable {α : Type} [Enc α] {R R' : α → PR → Prop} {es : List α} {l : List PR}
theorem Rows.mono (h : Rows R es l) (k : ∀ a r, R a r → R' a r) : Rows R' es l := ⟨h.1, fun i hi => k _ _ (h.2 i hi)⟩
theorem Rows.nil : Rows R [] [] := ⟨rfl, fun i hi => absurd hi (Nat.not_lt_zero i)⟩
theorem Rows.get (h : Rows R es l) {i : Nat} (hi : i < l.length) : R (es[i]'(by have := h.1; omega)) l[i] := by
  have := h.2 i hi
  rw [at_nat es i (by have := h.1; omega), List.getD_eq_getElem?_getD, List.getElem?_eq_getElem hi] at this
  exact this
theorem Rows.of (h : es.length = l.length) (k : ∀ i (h1 : i < es.length) (h2 : i < l.length), R es[i] l[i]) : Rows R es l := ⟨h, fun i hi => by
  rw [at_nat es i (by omega), List.getD_eq_getElem?_getD, List.getElem?_eq_getElem hi]
  exact k i (by omega) hi⟩
theorem Rows.snoc {a : α} {r : PR} (h : Rows R es l) (ha : R a r) : Rows R (es ++ [a]) (l ++ [r]) := by
  have hl := h.1
  refine Rows.of (by simp [hl]) fun i h1 h2 => ?_
  rw [List.length_append, List.length_singleton] at h1 h2
  by_cases e : i < l.length
  · rw [List.getElem_append_left (by omega), List.getElem_append_left e]; exact h.get e
  · have e1 : i = l.length := by omega
    subst e1
    rw [List.getElem_append_right (by omega), List.getElem_append_right (by omega)]
    simpa using ha
theorem Rows.take (h : Rows R es l) (n : Nat) : Rows R (es.take n) (l.take n) := by
  have hl := h.1
  refine Rows.of (by simp [hl]) fun i h1 h2 => ?_
  rw [List.length_take] at h2
  rw [List.getElem_take, List.getElem_take]
  exact h.get (by omega)
theorem Rows.drop (h : Rows R es l) (n : Nat) : Rows R (es.drop n) (l.drop n) := by
  have hl := h.1
  refine Rows.of (by simp [hl]) fun i h1 h2 => ?_
  rw [List.length_drop] at h2
  rw [List.getElem_drop, List.getElem_drop]
  exact h.get (by omega)
end
abbrev RE := Int × Int × SV
abbrev RF := SV × SV
def PRunI (J : Foot) (o : Int) (e : RE) (r : PR) : Prop := (e.1 = o ∧ e.2.1 = (r.2.length : Nat)) ∧ SlI J e.2.2 Int inferInstance r.1
def RRunI (J : Foot) (e : RF) (r : PR) : Prop := SlI J e.1 Int inferInstance r.1 ∧ LstI J e.2 r.2
theorem PRunI.sub {J J' : Foot} {o : Int} {e : RE} {r : PR} (h : PRunI J o e r) (hs : SubI J' J) : PRunI J' o e r := ⟨h.1, h.2.sub⟩
theorem RRunI.sub {J J' : Foot} {e : RF} {r : PR} (h : RRunI J e r) (hs : SubI J' J) : RRunI J' e r := ⟨h.1.sub, h.2.sub hs⟩
end Go.Proofs.YtamnobjdgjbmbaaGreat
namespace Go.Fw
open Go Go.RowKit Go.MapKept
set_option linter.unusedVariables false
set_option linter.unusedSimpArgs false
structure Keyed (es : Array MapEntry) (f : Int → Int) : Prop where
  key : ∀ (i : Nat) (e : MapEntry), es[i]? = some e → ∃ k, e.key = .int .i64 k ∧ e.val = .int .i64 (f k)
  inj : ∀ (i j : Nat) (e e' : MapEntry), es[i]? = some e → es[j]? = some e' → e.key = e'.key → i = j
  out : ∀ k : Int, (∀ (i : Nat) (e : MapEntry), es[i]? = some e → e.key ≠ .int .i64 k) → f k = 0
theorem Keyed.nil : Keyed #[] (fun _ => 0) := ⟨fun i e h => by simp at h, fun i j e e' h => by simp at h, fun k h => rfl⟩
def setF (f : Int → Int) (k v : Int) : Int → Int := fun j => if j = k then v else f j
theorem Keyed.push {es : Array MapEntry} {f : Int → Int} (h : Keyed es f) {k v : Int} {c : Nat} (hn : ∀ (i : Nat) (e : MapEntry), es[i]? = some e → e.key ≠ .int .i64 k) : Keyed (es.push { key := .int .i64 k, val := .int .i64 v, born := c }) (setF f k v) := by
  have hp : ∀ (i : Nat) (e : MapEntry), (es.push { key := .int .i64 k, val := .int .i64 v, born := c })[i]? = some e → (i < es.size ∧ es[i]? = some e) ∨ (i = es.size ∧ e = { key := .int .i64 k, val := .int .i64 v, born := c }) := by
    intro i e hi
    rw [Array.getElem?_push] at hi
    split at hi
    · rename_i e1; exact .inr ⟨e1, (Option.some.inj hi).symm⟩
    · exact .inl ⟨(Array.getElem?_eq_some_iff.1 hi).1, hi⟩
  refine ⟨fun i e hi => ?_, fun i j e e' hi hj he => ?_, fun j hj => ?_⟩
  · rcases hp i e hi with ⟨_, h1⟩ | ⟨_, rfl⟩
    · obtain ⟨q, h2, h3⟩ := h.key i e h1
      have hq : q ≠ k := fun e1 => hn i e h1 (by rw [h2, e1])
      exact ⟨q, h2, by rw [h3, setF, if_neg hq]⟩
    · exact ⟨k, rfl, by rw [setF, if_pos rfl]⟩
  · rcases hp i e hi with ⟨h1, h2⟩ | ⟨h1, rfl⟩ <;> rcases hp j e' hj with ⟨h3, h4⟩ | ⟨h3, rfl⟩
    · exact h.inj i j e e' h2 h4 he
    · exact absurd he (hn i e h2)
    · exact absurd he.symm (hn j e' h4)
    · omega
  · have hjk : j ≠ k := fun e1 => by
      subst e1
      exact hj es.size _ (by rw [Array.getElem?_push, if_pos rfl]) rfl
    rw [setF, if_neg hjk]
    refine h.out j fun i e hi => hj i e ?_
    rw [Array.getElem?_push, if_neg]
    · exact hi
    · have := (Array.getElem?_eq_some_iff.1 hi).1; omega
theorem Keyed.upd {es : Array MapEntry} {f : Int → Int} (h : Keyed es f) {k v : Int} {j : Nat} {e0 : MapEntry} (hj : es[j]? = some e0) (hk : e0.key = .int .i64 k) : Keyed (es.modify j fun e => { e with key := .int .i64 k, val := .int .i64 v }) (setF f k v) := by
  have hp : ∀ (i : Nat) (e : MapEntry), (es.modify j fun e => { e with key := .int .i64 k, val := .int .i64 v })[i]? = some e → (i ≠ j ∧ es[i]? = some e) ∨ (i = j ∧ e.key = .int .i64 k ∧ e.val = .int .i64 v) := by
    intro i e hi
    rw [Array.getElem?_modify] at hi
    split at hi
    · rename_i e1
      subst e1
      rw [hj] at hi
      have := Option.some.inj hi
      subst this
      exact .inr ⟨rfl, rfl, rfl⟩
    · rename_i e1; exact .inl ⟨fun e2 => e1 e2.symm, hi⟩
  refine ⟨fun i e hi => ?_, fun i i' e e' hi hi' he => ?_, fun q hq => ?_⟩
  · rcases hp i e hi with ⟨h0, h1⟩ | ⟨_, h1, h2⟩
    · obtain ⟨q, h2, h3⟩ := h.key i e h1
      have hq : q ≠ k := fun e1 => h0 (h.inj i j e e0 h1 hj (by rw [h2, hk, e1]))
      exact ⟨q, h2, by rw [h3, setF, if_neg hq]⟩
    · exact ⟨k, h1, by rw [h2, setF, if_pos rfl]⟩
  · rcases hp i e hi with ⟨h0, h1⟩ | ⟨h0, h1, _⟩ <;> rcases hp i' e' hi' with ⟨h3, h4⟩ | ⟨h3, h4, _⟩
    · exact h.inj i i' e e' h1 h4 he
    · exact absurd (h.inj i j e e0 h1 hj (by rw [he, h4, hk])) h0
    · exact absurd (h.inj i' j e' e0 h4 hj (by rw [← he, h1, hk])) h3
    · omega
  · have hqk : q ≠ k := fun e1 => by
      subst e1
      exact hq j { e0 with key := .int .i64 q, val := .int .i64 v } (by rw [Array.getElem?_modify, if_pos rfl, hj]; rfl) rfl
    rw [setF, if_neg hqk]
    refine h.out q fun i e hi => ?_
    by_cases e1 : i = j
    · subst e1
      rw [hj] at hi
      rw [← Option.some.inj hi, hk]
      intro e2; injection e2 with _ e2; exact hqk e2.symm
    · exact hq i e (by rw [Array.getElem?_modify, if_neg (fun e2 => e1 e2.symm)]; exact hi)
def MapH (r : Nat) (f : Int → Int) : HP := fun R => ∃ es clock, Keyed es f ∧ R = [(r, .map es clock)]
theorem SL.map {w0 w : World} {I : Foot} {L : List HP} {r : Nat} {f : Int → Int} (h : SL w0 I (MapH r f :: L) w) : ∃ es clock, Keyed es f ∧ w.heap[r]? = some (.map es clock) := by
  obtain ⟨R, ⟨es, clock, hk, rfl⟩, hm⟩ := h.heap
  exact ⟨es, clock, hk, hm _ _ (List.mem_singleton.2 rfl)⟩
theorem Keyed.find {es : Array MapEntry} {f : Int → Int} (h : Keyed es f) (k : Int) :
    (Instr.findNow (.int .i64) (.int .i64 k) es.toList 0 = some none ∧ ∀ (i : Nat) (e : MapEntry), es[i]? = some e → e.key ≠ .int .i64 k) ∨ ∃ j e, Instr.findNow (.int .i64) (.int .i64 k) es.toList 0 = some (some (j, e.val)) ∧ es[j]? = some e ∧ e.key = .int .i64 k := by
  have hks : ∀ x ∈ es.toList, IsKey (.int .i64) x.key := fun x hx => by
    obtain ⟨i, hi, e⟩ := List.mem_iff_getElem.1 hx
    obtain ⟨q, h1, _⟩ := h.key i x (by rw [← e, Array.getElem_toList, Array.getElem?_eq_getElem])
    rw [h1]; rfl
  rcases findNow_spec (d := .int .i64) (k := .int .i64 k) rfl es.toList 0 hks with ⟨h1, h2⟩ | ⟨j, e, h1, h2, h3⟩
  · exact .inl ⟨h1, fun i e hi => h2 e (by rw [Array.mem_toList_iff]; exact Array.mem_of_getElem? hi)⟩
  · refine .inr ⟨j, e, by rw [h1, Nat.zero_add], ?_, h3⟩
    rw [Array.getElem?_toList] at h2; exact h2
class ZeroV (P : Program) (t : TypeId) (v : Value) : Prop where
  out : (P.info? t).bind (·.zero) = some v
theorem ZeroV.run {P : Program} {t : TypeId} {v : Value} (h : ZeroV P t v) {w : World} : (zeroValue t).run P w = .ok v w := by
  obtain ⟨i, h1, h2⟩ := Option.bind_eq_some_iff.1 h.out
  simp [zeroValue, typeInfo, h1, h2, Result.andThen, go_sem]
section
variable {P : Program} {ρ : Env} {A : World → Prop} {ty : TypeId} {w0 : World} {I : Foot} {L : List HP}
instance {t : TypeId} [hA : InSL A w0 I L] : OpE P ρ A (.makeMap t none) ty Nat (fun r => .map (some r)) (fun r => SL w0 I (MapH r (fun _ => 0) :: L)) True := ⟨fun _ => OpT.sl fun w hw d pos af g => by
  have e : (execOp (evalE ρ) ⟨d, .makeMap t none, ty, pos, af, g⟩).run P w = .ok (.value (.map (some w.heap.size))) (w.alloc (.map #[] 0)) := by
    simp [execOp, run_makeMap_plain, Result.andThen, go_sem]
  rw [e]
  exact ⟨w.heap.size, rfl, hw.push _ _ ⟨#[], 0, Keyed.nil, rfl⟩⟩⟩
instance {t kt et : TypeId} {x y : Operand} {r : Nat} {k : Int} {f : Int → Int} {L' : List HP} [hx : Ev ρ x (.map (some r))] [hy : Ev ρ y (.int .i64 k)] [ht : Und P t (.map kt et)] [hk : Und P kt (.int .i64)] [hz : ZeroV P et (.int .i64 0)] [hA : InSL A w0 I L] [hm : FindK L MapH r f L'] :
    OpM P ρ A (.lookup t x y false) ty (.int .i64 (f k)) True := ⟨fun _ => OpP.at fun w hw => by
  obtain ⟨es, clock, hK, hb⟩ := (hm.out.sl (hA.out w hw)).map
  intro d pos af g u hu
  subst hu
  have hkk : IsKey (.int .i64) (.int .i64 k) := rfl
  rcases hK.find k with ⟨h1, h2⟩ | ⟨j, e, h1, h2, h3⟩
  · have h0 := hK.out k h2
    simp [execOp, Instr.lookup, hx.out, hy.out, run_underlying ht.out, Go.MapKept.run_getObj_map hb, run_checkKey hk.out hkk, run_findKey hk.out h1, Result.andThen, go_sem, hz.run, h0]
  · obtain ⟨q, h4, h5⟩ := hK.key j e h2
    have hq : q = k := by rw [h3] at h4; injection h4 with _ h4; exact h4.symm
    subst hq
    simp [execOp, Instr.lookup, hx.out, hy.out, run_underlying ht.out, Go.MapKept.run_getObj_map hb, run_checkKey hk.out hkk, run_findKey hk.out h1, Result.andThen, go_sem, h5]⟩
instance {t kt et : TypeId} {x y z : Operand} {r : Nat} {k v : Int} {f : Int → Int} {L' : List HP} [hx : Ev ρ x (.map (some r))] [hy : Ev ρ y (.int .i64 k)] [hz : Ev ρ z (.int .i64 v)] [ht : Und P t (.map kt et)] [hk : Und P kt (.int .i64)] [hA : InSL A w0 I L] [hm : FindK L MapH r f L'] :
    OpS P ρ A (.mapUpdate t x y z) ty (SL w0 I (MapH r (setF f k v) :: L')) True := ⟨fun _ => OpT.slS fun w hw d pos af g => by
  obtain ⟨H, R, Rs, h1, ⟨es, clock, hK, rfl⟩, h3, h4⟩ := (hm.out.sl hw).uncons
  have hb : w.heap[r]? = some (.map es clock) := h4.at_ (j := 0) rfl
  have hkk : IsKey (.int .i64) (.int .i64 k) := rfl
  have fin : ∀ (es' : Array MapEntry) (clock' : Nat), Keyed es' (setF f k v) → SL w0 I (MapH r (setF f k v) :: L') (w.putObj r (.map es' clock')) := fun es' clock' hk' => SL.cons h1 (R := [(r, .map es' clock')]) ⟨es', clock', hk', rfl⟩ h3 (h4.putObj _)
  rcases hK.find k with ⟨h5, h6⟩ | ⟨j, e, h5, h6, h7⟩
  · have e1 : (execOp (evalE ρ) ⟨d, .mapUpdate t x y z, ty, pos, af, g⟩).run P w = .ok .skip (w.putObj r (.map (es.push { key := .int .i64 k, val := .int .i64 v, born := clock }) (clock + 1))) := by
      simp [execOp, Instr.mapUpdate, hx.out, hy.out, hz.out, run_underlying ht.out, Go.MapKept.run_getObj_map hb, run_checkKey hk.out hkk, run_findKey hk.out h5, Go.MapKept.run_setObj_map _ hb, Result.andThen, go_sem, World.putObj]
    rw [e1]
    exact fin _ _ (hK.push h6)
  · have e1 : (execOp (evalE ρ) ⟨d, .mapUpdate t x y z, ty, pos, af, g⟩).run P w = .ok .skip (w.putObj r (.map (es.modify j fun e => { e with key := .int .i64 k, val := .int .i64 v }) clock)) := by
      simp [execOp, Instr.mapUpdate, hx.out, hy.out, hz.out, run_underlying ht.out, Go.MapKept.run_getObj_map hb, run_checkKey hk.out hkk, run_findKey hk.out h5, h6, h7, run_keyThatStays hkk, Go.MapKept.run_setObj_map _ hb, Result.andThen, go_sem, World.putObj]
    rw [e1]
    exact fin _ _ (hK.upd h6 h7)⟩
end
end Go.Fw
namespace Go.Proofs.YtamnobjdgjbmbaaGreat
open Go Go.Fw Go.RowKit
set_option linter.unusedVariables false
set_option linter.unusedSimpArgs false
set_option maxRecDepth 100000
set_option maxHeartbeats 16000000
set_option synthInstance.maxHeartbeats 200000
set_option synthInstance.maxSize 100000
attribute [local irreducible] WPA WLA WDA WDQ WDE QQ seqQ blockQ loopQ fnQ OpP OpT Tr TrP SL SLd OwnS LitS Bk BkE Ob
attribute [local irreducible] vS keyS parL RowH CtsH MapH
instance : ZeroV Tryz.prog 3 (.int .i64 0) := ⟨by kernel_rfl⟩
def cntF (l : List Int) : Int → Int := fun k => (l.count k : Nat)
theorem cnt_snoc (l : List Int) (k : Int) : setF (cntF l) k (cntF l k + 1) = cntF (l ++ [k]) := by
  funext j
  unfold setF cntF
  by_cases e : j = k
  · subst e; rw [if_pos rfl, List.count_append, List.count_singleton_self]; rfl
  · rw [if_neg e, List.count_append, List.count_singleton]; simp [Ne.symm e]
theorem cnt_nil : cntF [] = fun _ => 0 := rfl
theorem nodup_snoc {l : List Int} {k : Int} (h : l.Nodup) : (l ++ [k]).Nodup ↔ ¬ 0 < cntF l k := by
  have hc : 0 < cntF l k ↔ k ∈ l := by unfold cntF; rw [Int.natCast_pos, List.count_pos_iff]
  rw [hc, List.nodup_append]
  constructor
  · exact fun h1 hk => h1.2.2 k hk k (List.mem_singleton.2 rfl) rfl
  · exact fun hk => ⟨h, by simp, fun a ha b hb e => hk (by rw [List.mem_singleton.1 hb] at e; rw [← e]; exact ha)⟩
def ChkA (o : Int) (es : List RE) (ids : List (List Int)) : Prop := (∀ i : Nat, i < es.length → (at_ es (i : Int)).1 = o) ∧ ids.flatten.Nodup
theorem flat_take_succ {ids : List (List Int)} {i : Nat} (h : i < ids.length) : (ids.take (i + 1)).flatten = (ids.take i).flatten ++ ids.getD i [] := by
  rw [List.take_add_one, List.getElem?_eq_getElem h, List.getD_eq_getElem?_getD, List.getElem?_eq_getElem h, List.flatten_append]; simp
theorem flat_pre {ids : List (List Int)} {i j : Nat} (h : i < ids.length) (hn : ids.flatten.Nodup) : ((ids.take i).flatten ++ (ids.getD i []).take j).Nodup := by
  have e : ids.flatten = (ids.take (i + 1)).flatten ++ (ids.drop (i + 1)).flatten := by rw [← List.flatten_append, List.take_append_drop]
  rw [e, flat_take_succ h] at hn
  have h1 := (List.nodup_append.1 hn).1
  exact h1.sublist (List.Sublist.append (List.Sublist.refl _) (List.take_sublist _ _))
section
variable {S : Nat} {m : BS} {L L' : List HP} {w0 : World} {I : Foot}
theorem mck_arg {o f : Int} {s : SV} (h : ¬ ((1 ≤ o ∧ o ≤ 8) ∧ 2 ≤ f)) : Tr Tryz.prog 42 #[.pointer (some ⟨S, 0, none⟩), .int .i64 o, .slice s.a s.n s.cap, .int .i64 f] (SL w0 I L) (fun _ : Unit => .int .i64 1) (fun _ => SL w0 I L) := by
  refine Tr.intro Tryz.func42 rfl Tryz.ntmps42 rfl ?_
  by_cases h1 : o < 1
  · skip
    repeat' (first | ((first | refine WLA.m rfl rfl ?_ ?_ | refine WLA.st rfl ?_ ?_ | refine WLA.x rfl rfl ?_ (fun x => ?_) | refine WLA.x0 rfl ?_ (fun x => ?_)); first | exact trivial | exact rfl | assumption | omega | (refine ⟨?_, ?_⟩ <;> omega) | (simp only [Room, lenS]; omega) | decide | skip) | (refine Stp.go ?_) | (refine WPA.ifT ?_) | (refine WPA.ifF ?_) | (refine WLA.no rfl rfl ?_) | ((first | refine WPA.dec ?_ | ((fail_if_success (guard_target =~ WLA _ _ _ _ _ _ (put1 _ _ (.bool true)) _)); (fail_if_success (guard_target =~ WLA _ _ _ _ _ _ (put1 _ _ (.bool false)) _)); refine WLA.dec rfl rfl ?_) | refine WLA.pk ?_); first | refine .inl ⟨by first | assumption | omega | with_reducible rfl | (refine fun h => h ?_; first | assumption | with_reducible rfl) | (simp only [lenS] <;> omega) | decide, ?_⟩ | refine .inr ⟨by first | assumption | omega | with_reducible rfl | (refine fun h => h ?_; first | assumption | with_reducible rfl) | (simp only [lenS] <;> omega) | decide, ?_⟩) | ((first | refine WPA.ifBt ?_ ?_ | refine WPA.ifBnf ?_ ?_); assumption) | ((first | refine WPA.ifBnt ?_ ?_ | refine WPA.ifBf ?_ ?_); assumption) | ((first | refine WPA.ifs ?_ ?_ | refine WPA.ifB ?_ ?_) <;> intro hc) | ((fail_if_success (guard_target =~ WLA _ _ _ _ _ _ (put1 _ _ (.bool true)) _)); (fail_if_success (guard_target =~ WLA _ _ _ _ _ _ (put1 _ _ (.bool false)) _)); (first | refine WLA.both rfl rfl ?_ ?_ | refine WLA.bothB rfl rfl ?_ ?_) <;> intro hg))
    exact QQ.end_ rfl () rfl fun w h => h.to
  by_cases h2 : 8 < o
  · skip
    repeat' (first | ((first | refine WLA.m rfl rfl ?_ ?_ | refine WLA.st rfl ?_ ?_ | refine WLA.x rfl rfl ?_ (fun x => ?_) | refine WLA.x0 rfl ?_ (fun x => ?_)); first | exact trivial | exact rfl | assumption | omega | (refine ⟨?_, ?_⟩ <;> omega) | (simp only [Room, lenS]; omega) | decide | skip) | (refine Stp.go ?_) | (refine WPA.ifT ?_) | (refine WPA.ifF ?_) | (refine WLA.no rfl rfl ?_) | ((first | refine WPA.dec ?_ | ((fail_if_success (guard_target =~ WLA _ _ _ _ _ _ (put1 _ _ (.bool true)) _)); (fail_if_success (guard_target =~ WLA _ _ _ _ _ _ (put1 _ _ (.bool false)) _)); refine WLA.dec rfl rfl ?_) | refine WLA.pk ?_); first | refine .inl ⟨by first | assumption | omega | with_reducible rfl | (refine fun h => h ?_; first | assumption | with_reducible rfl) | (simp only [lenS] <;> omega) | decide, ?_⟩ | refine .inr ⟨by first | assumption | omega | with_reducible rfl | (refine fun h => h ?_; first | assumption | with_reducible rfl) | (simp only [lenS] <;> omega) | decide, ?_⟩) | ((first | refine WPA.ifBt ?_ ?_ | refine WPA.ifBnf ?_ ?_); assumption) | ((first | refine WPA.ifBnt ?_ ?_ | refine WPA.ifBf ?_ ?_); assumption) | ((first | refine WPA.ifs ?_ ?_ | refine WPA.ifB ?_ ?_) <;> intro hc) | ((fail_if_success (guard_target =~ WLA _ _ _ _ _ _ (put1 _ _ (.bool true)) _)); (fail_if_success (guard_target =~ WLA _ _ _ _ _ _ (put1 _ _ (.bool false)) _)); (first | refine WLA.both rfl rfl ?_ ?_ | refine WLA.bothB rfl rfl ?_ ?_) <;> intro hg))
    exact QQ.end_ rfl () rfl fun w h => h.to
  have h3 : f < 2 := by omega
  repeat' (first | ((first | refine WLA.m rfl rfl ?_ ?_ | refine WLA.st rfl ?_ ?_ | refine WLA.x rfl rfl ?_ (fun x => ?_) | refine WLA.x0 rfl ?_ (fun x => ?_)); first | exact trivial | exact rfl | assumption | omega | (refine ⟨?_, ?_⟩ <;> omega) | (simp only [Room, lenS]; omega) | decide | skip) | (refine Stp.go ?_) | (refine WPA.ifT ?_) | (refine WPA.ifF ?_) | (refine WLA.no rfl rfl ?_) | ((first | refine WPA.dec ?_ | ((fail_if_success (guard_target =~ WLA _ _ _ _ _ _ (put1 _ _ (.bool true)) _)); (fail_if_success (guard_target =~ WLA _ _ _ _ _ _ (put1 _ _ (.bool false)) _)); refine WLA.dec rfl rfl ?_) | refine WLA.pk ?_); first | refine .inl ⟨by first | assumption | omega | with_reducible rfl | (refine fun h => h ?_; first | assumption | with_reducible rfl) | (simp only [lenS] <;> omega) | decide, ?_⟩ | refine .inr ⟨by first | assumption | omega | with_reducible rfl | (refine fun h => h ?_; first | assumption | with_reducible rfl) | (simp only [lenS] <;> omega) | decide, ?_⟩) | ((first | refine WPA.ifBt ?_ ?_ | refine WPA.ifBnf ?_ ?_); assumption) | ((first | refine WPA.ifBnt ?_ ?_ | refine WPA.ifBf ?_ ?_); assumption) | ((first | refine WPA.ifs ?_ ?_ | refine WPA.ifB ?_ ?_) <;> intro hc) | ((fail_if_success (guard_target =~ WLA _ _ _ _ _ _ (put1 _ _ (.bool true)) _)); (fail_if_success (guard_target =~ WLA _ _ _ _ _ _ (put1 _ _ (.bool false)) _)); (first | refine WLA.both rfl rfl ?_ ?_ | refine WLA.bothB rfl rfl ?_ ?_) <;> intro hg))
  exact QQ.end_ rfl () rfl fun w h => h.to
theorem mck_tr {o f e : Int} {s : SV} {es : List RE} {ids : List (List Int)} [h : FindK L StoreR S m L'] (ho : (1 ≤ o ∧ o ≤ 8) ∧ 2 ≤ f) (hs : SlI I s RE inferInstance es) (hl : es.length = ids.length) (hB : ∀ i : Nat, i < es.length → SlI I (at_ es (i : Int)).2.2 Int inferInstance (ids.getD i []))
    (hn : es.length ≤ 100000) (hi : ∀ x ∈ ids, x.length ≤ 1000000)
    (he : (¬ ChkA o es ids ∧ e = 1) ∨ (ChkA o es ids ∧ (m.tk.length = m.ts.length ∧ TxB m) ∧ ∃ T : Nat → ByteArray, (∀ i : Nat, i < es.length → 0 ≤ (at_ es (i : Int)).2.1 ∧ txtN m (ids.getD i []) (ids.getD i []).length = some (T i)) ∧ e = fstN (fun i => rdE (readS o (at_ es (i : Int)).2.1 (T i))) es.length)) :
    Tr Tryz.prog 42 #[.pointer (some ⟨S, 0, none⟩), .int .i64 o, .slice s.a s.n s.cap, .int .i64 f] (SL w0 I L) (fun _ : Unit => .int .i64 e) (fun _ => SL w0 I (StoreR S m :: L')) := by
  refine Tr.at h.out ?_
  refine Tr.intro Tryz.func42 rfl Tryz.ntmps42 rfl ?_
  repeat' (first | ((first | refine WLA.m rfl rfl ?_ ?_ | refine WLA.st rfl ?_ ?_ | refine WLA.x rfl rfl ?_ (fun x => ?_) | refine WLA.x0 rfl ?_ (fun x => ?_)); first | exact trivial | exact rfl | assumption | omega | (refine ⟨?_, ?_⟩ <;> omega) | (simp only [Room, lenS]; omega) | decide | skip) | (refine Stp.go ?_) | (refine WPA.ifT ?_) | (refine WPA.ifF ?_) | (refine WLA.no rfl rfl ?_) | ((first | refine WPA.dec ?_ | ((fail_if_success (guard_target =~ WLA _ _ _ _ _ _ (put1 _ _ (.bool true)) _)); (fail_if_success (guard_target =~ WLA _ _ _ _ _ _ (put1 _ _ (.bool false)) _)); refine WLA.dec rfl rfl ?_) | refine WLA.pk ?_); first | refine .inl ⟨by first | assumption | omega | with_reducible rfl | (refine fun h => h ?_; first | assumption | with_reducible rfl) | (simp only [lenS] <;> omega) | decide, ?_⟩ | refine .inr ⟨by first | assumption | omega | with_reducible rfl | (refine fun h => h ?_; first | assumption | with_reducible rfl) | (simp only [lenS] <;> omega) | decide, ?_⟩) | ((first | refine WPA.ifBt ?_ ?_ | refine WPA.ifBnf ?_ ?_); assumption) | ((first | refine WPA.ifBnt ?_ ?_ | refine WPA.ifBf ?_ ?_); assumption) | ((first | refine WPA.ifs ?_ ?_ | refine WPA.ifB ?_ ?_) <;> intro hc) | ((fail_if_success (guard_target =~ WLA _ _ _ _ _ _ (put1 _ _ (.bool true)) _)); (fail_if_success (guard_target =~ WLA _ _ _ _ _ _ (put1 _ _ (.bool false)) _)); (first | refine WLA.both rfl rfl ?_ ?_ | refine WLA.bothB rfl rfl ?_ ?_) <;> intro hg))
  revert x; intro M
  refine WPA.loopS (σ := Nat) (fun i => [(0, .pointer (some ⟨S, 0, none⟩)), (1, .int .i64 o), (2, .slice s.a s.n s.cap), (3, .int .i64 f), (8, .int .i64 0), (9, .map (some M)), (31, .slice s.a s.n s.cap), (32, .int .i64 es.length), (33, .int .i64 i)])
    (fun i => i ≤ es.length ∧ (∀ k : Nat, k < i → (at_ es (k : Int)).1 = o) ∧ (ids.take i).flatten.Nodup) (fun i => SL w0 I (MapH M (cntF (ids.take i).flatten) :: StoreR S m :: L')) (fun i => es.length - i) 0 ⟨rfl, rfl, rfl, rfl, rfl, rfl, rfl, rfl, rfl, trivial⟩ ⟨Nat.zero_le _, fun k hk => absurd hk (Nat.not_lt_zero k), by simp⟩ (fun w h => by rw [List.take_zero, List.flatten_nil, cnt_nil]; exact h.to) ?_
  rintro i ρ ⟨hil, hio, hin⟩
  by_cases hlt : i < es.length
  · have hlt' : (i : Int) < es.length := by omega
    have hir : (0 : Int) ≤ i ∧ (i : Int) < es.length := by omega
    have hBi := hB i hlt
    have hpre := fun j hn => flat_pre (ids := ids) (i := i) (j := j) (by omega) hn
    have hsuc := flat_take_succ (ids := ids) (i := i) (by omega)
    have hlen : (ids.getD i []).length ≤ 1000000 := by rw [List.getD_eq_getElem?_getD, List.getElem?_eq_getElem (by omega)]; exact hi _ (List.getElem_mem _)
    generalize ids.getD i [] = cur at hBi hpre hsuc hlen
    by_cases hor : (at_ es (i : Int)).1 = o
    case neg =>
      have he1 : e = 1 := he.elim (fun h => h.2) fun h => absurd (h.1.1 i hlt) hor
      subst he1
      obtain ⟨q, hq⟩ : ∃ q, at_ es (i : Int) = q := ⟨_, rfl⟩
      rw [hq] at hor hBi
      have hor' : q.1 ≠ o := hor
      repeat' (first | ((rw [hq])) | ((first | refine WLA.m rfl rfl ?_ ?_ | refine WLA.st rfl ?_ ?_ | refine WLA.x rfl rfl ?_ (fun x => ?_) | refine WLA.x0 rfl ?_ (fun x => ?_)); first | exact trivial | exact rfl | assumption | omega | (refine ⟨?_, ?_⟩ <;> omega) | (simp only [Room, lenS]; omega) | decide | skip) | (refine Stp.go ?_) | (refine WPA.ifT ?_) | (refine WPA.ifF ?_) | ((first | refine WPA.dec ?_); first | refine .inl ⟨by first | assumption | omega | with_reducible rfl | (refine fun h => h ?_; first | assumption | with_reducible rfl) | (simp only [lenS] <;> omega) | decide, ?_⟩ | refine .inr ⟨by first | assumption | omega | with_reducible rfl | (refine fun h => h ?_; first | assumption | with_reducible rfl) | (simp only [lenS] <;> omega) | decide, ?_⟩) | ((first | refine WPA.ifBt ?_ ?_ | refine WPA.ifBnf ?_ ?_); assumption) | ((first | refine WPA.ifBnt ?_ ?_ | refine WPA.ifBf ?_ ?_); assumption) | ((first | refine WPA.ifs ?_ ?_ | refine WPA.ifB ?_ ?_) <;> intro hc))
      exact QQ.end_ rfl () rfl fun w h => h.to
    obtain ⟨q, hq⟩ : ∃ q, at_ es (i : Int) = q := ⟨_, rfl⟩
    rw [hq] at hor hBi
    obtain ⟨qo, qn, qs⟩ := q
    dsimp only at hor hBi
    subst hor
    have hoo : ¬ qo ≠ qo := fun h => h rfl
    generalize (ids.take i).flatten = pre at hin hpre hsuc
    repeat' (first | ((rw [hq])) | ((first | refine WLA.m rfl rfl ?_ ?_ | refine WLA.st rfl ?_ ?_ | refine WLA.x rfl rfl ?_ (fun x => ?_) | refine WLA.x0 rfl ?_ (fun x => ?_)); first | exact trivial | exact rfl | assumption | omega | (refine ⟨?_, ?_⟩ <;> omega) | (simp only [Room, lenS]; omega) | decide | skip) | (refine Stp.go ?_) | (refine WPA.ifT ?_) | (refine WPA.ifF ?_) | ((first | refine WPA.dec ?_); first | refine .inl ⟨by first | assumption | omega | with_reducible rfl | (refine fun h => h ?_; first | assumption | with_reducible rfl) | (simp only [lenS] <;> omega) | decide, ?_⟩ | refine .inr ⟨by first | assumption | omega | with_reducible rfl | (refine fun h => h ?_; first | assumption | with_reducible rfl) | (simp only [lenS] <;> omega) | decide, ?_⟩) | ((first | refine WPA.ifBt ?_ ?_ | refine WPA.ifBnf ?_ ?_); assumption) | ((first | refine WPA.ifBnt ?_ ?_ | refine WPA.ifBf ?_ ?_); assumption) | ((first | refine WPA.ifs ?_ ?_ | refine WPA.ifB ?_ ?_) <;> intro hc))
    revert x; intro X
    refine WPA.loopS (σ := Nat) (fun j => [(0, .pointer (some ⟨S, 0, none⟩)), (1, .int .i64 qo), (2, .slice s.a s.n s.cap), (3, .int .i64 f), (8, .int .i64 0), (9, .map (some M)), (31, .slice s.a s.n s.cap), (32, .int .i64 es.length), (33, .int .i64 i), (42, .slice qs.a qs.n qs.cap), (43, .int .i64 cur.length), (44, .int .i64 j)])
      (fun j => j ≤ cur.length ∧ (pre ++ cur.take j).Nodup) (fun j => SL w0 I (MapH M (cntF (pre ++ cur.take j)) :: StoreR S m :: L')) (fun j => cur.length - j) 0 ⟨rfl, rfl, rfl, rfl, rfl, rfl, rfl, rfl, rfl, rfl, rfl, rfl, trivial⟩ ⟨Nat.zero_le _, by rw [List.take_zero, List.append_nil]; exact hin⟩ (fun w h => by rw [List.take_zero, List.append_nil]; exact h.to) ?_
    rintro j ρ ⟨hj, hnd⟩
    by_cases hjl : j < cur.length
    · have hjl' : (j : Int) < cur.length := by omega
      have hjr : (0 : Int) ≤ j ∧ (j : Int) < cur.length := by omega
      obtain ⟨k, hk⟩ : ∃ k : Int, at_ cur (j : Int) = k := ⟨_, rfl⟩
      have htk : cur.take (j + 1) = cur.take j ++ [k] := by rw [List.take_add_one, List.getElem?_eq_getElem hjl, ← hk, at_nat cur j hjl]; rfl
      have hns := nodup_snoc (k := k) hnd
      rw [List.append_assoc, ← htk] at hns
      have hcs := cnt_snoc (pre ++ cur.take j) k
      rw [List.append_assoc, ← htk] at hcs
      have hc0 : 0 ≤ cntF (pre ++ cur.take j) k := by unfold cntF; omega
      have hc1 : cntF (pre ++ cur.take j) k ≤ 1 := by unfold cntF; have := List.nodup_iff_count.1 hnd k; omega
      have hself : setF (cntF (pre ++ cur.take j)) k (cntF (pre ++ cur.take j) k + 1) k = cntF (pre ++ cur.take j) k + 1 := if_pos rfl
      have hp1 := hpre (j + 1)
      generalize hnx : pre ++ cur.take (j + 1) = nx at hns hcs hp1
      generalize cntF (pre ++ cur.take j) = g at hns hcs hc0 hc1 hself
      generalize hgk : g k = c at hns hcs hc0 hc1 hself
      by_cases hcp : 0 < c
      · have hcp' : (1 : Int) < c + 1 := by omega
        have he1 : e = 1 := he.elim (fun h => h.2) fun h => absurd hcp (hns.1 (hp1 h.1.2))
        subst he1
        repeat' (first | ((rw [hk])) | ((rw [hgk])) | ((rw [hself])) | ((first | refine WLA.m rfl rfl ?_ ?_ | refine WLA.st rfl ?_ ?_ | refine WLA.x rfl rfl ?_ (fun x => ?_) | refine WLA.x0 rfl ?_ (fun x => ?_)); first | exact trivial | exact rfl | assumption | omega | (refine ⟨?_, ?_⟩ <;> omega) | (simp only [Room, lenS]; omega) | decide | skip) | (refine Stp.go ?_) | (refine WPA.ifT ?_) | (refine WPA.ifF ?_) | ((first | refine WPA.dec ?_); first | refine .inl ⟨by first | assumption | omega | with_reducible rfl | (refine fun h => h ?_; first | assumption | with_reducible rfl) | (simp only [lenS] <;> omega) | decide, ?_⟩ | refine .inr ⟨by first | assumption | omega | with_reducible rfl | (refine fun h => h ?_; first | assumption | with_reducible rfl) | (simp only [lenS] <;> omega) | decide, ?_⟩) | ((first | refine WPA.ifBt ?_ ?_ | refine WPA.ifBnf ?_ ?_); assumption) | ((first | refine WPA.ifBnt ?_ ?_ | refine WPA.ifBf ?_ ?_); assumption) | ((first | refine WPA.ifs ?_ ?_ | refine WPA.ifB ?_ ?_) <;> intro hc))
        exact QQ.end_ rfl () rfl fun w h => h.to
      · have hcp' : ¬ (1 : Int) < c + 1 := by omega
        repeat' (first | ((rw [hk])) | ((rw [hgk])) | ((rw [hself])) | ((first | refine WLA.m rfl rfl ?_ ?_ | refine WLA.st rfl ?_ ?_ | refine WLA.x rfl rfl ?_ (fun x => ?_) | refine WLA.x0 rfl ?_ (fun x => ?_)); first | exact trivial | exact rfl | assumption | omega | (refine ⟨?_, ?_⟩ <;> omega) | (simp only [Room, lenS]; omega) | decide | skip) | (refine Stp.go ?_) | (refine WPA.ifT ?_) | (refine WPA.ifF ?_) | ((first | refine WPA.dec ?_); first | refine .inl ⟨by first | assumption | omega | with_reducible rfl | (refine fun h => h ?_; first | assumption | with_reducible rfl) | (simp only [lenS] <;> omega) | decide, ?_⟩ | refine .inr ⟨by first | assumption | omega | with_reducible rfl | (refine fun h => h ?_; first | assumption | with_reducible rfl) | (simp only [lenS] <;> omega) | decide, ?_⟩) | ((first | refine WPA.ifBt ?_ ?_ | refine WPA.ifBnf ?_ ?_); assumption) | ((first | refine WPA.ifBnt ?_ ?_ | refine WPA.ifBf ?_ ?_); assumption) | ((first | refine WPA.ifs ?_ ?_ | refine WPA.ifB ?_ ?_) <;> intro hc))
        exact QQ.loopS (j + 1) ⟨rfl, rfl, rfl, rfl, rfl, rfl, rfl, rfl, rfl, rfl, rfl, rfl, trivial⟩ ⟨hjl, by rw [hnx]; exact hns.2 hcp⟩ (by omega) (fun w h => by rw [hnx, ← hcs]; exact h.to)
    · have hjl' : ¬ (j : Int) < cur.length := by omega
      rw [List.take_of_length_le (by omega), ← hsuc] at hnd ⊢
      repeat' (first | ((first | refine WLA.m rfl rfl ?_ ?_ | refine WLA.st rfl ?_ ?_ | refine WLA.x rfl rfl ?_ (fun x => ?_) | refine WLA.x0 rfl ?_ (fun x => ?_)); first | exact trivial | exact rfl | assumption | omega | (refine ⟨?_, ?_⟩ <;> omega) | (simp only [Room, lenS]; omega) | decide | skip) | (refine Stp.go ?_) | (refine WPA.ifT ?_) | (refine WPA.ifF ?_) | ((first | refine WPA.dec ?_); first | refine .inl ⟨by first | assumption | omega | with_reducible rfl | (refine fun h => h ?_; first | assumption | with_reducible rfl) | (simp only [lenS] <;> omega) | decide, ?_⟩ | refine .inr ⟨by first | assumption | omega | with_reducible rfl | (refine fun h => h ?_; first | assumption | with_reducible rfl) | (simp only [lenS] <;> omega) | decide, ?_⟩) | ((first | refine WPA.ifBt ?_ ?_ | refine WPA.ifBnf ?_ ?_); assumption) | ((first | refine WPA.ifBnt ?_ ?_ | refine WPA.ifBf ?_ ?_); assumption) | ((first | refine WPA.ifs ?_ ?_ | refine WPA.ifB ?_ ?_) <;> intro hc))
      refine QQ.loopS (i + 1) ⟨rfl, rfl, rfl, rfl, rfl, rfl, rfl, rfl, rfl, trivial⟩ ⟨hlt, fun k hk => ?_, hnd⟩ (by omega) (fun w h => h.to)
      by_cases hki : k = i
      · subst hki; rw [hq]
      · exact hio k (by omega)
  · have hlt' : ¬ (i : Int) < es.length := by omega
    have hie : i = es.length := by omega
    subst hie
    have hA : ChkA o es ids := ⟨hio, by rw [hl, List.take_length] at hin; exact hin⟩
    obtain ⟨_, ⟨hm1, hm2⟩, T, hT, he⟩ := he.resolve_left fun h => h.1 hA
    generalize cntF (ids.take es.length).flatten = fz
    repeat' (first | ((first | refine WLA.m rfl rfl ?_ ?_ | refine WLA.st rfl ?_ ?_ | refine WLA.x rfl rfl ?_ (fun x => ?_) | refine WLA.x0 rfl ?_ (fun x => ?_)); first | exact trivial | exact rfl | assumption | omega | (refine ⟨?_, ?_⟩ <;> omega) | (simp only [Room, lenS]; omega) | decide | skip) | (refine Stp.go ?_) | (refine WPA.ifT ?_) | (refine WPA.ifF ?_) | ((first | refine WPA.dec ?_); first | refine .inl ⟨by first | assumption | omega | with_reducible rfl | (refine fun h => h ?_; first | assumption | with_reducible rfl) | (simp only [lenS] <;> omega) | decide, ?_⟩ | refine .inr ⟨by first | assumption | omega | with_reducible rfl | (refine fun h => h ?_; first | assumption | with_reducible rfl) | (simp only [lenS] <;> omega) | decide, ?_⟩) | ((first | refine WPA.ifBt ?_ ?_ | refine WPA.ifBnf ?_ ?_); assumption) | ((first | refine WPA.ifBnt ?_ ?_ | refine WPA.ifBf ?_ ?_); assumption) | ((first | refine WPA.ifs ?_ ?_ | refine WPA.ifB ?_ ?_) <;> intro hc))
    refine WPA.loopS (σ := Nat) (fun i => [(0, .pointer (some ⟨S, 0, none⟩)), (1, .int .i64 o), (2, .slice s.a s.n s.cap), (3, .int .i64 f), (8, .int .i64 0), (58, .slice s.a s.n s.cap), (59, .int .i64 es.length), (60, .int .i64 i)])
      (fun i => i ≤ es.length ∧ fstN (fun i => rdE (readS o (at_ es (i : Int)).2.1 (T i))) i = 0) (fun i => SL w0 I (StoreR S m :: L')) (fun i => es.length - i) 0 ⟨rfl, rfl, rfl, rfl, rfl, rfl, rfl, rfl, trivial⟩ ⟨Nat.zero_le _, rfl⟩ (fun w h => h.to) ?_
    rintro i ρ ⟨hil, hz⟩
    by_cases hlt : i < es.length
    · have hlt' : (i : Int) < es.length := by omega
      have hir : (0 : Int) ≤ i ∧ (i : Int) < es.length := by omega
      have hBi := hB i hlt
      have hTi := hT i hlt
      have hoi := hio i hlt
      have hlen : (ids.getD i []).length ≤ 1000000 := by rw [List.getD_eq_getElem?_getD, List.getElem?_eq_getElem (by omega)]; exact hi _ (List.getElem_mem _)
      have hsu := fstN_succ hz
      have hhe := fun h => fstN_here (i := i) hz h es.length hlt
      obtain ⟨q, hq⟩ : ∃ q, at_ es (i : Int) = q := ⟨_, rfl⟩
      rw [hq] at hoi hBi hTi hsu hhe
      obtain ⟨qo, qn, qs⟩ := q
      dsimp only at hoi hBi hTi hsu hhe
      subst hoi
      have hrr : ∀ {L L' : List HP} [FindK L StoreR S m L'], Tr Tryz.prog 18 #[.pointer (some ⟨S, 0, none⟩), .agg #[.int .i64 qo, .int .i64 qn, .slice qs.a qs.n qs.cap]] (SL w0 I L) (fun x : SV => .tuple #[.slice x.a x.n x.cap, .int .i64 (rdE (readS qo qn (T i)))]) (fun x => SL w0 I (CtsH x ((readS qo qn (T i)).getD []) :: StoreR S m :: L')) := fun {L L'} _ => runRead_tr ⟨ho.1, hTi.1⟩ hBi hm1 hm2 hlen hTi.2 rfl
      generalize rdE (readS qo qn (T i)) = z at hrr hsu hhe
      by_cases hz0 : z = 0
      · subst hz0
        repeat' (first | ((rw [hq])) | ((first | refine WLA.m rfl rfl ?_ ?_ | refine WLA.st rfl ?_ ?_ | refine WLA.x rfl rfl ?_ (fun x => ?_) | refine WLA.x0 rfl ?_ (fun x => ?_)); first | exact trivial | exact rfl | assumption | omega | (refine ⟨?_, ?_⟩ <;> omega) | (simp only [Room, lenS]; omega) | decide | skip) | (refine Stp.go ?_) | (guard_target =~ WLA _ _ _ _ _ (⟨_, .call ⟨.value (.func 18), _, _⟩, _, _, _, _⟩ :: _) _ _; refine WLA.call rfl rfl (hrr) ?_; rintro ⟨⟩) | (refine WPA.ifT ?_) | (refine WPA.ifF ?_) | ((first | refine WPA.dec ?_); first | refine .inl ⟨by first | assumption | omega | with_reducible rfl | (refine fun h => h ?_; first | assumption | with_reducible rfl) | (simp only [lenS] <;> omega) | decide, ?_⟩ | refine .inr ⟨by first | assumption | omega | with_reducible rfl | (refine fun h => h ?_; first | assumption | with_reducible rfl) | (simp only [lenS] <;> omega) | decide, ?_⟩) | ((first | refine WPA.ifBt ?_ ?_ | refine WPA.ifBnf ?_ ?_); assumption) | ((first | refine WPA.ifBnt ?_ ?_ | refine WPA.ifBf ?_ ?_); assumption) | ((first | refine WPA.ifs ?_ ?_ | refine WPA.ifB ?_ ?_) <;> intro hc))
        exact QQ.loopS (i + 1) ⟨rfl, rfl, rfl, rfl, rfl, rfl, rfl, rfl, trivial⟩ ⟨hlt, hsu⟩ (by omega) (fun w h => h.to)
      · have hez : e = z := he.trans (hhe hz0)
        subst hez
        repeat' (first | ((rw [hq])) | ((first | refine WLA.m rfl rfl ?_ ?_ | refine WLA.st rfl ?_ ?_ | refine WLA.x rfl rfl ?_ (fun x => ?_) | refine WLA.x0 rfl ?_ (fun x => ?_)); first | exact trivial | exact rfl | assumption | omega | (refine ⟨?_, ?_⟩ <;> omega) | (simp only [Room, lenS]; omega) | decide | skip) | (refine Stp.go ?_) | (guard_target =~ WLA _ _ _ _ _ (⟨_, .call ⟨.value (.func 18), _, _⟩, _, _, _, _⟩ :: _) _ _; refine WLA.call rfl rfl (hrr) ?_; rintro ⟨⟩) | (refine WPA.ifT ?_) | (refine WPA.ifF ?_) | ((first | refine WPA.dec ?_); first | refine .inl ⟨by first | assumption | omega | with_reducible rfl | (refine fun h => h ?_; first | assumption | with_reducible rfl) | (simp only [lenS] <;> omega) | decide, ?_⟩ | refine .inr ⟨by first | assumption | omega | with_reducible rfl | (refine fun h => h ?_; first | assumption | with_reducible rfl) | (simp only [lenS] <;> omega) | decide, ?_⟩) | ((first | refine WPA.ifBt ?_ ?_ | refine WPA.ifBnf ?_ ?_); assumption) | ((first | refine WPA.ifBnt ?_ ?_ | refine WPA.ifBf ?_ ?_); assumption) | ((first | refine WPA.ifs ?_ ?_ | refine WPA.ifB ?_ ?_) <;> intro hc))
        exact QQ.end_ rfl () rfl fun w h => h.to
    · have hlt' : ¬ (i : Int) < es.length := by omega
      have hie : i = es.length := by omega
      subst hie
      rw [hz] at he
      subst he
      repeat' (first | ((first | refine WLA.m rfl rfl ?_ ?_ | refine WLA.st rfl ?_ ?_ | refine WLA.x rfl rfl ?_ (fun x => ?_) | refine WLA.x0 rfl ?_ (fun x => ?_)); first | exact trivial | exact rfl | assumption | omega | (refine ⟨?_, ?_⟩ <;> omega) | (simp only [Room, lenS]; omega) | decide | skip) | (refine Stp.go ?_) | (refine WPA.ifT ?_) | (refine WPA.ifF ?_) | ((first | refine WPA.dec ?_); first | refine .inl ⟨by first | assumption | omega | with_reducible rfl | (refine fun h => h ?_; first | assumption | with_reducible rfl) | (simp only [lenS] <;> omega) | decide, ?_⟩ | refine .inr ⟨by first | assumption | omega | with_reducible rfl | (refine fun h => h ?_; first | assumption | with_reducible rfl) | (simp only [lenS] <;> omega) | decide, ?_⟩) | ((first | refine WPA.ifBt ?_ ?_ | refine WPA.ifBnf ?_ ?_); assumption) | ((first | refine WPA.ifBnt ?_ ?_ | refine WPA.ifBf ?_ ?_); assumption) | ((first | refine WPA.ifs ?_ ?_ | refine WPA.ifB ?_ ?_) <;> intro hc))
      exact QQ.end_ rfl () rfl fun w h => h.to
end
end Go.Proofs.YtamnobjdgjbmbaaGreat
namespace Go.Fw
open Go Go.RowKit
set_option linter.unusedVariables false
theorem RowH.perm {α : Type} [Enc α] {e : TypeId} {l l' : List (SV × List α)} (h : l.Perm l') : ∀ {L : List HP}, Ent (RowH e (l.map Prod.fst) (l.map Prod.snd) :: L) (RowH e (l'.map Prod.fst) (l'.map Prod.snd) :: L) := by
  induction h with
  | nil => exact Ent.refl
  | cons x _ ih =>
    intro L
    simp only [List.map_cons, RowH]
    exact Ent.unstar.trans ((Ent.cons ih).trans (Ent.star Ent.refl))
  | swap x y l =>
    intro L
    simp only [List.map_cons, RowH]
    exact Ent.unstar.trans ((Ent.cons Ent.unstar).trans (Ent.swap.trans ((Ent.cons (Ent.star Ent.refl)).trans (Ent.star Ent.refl))))
  | trans _ _ i1 i2 => exact i1.trans i2
theorem Tr.ap {P : Program} {f : FuncId} {args : Array Value} {A : World → Prop} {τ : Type} {val : τ → Value} {B : τ → World → Prop} (h : Tr P f args A val B) {w : World} (hw : A w) : Calls P f args w fun e w' => ∃ x, e = .returned (val x) ∧ B x w' := h w hw
theorem Tr.mk {P : Program} {f : FuncId} {args : Array Value} {A : World → Prop} {τ : Type} {val : τ → Value} {B : τ → World → Prop} (h : ∀ w, A w → Calls P f args w fun e w' => ∃ x, e = .returned (val x) ∧ B x w') : Tr P f args A val B := h
end Go.Fw
namespace Go.Proofs.YtamnobjdgjbmbaaGreat
open Go Go.Fw Go.RowKit
set_option linter.unusedVariables false
set_option linter.unusedSimpArgs false
set_option maxRecDepth 100000
set_option maxHeartbeats 16000000
set_option synthInstance.maxHeartbeats 200000
set_option synthInstance.maxSize 100000
attribute [local irreducible] WPA WLA WDA WDQ WDE QQ seqQ blockQ loopQ fnQ OpP OpT Tr TrP SL SLd OwnS LitS Bk BkE Ob
attribute [local irreducible] vS keyS parL RowH CtsH
theorem remL_start {kg : SV → List Int} {tp : SV → List Pe} : ∀ hs : List SV, remL kg tp (hs.map fun h => (h, 0)) = (hs.flatMap tp).map (moP kg)
  | [] => rfl
  | h :: hs => by
    have e : remL kg tp ((h :: hs).map fun h => (h, 0)) = remC kg tp (h, 0) ++ remL kg tp (hs.map fun h => (h, 0)) := rfl
    rw [e, remL_start hs, List.flatMap_cons, List.map_append]; rfl
theorem fold_fst {kg : SV → List Int} {G : SV → Prop} : ∀ {ps a : List Pe}, (∀ p ∈ ps, G p.1) → (∀ p ∈ a, G p.1) → ∀ p ∈ ps.foldl (putL kg) a, G p.1
  | [], a, _, ha => ha
  | x :: ps, a, hp, ha => by
    rw [List.foldl_cons]
    exact fold_fst (fun p h => hp p (List.mem_cons_of_mem _ h)) (putL_grg ha (hp x (List.mem_cons_self ..)))
def LsI (J : Foot) (vs : List SV) (ls : List (List Ct)) : Prop := vs.length = ls.length ∧ ∀ j : Nat, j < ls.length → LstI J (at_ vs (j : Int)) (ls.getD j [])
theorem LsI.sub {J J' : Foot} {vs : List SV} {ls : List (List Ct)} (h : LsI J vs ls) (hs : SubI J' J) : LsI J' vs ls := ⟨h.1, fun j hj => (h.2 j hj).sub hs⟩
theorem LsI.good {J : Foot} {vs : List SV} {ls : List (List Ct)} (h : LsI J vs ls) (hg : ∀ ms ∈ ls, Ris id ms ∧ ∀ m ∈ ms, m.1.length ≤ 1000000) {w0 : World} {L : List HP} {w : World} (hw : SL w0 J L w) :
    (∀ v ∈ vs, GoodL J (rd Int J) (rd Pe J) v) ∧ (vs.flatMap (rd Pe J)).map (moP (rd Int J)) = ls.flatten := by
  have hl := h.1
  have key : ∀ j (hj : j < vs.length), SlI J vs[j] Pe inferInstance (rd Pe J vs[j]) ∧ GrG J (rd Int J) (rd Pe J vs[j]) ∧ (rd Pe J vs[j]).map (ctP (rd Int J)) = ls[j]'(by omega) := fun j hj => by
    have h1 := (h.2 j (by omega)).good hw
    rw [at_nat vs j hj, List.getD_eq_getElem?_getD, List.getElem?_eq_getElem (show j < ls.length by omega), Option.getD_some] at h1
    exact h1
  constructor
  · intro v hv
    obtain ⟨j, hj, rfl⟩ := List.getElem_of_mem hv
    obtain ⟨k1, k2, k3⟩ := key j hj
    have hgj := hg _ (List.getElem_mem (show j < ls.length by omega))
    rw [← k3] at hgj
    refine ⟨k1, fun p hp => ⟨k2 p hp, ?_⟩, ?_⟩
    · exact hgj.2 _ (List.mem_map.2 ⟨p, hp, rfl⟩)
    · have := hgj.1
      unfold Ris at this ⊢
      rw [List.pairwise_map] at this
      exact this
  · have e : vs.map (fun v => (rd Pe J v).map (ctP (rd Int J))) = ls := List.ext_getElem (by simp [hl]) fun j j1 j2 => by
      rw [List.getElem_map]; exact (key j (by rw [List.length_map] at j1; exact j1)).2.2
    rw [← e]
    clear e key hg hl h
    induction vs with
    | nil => rfl
    | cons v vs ih => rw [List.flatMap_cons, List.map_append, ih, List.map_cons, List.flatten_cons]; rfl
section
variable {L L' : List HP} {w0 : World} {I : Foot}
theorem Lists_trC {s : SV} {vs : List SV} {ls : List (List Ct)} [hr : RdS I L s SV inferInstance vs] (hv : LsI I vs ls) (hg : ∀ ms ∈ ls, Ris id ms ∧ ∀ m ∈ ms, m.1.length ≤ 1000000) (hn : ls.length + ls.flatten.length ≤ 50000) :
    Tr Tryz.prog 36 #[.slice s.a s.n s.cap] (SL w0 I L) (fun x : SV => .slice x.a x.n x.cap) (fun x => SL w0 I (CtsH x (mrg ls.flatten) :: L)) := by
  refine Tr.mk fun w hw => ?_
  obtain ⟨h1, h2⟩ := hv.good hg hw
  have hl := hv.1
  have he := remL_start (kg := rd Int I) (tp := rd Pe I) vs
  rw [h2] at he
  have := Lists_tr (s := s) (L := L) (w0 := w0) h1 (by rw [he]; omega)
  rw [he] at this
  refine (this.conv (fun _ h => h) fun x w h => ?_).ap hw
  exact ⟨x.1, rfl, (CtsH.fold (x := x.1) h.1).sl h.2⟩
theorem rLists_trC {s : SV} {vs : List SV} {ls : List (List Ct)} [hr : SlI I s SV inferInstance vs] (hv : LsI I vs ls) (hg : ∀ ms ∈ ls, Ris id ms ∧ ∀ m ∈ ms, m.1.length ≤ 1000000) (hn : ls.length + ls.flatten.length ≤ 50000) :
    Tr Tryz.prog 20 #[.slice s.a s.n s.cap] (SL w0 I L) (fun x : SV × Foot => .slice x.1.a x.1.n x.1.cap) (fun x w => (SubI x.2 I ∧ LstI x.2 x.1 (mrg ls.flatten)) ∧ SL w0 x.2 L w) := by
  refine Tr.mk fun w hw => ?_
  obtain ⟨h1, h2⟩ := hv.good hg hw
  have hl := hv.1
  have hlen := congrArg List.length h2
  rw [List.length_map] at hlen
  refine ((rLists_tr (s := s) (L := L) (w0 := w0) h1 (by omega) (by omega)).conv (fun _ h => h) fun x w h => ?_).ap hw
  obtain ⟨R, hR, h3⟩ := h.freeze
  refine ⟨(x, R ++ I), rfl, ⟨inferInstance, ?_⟩, h3⟩
  have hf := fold_fst (kg := rd Int I) (G := fun g => SlI I g Int inferInstance (rd Int I g)) (ps := vs.flatMap (rd Pe I)) (a := []) (fun p hp => by
    obtain ⟨v, hv, hp⟩ := List.mem_flatMap.1 hp
    exact ((h1 v hv).el p hp).1) (by simp)
  have hc := fold_cell (kg := rd Int I) (vs.flatMap (rd Pe I)) []
  rw [h2] at hc
  have hms : mrg ls.flatten = ((vs.flatMap (rd Pe I)).foldl (putL (rd Int I)) []).map (ctP (rd Int I)) := hc.symm
  rw [hms]
  have sx : SlI (R ++ I) x Pe inferInstance ((vs.flatMap (rd Pe I)).foldl (putL (rd Int I)) []) := by have := SlI.ofOwn hR; exact SlI.left
  exact LstI.ofMap sx fun p hp => (hf p hp).sub
section
variable {s : SV} {ms : List Ct}
theorem runWrite_trI {S : Nat} {m m' : BS} {o e a b : Int} {ids : List Int} [h : FindK L StoreR S m L'] (ok : m.Ok) (hs : LstI I s ms) (hl : ∀ m ∈ ms, m.1.length ≤ 1000) (hn : ms.length ≤ 1000000) (he : e = errW o ms m) (hx : WrX o ms m e a b m' ids) :
    Tr Tryz.prog 22 #[.pointer (some ⟨S, 0, none⟩), .int .i64 o, .slice s.a s.n s.cap] (SL w0 I L) (fun r : SV => .tuple #[.agg #[.int .i64 a, .int .i64 b, .slice r.a r.n r.cap], .int .i64 e]) (fun r => SL w0 I (OwnS 3 r ids :: StoreR S m' :: L')) := by
  refine Tr.mk fun w hw => ?_
  obtain ⟨h1, h2, h3⟩ := hs.good hw
  rw [← h3] at he hx hl hn
  rw [List.length_map] at hn
  exact (runWrite_tr ok h1 h2 (fun p hp => hl _ (List.mem_map.2 ⟨p, hp, rfl⟩)) hn he hx).ap hw
theorem Wrong_trI {o : Int} (hs : LstI I s ms) (hl : ∀ m ∈ ms, m.1.length ≤ 1000000) (hn : ms.length ≤ 1000000) :
    Tr Tryz.prog 10 #[.int .i64 o, .slice s.a s.n s.cap] (SL w0 I L) (fun _ : Unit => .int .i64 (wrong o ms)) (fun _ => SL w0 I L) := by
  refine Tr.mk fun w hw => ?_
  obtain ⟨h1, h2, h3⟩ := hs.good hw
  have := Wrong_tr (w0 := w0) (L := L) (o := o) h1 h2 (fun p hp => by rw [← h3] at hl; exact hl _ (List.mem_map.2 ⟨p, hp, rfl⟩)) (by rw [← h3, List.length_map] at hn; exact hn)
  rw [h3] at this
  exact this.ap hw
theorem rBytes_trI {o : Int} (hs : LstI I s ms) (hw0 : wrong o ms = 0) (hn : ms.length ≤ 1000000) :
    Tr Tryz.prog 11 #[.slice s.a s.n s.cap] (SL w0 I L) (fun _ : Unit => .string (byS ms)) (fun _ => SL w0 I L) := by
  refine Tr.mk fun w hw => ?_
  obtain ⟨h1, h2, h3⟩ := hs.good hw
  have hg := wrong_good hw0
  have ho := (wrong_zero hw0).1
  have := rBytes_tr (w0 := w0) (L := L) h1 h2 (fun p hp => by
    rw [← h3] at hg
    have k := hg _ (List.mem_map.2 ⟨p, hp, rfl⟩)
    have k1 : ((rd Int I p.1).length : Int) = o := k.1
    have k2 : 1 ≤ p.2 := k.2.2.1
    exact ⟨k.2.1, by omega, by omega, k.2.2.2⟩) (by rw [← h3, List.length_map] at hn; exact hn)
  rw [h3] at this
  exact this.ap hw
end
end
theorem wrong_len8 {o : Int} {ms : List Ct} (h : wrong o ms = 0) : ∀ m ∈ ms, m.1.length ≤ 8 := fun m hm => by
  have h1 := (wrong_good h m hm).1
  have h2 := (wrong_zero h).1
  omega
theorem free_step {o : Int} {m m1 : BS} {new : List Int} {u : ByteArray} {a g b : List PR} (h : RInv o m (a ++ (g ++ b))) (F : Filled m m1 new u) {i : Nat} (hi : i < g.length) :
    ((idsF (g.take i)).foldl BS.free m1).Ok ∧ Right ((idsF (g.take i)).foldl BS.free m1) (g.getD i ([], [])).1 ∧ (idsF (g.take (i + 1))).foldl BS.free m1 = ((g.getD i ([], [])).1).foldl BS.free ((idsF (g.take i)).foldl BS.free m1) := by
  have hn := h.nodup
  have hh := h.has
  rw [idsF, List.flatMap_append, List.flatMap_append] at hn hh
  have hg : (g.flatMap Prod.fst).Nodup := (List.nodup_append.1 (List.nodup_append.1 hn).2.1).1
  have hG : ∀ i ∈ g.flatMap Prod.fst, Has m1.tk i := fun i hi => (F.keep i (hh i (List.mem_append_right _ (List.mem_append_left _ hi)))).1
  have e : g = g.take i ++ (g.getD i ([], []) :: g.drop (i + 1)) := by
    rw [List.getD_eq_getElem?_getD, List.getElem?_eq_getElem hi, Option.getD_some, List.getElem_cons_drop, List.take_append_drop]
  have e1 : g.take (i + 1) = g.take i ++ [g.getD i ([], [])] := by rw [List.take_add_one, List.getElem?_eq_getElem hi, List.getD_eq_getElem?_getD, List.getElem?_eq_getElem hi]; rfl
  have e2 : g.flatMap Prod.fst = (g.take i).flatMap Prod.fst ++ ((g.getD i ([], [])).1 ++ (g.drop (i + 1)).flatMap Prod.fst) := by
    conv => lhs; rw [e]
    rw [List.flatMap_append, List.flatMap_cons]
  rw [e2] at hg hG
  rw [e1]
  have g1 := List.nodup_append.1 hg
  have g2 := List.nodup_append.1 g1.2.1
  have D := frees ((g.take i).flatMap Prod.fst) F.ok g1.1 fun j hj => hG j (List.mem_append_left _ hj)
  refine ⟨D.ok, ⟨fun j hj => (D.keep j (hG j (List.mem_append_right _ (List.mem_append_left _ hj))) fun hk => g1.2.2 j hk j (List.mem_append_left _ hj) rfl).1, g2.1⟩, ?_⟩
  rw [idsF, List.flatMap_append, List.foldl_append, List.flatMap_singleton]
end Go.Proofs.YtamnobjdgjbmbaaGreat
namespace Go.Fw
open Go Go.RowKit Go.Sort
set_option linter.unusedVariables false
set_option linter.unusedSimpArgs false
set_option maxHeartbeats 2000000
theorem St.grown {w0 : World} {H : HeapP} {L : Foot} {w : World} (h : St w0 H L w) (os : Array Obj) : St w0 H L (grow w os) := by
  have hk : ∀ b u, w.heap[b]? = some u → (grow w os).heap[b]? = some u := fun b u e => by
    rw [heap_grow_old w os (Array.getElem?_eq_some_iff.1 e).1]; exact e
  refine ⟨⟨h.below.os, h.below.tape, h.below.output, ?_, fun k hk' => ?_⟩, fun b u e => hk b u (h.imm b u e), fun p hp => ?_, h.nodup, h.drw⟩
  · have := h.below.size; simp only [grow, Array.size_append]; omega
  · rw [heap_grow_old w os (by have := h.below.size; omega)]; exact h.below.block k hk'
  · obtain ⟨h1, h2, h3⟩ := h.own p hp; exact ⟨hk _ _ h1, h2, h3⟩
theorem putCells_take {F c : Array Value} (h : F.size ≤ c.size) : (putCells id 0 F c).toList.take F.size = F.toList ∧ (putCells id 0 F c).size = c.size := by
  refine ⟨List.ext_getElem? fun k => ?_, by simp [putCells]⟩
  by_cases hk : k < F.size
  · rw [List.getElem?_take_of_lt hk]
    simp [putCells, hk, show k < c.size by omega]
  · rw [List.getElem?_take_eq_none (by omega), List.getElem?_eq_none (by simpa using hk)]
theorem SL.reput {α : Type} [Enc α] {w0 : World} {I : Foot} {L : List HP} {w : World} {e : TypeId} {s : SV} {xs ys : List α} {g : Nat} (h : SL w0 I (OwnS e s xs :: L) w) (hs : s.a = some ⟨g, 0, none⟩) (hl : ys.length = xs.length) (n : Nat) (os : Array Obj) {F : Array Value} (hF : F.toList = flat ys) :
    SL w0 I (OwnS e s ys :: L) (grow (putRow id (Sort.ahead w n) g 0 F) os) := by
  obtain ⟨H, R, Rs, h1, hp, h2, h3⟩ := h.uncons
  rcases hp.2 with ⟨q1, q2, q3⟩ | ⟨gb, cap, cur, q1, q2, q3, q4, q5, q6⟩
  · simp only [Value.slice.injEq] at q1
    rw [hs] at q1; exact absurd q1.1 (by simp)
  · simp only [Value.slice.injEq] at q1
    obtain ⟨q1, -, q7⟩ := q1
    rw [hs] at q1
    cases q1
    subst q6
    have hfl := hp.1
    rw [flat_len] at hfl
    have hFs : F.size = s.n * Enc.sz α := by rw [← Array.length_toList, hF, flat_len, hl, hfl]
    have hle : F.size ≤ cur.size := by rw [hFs, q4]; exact Nat.mul_le_mul_right _ q2
    obtain ⟨c1, c2⟩ := putCells_take hle
    have hst : St w0 H ((g, .cells cur e (0, 0)) :: Rs.flatten) (Sort.ahead w n) := h3.drawn (w.drawn + n) (Nat.le_add_right _ _)
    have hput : (putRow id (Sort.ahead w n) g 0 F) = (Sort.ahead w n).setRow g (putCells id 0 F cur) := by
      unfold putRow mapBlock World.setRow
      congr 1
      refine Array.ext_getElem? fun k => ?_
      rw [Array.getElem?_modify, Array.getElem?_modify]
      by_cases hk : g = k
      · subst hk
        rw [if_pos rfl, if_pos rfl, hst.at_ (j := 0) rfl]
        rfl
      · rw [if_neg hk, if_neg hk]
    rw [hput]
    refine SL.cons (R := [(g, .cells (putCells id 0 F cur) e (0, 0))]) h1 ⟨by rw [flat_len, hl, hfl], .inr ⟨g, cap, _, ?_, q2, q3, by rw [c2, q4], ?_, rfl⟩⟩ h2 ((hst.putRow _).grown os)
    · rw [hs, q7]
    · rw [← hFs, c1, hF]
theorem SL.row {α : Type} [Enc α] {w0 : World} {I : Foot} {L : List HP} {w : World} {e : TypeId} {s : SV} {xs : List α} (h : SL w0 I (OwnS e s xs :: L) w) (hn : 0 < xs.length) : ∃ g, s.a = some ⟨g, 0, none⟩ ∧ s.n = xs.length ∧ g < w.heap.size ∧ ∀ F : Array Value, F.toList = flat xs → Holds id w g 0 F := by
  obtain ⟨H, R, Rs, h1, hp, h2, h3⟩ := h.uncons
  have hsn := OwnR.len hp
  rcases hp.2 with ⟨q1, q2, q3⟩ | ⟨gb, cap, cur, q1, q2, q3, q4, q5, q6⟩
  · omega
  · simp only [Value.slice.injEq] at q1
    subst q6
    have hat := h3.at_ (j := 0) rfl
    refine ⟨gb, q1.1, hsn, (Array.getElem?_eq_some_iff.1 hat).1, fun F hF j hj => ⟨?_, ?_⟩⟩
    · have hj' : j < (flat xs).length := by rw [← hF]; simpa using hj
      have hg : (flat xs)[j]? = some (F[j]!) := by
        rw [← hF]; simp [hj]
      rw [← q5, List.getElem?_take] at hg
      split at hg
      · simp only [World.cell?, hat, Nat.zero_add, id]
        simpa using hg
      · cases hg
    · simp only [World.frozen?, hat]
      simp
theorem SL.drw {w0 : World} {I : Foot} {L : List HP} {w : World} (h : SL w0 I L w) : w0.drawn ≤ w.drawn := by
  obtain ⟨H, Rs, _, _, h⟩ := h; exact h.drw
end Go.Fw
namespace Go.Fw
open Go Go.RowKit Go.Sort
set_option linter.unusedVariables false
set_option linter.unusedSimpArgs false
set_option maxHeartbeats 2000000
theorem putRow_id {α : Type} [Inhabited α] (enc : α → Value) (u : World) (g off : Nat) (d : Array α) : putRow enc u g off d = putRow id u g off (d.map enc) := by
  unfold putRow
  congr 1
  funext c
  unfold putCells
  congr 1
  funext k x
  simp only [Array.size_map]
  split
  · rename_i hk
    rw [getElem!_pos d _ (by omega), getElem!_pos (d.map _) _ (by simp; omega)]
    simp
  · rfl
theorem flat_ints : ∀ xs : List Int, ((xs.toArray.map (Value.int .i64)).toList) = flat xs
  | [] => by simp [flat]
  | x :: xs => by
    have := flat_ints xs
    simp only [List.toList_toArray, Array.toList_map] at this ⊢
    rw [List.map_cons, this]
    rfl
theorem holds_ints {w : World} {g : Nat} {xs : List Int} (h : ∀ F : Array Value, F.toList = flat xs → Holds id w g 0 F) : Holds (Value.int .i64) w g 0 xs.toArray := fun j hj => by
  have := h (xs.toArray.map (Value.int .i64)) (flat_ints xs) j (by simpa using hj)
  rw [getElem!_pos (xs.toArray.map (Value.int .i64)) j (by simpa using hj)] at this
  rw [getElem!_pos xs.toArray j hj]
  simpa using this
section
variable {P : Program} {ρ : Go.Shelf.Ren} {w0 : World} {I : Foot} {L : List HP}
theorem sortI_tr (Ly : Go.Proofs.Lays.n189 P ρ) {e : TypeId} {s : SV} {xs : List Int} (hn : xs.length ≤ 1000000000) :
    Tr P (ρ.f 189) #[.slice s.a s.n s.cap] (SL w0 I (OwnS e s xs :: L)) (fun _ : Unit => .tuple #[]) (fun _ => SL w0 I (OwnS e s (xs.mergeSort fun x y => decide (x ≤ y)) :: L)) := by
  intro w hw
  by_cases hx : xs = []
  · subst hx
    have hsn : s.n = 0 := hw.facts.1
    rw [hsn]
    refine (Go.Proofs.Any.slices_Sort_int_none Ly s.a s.cap w).mono ?_
    rintro e w' ⟨rfl, rfl⟩
    exact ⟨(), rfl, by rw [List.mergeSort_nil]; exact hw⟩
  · obtain ⟨g0, hs, hsn, hblk, hH⟩ := hw.row (List.length_pos_iff.2 hx)
    have key := Go.Proofs.Any.slices_Sort_int Ly g0 0 s.cap xs w (holds_ints hH) hblk (by omega)
    rw [hs, hsn]
    refine key.mono ?_
    rintro e w' ⟨rfl, n, os, rfl⟩
    refine ⟨(), rfl, ?_⟩
    rw [putRow_id]
    exact hw.reput hs (by rw [List.length_mergeSort]) n os (flat_ints _)
end
end Go.Fw
namespace Go.Proofs
open Go.Shelf
def Tryz.sortI_ren : Go.Shelf.Ren := ⟨fun | 189 => 116 | 125 => 121 | 257 => 124 | 128 => 134 | 129 => 135 | 294 => 136 | 295 => 137 | 296 => 138 | 297 => 139 | 298 => 140 | 299 => 141 | 216 => 142 | 300 => 143 | 301 => 144 | 328 => 150 | 329 => 146 | 330 => 147 | 331 => 151 | 332 => 152 | 215 => 125 | 343 => 154 | n => n, fun | 28 => 42 | 3 => 3 | 46 => 163 | 0 => 0 | 51 => 214 | 53 => 90 | 4 => 4 | 183 => 207 | 182 => 206 | 131 => 211 | 5 => 5 | 9 => 9 | 218 => 221 | 222 => 225 | 228 => 229 | 229 => 142 | n => n, fun | n => n⟩
theorem Tryz.sortI : Go.Proofs.Lays.n189 Tryz.prog Tryz.sortI_ren := {
  mixed := by kernel_rfl
  f125 := Tryz.func121.trans (congrArg some (by kernel_rfl))
  f128 := Tryz.func134.trans (congrArg some (by kernel_rfl))
  f129 := Tryz.func135.trans (congrArg some (by kernel_rfl))
  f189 := Tryz.func116.trans (congrArg some (by kernel_rfl))
  f215 := Tryz.func125.trans (congrArg some (by kernel_rfl))
  f216 := Tryz.func142.trans (congrArg some (by kernel_rfl))
  f257 := Tryz.func124.trans (congrArg some (by kernel_rfl))
  f294 := Tryz.func136.trans (congrArg some (by kernel_rfl))
  f295 := Tryz.func137.trans (congrArg some (by kernel_rfl))
  f296 := Tryz.func138.trans (congrArg some (by kernel_rfl))
  f297 := Tryz.func139.trans (congrArg some (by kernel_rfl))
  f298 := Tryz.func140.trans (congrArg some (by kernel_rfl))
  f299 := Tryz.func141.trans (congrArg some (by kernel_rfl))
  f300 := Tryz.func143.trans (congrArg some (by kernel_rfl))
  f301 := Tryz.func144.trans (congrArg some (by kernel_rfl))
  f328 := Tryz.func150.trans (congrArg some (by kernel_rfl))
  f329 := Tryz.func146.trans (congrArg some (by kernel_rfl))
  f330 := Tryz.func147.trans (congrArg some (by kernel_rfl))
  f331 := Tryz.func151.trans (congrArg some (by kernel_rfl))
  f332 := Tryz.func152.trans (congrArg some (by kernel_rfl))
  f343 := Tryz.func154.trans (congrArg some (by kernel_rfl))
  t0 := Tryz.underlying0
  a0 := Tryz.isAgg0
  z0 := Tryz.sizeOf0
  v0 := Tryz.zeroValue0
  t3 := Tryz.underlying3
  a3 := Tryz.isAgg3
  z3 := Tryz.sizeOf3
  v3 := Tryz.zeroValue3
  t4 := Tryz.underlying4
  a4 := Tryz.isAgg4
  z4 := Tryz.sizeOf4
  v4 := Tryz.zeroValue4
  t5 := Tryz.underlying5
  a5 := Tryz.isAgg5
  z5 := Tryz.sizeOf5
  v5 := Tryz.zeroValue5
  t9 := Tryz.underlying9
  a9 := Tryz.isAgg9
  z9 := Tryz.sizeOf9
  v9 := Tryz.zeroValue9
  t28 := Tryz.underlying42
  a28 := Tryz.isAgg42
  z28 := Tryz.sizeOf42
  v28 := Tryz.zeroValue42
  t46 := Tryz.underlying163
  a46 := Tryz.isAgg163
  z46 := Tryz.sizeOf163
  v46 := Tryz.zeroValue163
  t51 := Tryz.underlying214
  a51 := Tryz.isAgg214
  z51 := Tryz.sizeOf214
  v51 := Tryz.zeroValue214
  t53 := Tryz.underlying90
  a53 := Tryz.isAgg90
  z53 := Tryz.sizeOf90
  v53 := Tryz.zeroValue90
  t131 := Tryz.underlying211
  a131 := Tryz.isAgg211
  z131 := Tryz.sizeOf211
  v131 := Tryz.zeroValue211
  t182 := Tryz.underlying206
  a182 := Tryz.isAgg206
  z182 := Tryz.sizeOf206
  v182 := Tryz.zeroValue206
  t183 := Tryz.underlying207
  a183 := Tryz.isAgg207
  z183 := Tryz.sizeOf207
  v183 := Tryz.zeroValue207
  t218 := Tryz.underlying221
  a218 := Tryz.isAgg221
  z218 := Tryz.sizeOf221
  v218 := Tryz.zeroValue221
  t222 := Tryz.underlying225
  a222 := Tryz.isAgg225
  z222 := Tryz.sizeOf225
  v222 := Tryz.zeroValue225
  t228 := Tryz.underlying229
  a228 := Tryz.isAgg229
  z228 := Tryz.sizeOf229
  v228 := Tryz.zeroValue229
  t229 := Tryz.underlying142
  a229 := Tryz.isAgg142
  z229 := Tryz.sizeOf142
  v229 := Tryz.zeroValue142 }
end Go.Proofs
namespace Go.Proofs.YtamnobjdgjbmbaaGreat
open Go Go.Fw Go.RowKit
set_option linter.unusedVariables false
set_option linter.unusedSimpArgs false
set_option maxRecDepth 100000
set_option maxHeartbeats 16000000
set_option synthInstance.maxHeartbeats 200000
set_option synthInstance.maxSize 100000
attribute [local irreducible] WPA WLA WDA WDQ WDE QQ seqQ blockQ loopQ fnQ OpP OpT Tr TrP SL SLd OwnS LitS Bk BkE Ob
section
variable {w0 : World} {I : Foot} {L : List HP}
theorem Values_tr {s : SV} : Tr Tryz.prog 98 #[.slice s.a s.n s.cap] (SL w0 I L) (fun V : Nat => .func (.func 117) #[] #[.pointer (some ⟨V, 0, none⟩)]) (fun V => SL w0 I (Bk V 42 [.slice s.a s.n s.cap] :: L)) := by
  refine Tr.intro Tryz.func98 rfl Tryz.ntmps98 rfl ?_
  repeat' (first | ((first | refine WLA.m rfl rfl ?_ ?_ | refine WLA.st rfl ?_ ?_ | refine WLA.x rfl rfl ?_ (fun x => ?_) | refine WLA.x0 rfl ?_ (fun x => ?_)); first | exact trivial | exact rfl | assumption | omega | (refine ⟨?_, ?_⟩ <;> omega) | (simp only [Room, lenS]; omega) | decide | skip) | (refine Stp.go ?_) | (refine WPA.ifT ?_) | (refine WPA.ifF ?_) | ((first | refine WPA.dec ?_); first | refine .inl ⟨by first | assumption | omega | with_reducible rfl | (refine fun h => h ?_; first | assumption | with_reducible rfl) | (simp only [lenS] <;> omega) | decide, ?_⟩ | refine .inr ⟨by first | assumption | omega | with_reducible rfl | (refine fun h => h ?_; first | assumption | with_reducible rfl) | (simp only [lenS] <;> omega) | decide, ?_⟩) | ((first | refine WPA.ifBt ?_ ?_ | refine WPA.ifBnf ?_ ?_); assumption) | ((first | refine WPA.ifBnt ?_ ?_ | refine WPA.ifBf ?_ ?_); assumption) | ((first | refine WPA.ifs ?_ ?_ | refine WPA.ifB ?_ ?_) <;> intro hc))
  exact QQ.end_ rfl _ rfl fun w h => h.to
theorem Values1_tr {V lb : Nat} {s : SV} {ids : List Int} {τ ω : Type} (Lk : τ → List HP) (ix : τ → Nat) (C : τ → Prop) (Bz : ω → World → Prop) (hs : SlI I s Int inferInstance ids) (hn : ids.length ≤ 1000000000)
    (hy : ∀ x : τ, C x → ix x < ids.length → YTr Tryz.prog lb #[.int .i64 (at_ ids (ix x : Int))] (SL w0 I (Bk V 42 [.slice s.a s.n s.cap] :: Lk x)) (fun y : τ ⊕ ω => .bool y.isLeft)
      (fun y w => match y with | .inl x' => (C x' ∧ ix x' = ix x + 1) ∧ SL w0 I (Bk V 42 [.slice s.a s.n s.cap] :: Lk x') w | .inr z => Bz z w))
    (x0 : τ) (hC : C x0) (h0 : ix x0 = 0) (hix : ∀ x, C x → ix x ≤ ids.length) :
    Tr Tryz.prog 117 #[.func (.yield lb) #[] #[], .pointer (some ⟨V, 0, none⟩)] (SL w0 I (Bk V 42 [.slice s.a s.n s.cap] :: Lk x0)) (fun _ : τ ⊕ ω => .tuple #[])
      (fun y w => match y with | .inl x' => (C x' ∧ ix x' = ids.length) ∧ SL w0 I (Bk V 42 [.slice s.a s.n s.cap] :: Lk x') w | .inr z => Bz z w) := by
  refine Tr.intro Tryz.func117 rfl Tryz.ntmps117 rfl ?_
  repeat' (first | ((first | refine WLA.m rfl rfl ?_ ?_ | refine WLA.st rfl ?_ ?_ | refine WLA.x rfl rfl ?_ (fun x => ?_) | refine WLA.x0 rfl ?_ (fun x => ?_)); first | exact trivial | exact rfl | assumption | omega | (refine ⟨?_, ?_⟩ <;> omega) | (simp only [Room, lenS]; omega) | decide | skip) | (refine Stp.go ?_) | (refine WPA.ifT ?_) | (refine WPA.ifF ?_) | ((first | refine WPA.dec ?_); first | refine .inl ⟨by first | assumption | omega | with_reducible rfl | (refine fun h => h ?_; first | assumption | with_reducible rfl) | (simp only [lenS] <;> omega) | decide, ?_⟩ | refine .inr ⟨by first | assumption | omega | with_reducible rfl | (refine fun h => h ?_; first | assumption | with_reducible rfl) | (simp only [lenS] <;> omega) | decide, ?_⟩) | ((first | refine WPA.ifBt ?_ ?_ | refine WPA.ifBnf ?_ ?_); assumption) | ((first | refine WPA.ifBnt ?_ ?_ | refine WPA.ifBf ?_ ?_); assumption) | ((first | refine WPA.ifs ?_ ?_ | refine WPA.ifB ?_ ?_) <;> intro hc))
  refine WPA.loopS (σ := τ) (fun x => [(0, .func (.yield lb) #[] #[]), (5, .slice s.a s.n s.cap), (6, .int .i64 ids.length), (7, .int .i64 (ix x))]) C
    (fun x => SL w0 I (Bk V 42 [.slice s.a s.n s.cap] :: Lk x)) (fun x => ids.length - ix x) x0 ⟨rfl, rfl, rfl, by rw [h0]; rfl, trivial⟩ hC (fun w h => h) ?_
  intro x ρ hCx
  have hxl := hix x hCx
  by_cases hlt : ix x < ids.length
  · have hlt' : (ix x : Int) < ids.length := by omega
    have hir : (0 : Int) ≤ (ix x : Int) ∧ (ix x : Int) < ids.length := by omega
    repeat' (first | ((first | refine WLA.m rfl rfl ?_ ?_ | refine WLA.st rfl ?_ ?_ | refine WLA.x rfl rfl ?_ (fun x => ?_) | refine WLA.x0 rfl ?_ (fun x => ?_)); first | exact trivial | exact rfl | assumption | omega | (refine ⟨?_, ?_⟩ <;> omega) | (simp only [Room, lenS]; omega) | decide | skip) | (refine Stp.go ?_) | (guard_target =~ WLA _ _ _ _ _ (⟨_, .call ⟨.value (.tmp _), _, _⟩, _, _, _, _⟩ :: _) _ _; refine WLA.yield rfl rfl ((hy x hCx hlt).ent) ?_; rintro (x' | z)) | (refine WPA.ifT ?_) | (refine WPA.ifF ?_) | ((first | refine WPA.dec ?_); first | refine .inl ⟨by first | assumption | omega | with_reducible rfl | (refine fun h => h ?_; first | assumption | with_reducible rfl) | (simp only [lenS] <;> omega) | decide, ?_⟩ | refine .inr ⟨by first | assumption | omega | with_reducible rfl | (refine fun h => h ?_; first | assumption | with_reducible rfl) | (simp only [lenS] <;> omega) | decide, ?_⟩) | ((first | refine WPA.ifBt ?_ ?_ | refine WPA.ifBnf ?_ ?_); assumption) | ((first | refine WPA.ifBnt ?_ ?_ | refine WPA.ifBf ?_ ?_); assumption) | ((first | refine WPA.ifs ?_ ?_ | refine WPA.ifB ?_ ?_) <;> intro hc))
    · refine QQ.pre fun hC' => ?_
      exact QQ.loopS x' ⟨rfl, rfl, rfl, by rw [hC'.2]; rfl, trivial⟩ hC'.1 (by have := hC'.2; omega) (fun w h => h)
    · exact QQ.end_ rfl (.inr z) rfl fun w h => h
  · have hlt' : ¬ (ix x : Int) < ids.length := by omega
    repeat' (first | ((first | refine WLA.m rfl rfl ?_ ?_ | refine WLA.st rfl ?_ ?_ | refine WLA.x rfl rfl ?_ (fun x => ?_) | refine WLA.x0 rfl ?_ (fun x => ?_)); first | exact trivial | exact rfl | assumption | omega | (refine ⟨?_, ?_⟩ <;> omega) | (simp only [Room, lenS]; omega) | decide | skip) | (refine Stp.go ?_) | (refine WPA.ifT ?_) | (refine WPA.ifF ?_) | ((first | refine WPA.dec ?_); first | refine .inl ⟨by first | assumption | omega | with_reducible rfl | (refine fun h => h ?_; first | assumption | with_reducible rfl) | (simp only [lenS] <;> omega) | decide, ?_⟩ | refine .inr ⟨by first | assumption | omega | with_reducible rfl | (refine fun h => h ?_; first | assumption | with_reducible rfl) | (simp only [lenS] <;> omega) | decide, ?_⟩) | ((first | refine WPA.ifBt ?_ ?_ | refine WPA.ifBnf ?_ ?_); assumption) | ((first | refine WPA.ifBnt ?_ ?_ | refine WPA.ifBf ?_ ?_); assumption) | ((first | refine WPA.ifs ?_ ?_ | refine WPA.ifB ?_ ?_) <;> intro hc))
    exact QQ.endn rfl (.inl x) rfl fun w h => ⟨⟨hCx, by omega⟩, h⟩
theorem AppendSeq_tr {V : Nat} {s : SV} {ids : List Int} (hs : SlI I s Int inferInstance ids) (hn : ids.length ≤ 1000000) :
    Tr Tryz.prog 123 #[.slice none 0 0, .func (.func 117) #[] #[.pointer (some ⟨V, 0, none⟩)]] (SL w0 I (Bk V 42 [.slice s.a s.n s.cap] :: L)) (fun r : SV => .slice r.a r.n r.cap) (fun r => SL w0 I (OwnS 3 r ids :: L)) := by
  refine Tr.intro Tryz.func123 rfl Tryz.ntmps123 rfl ?_
  repeat' (first | ((first | refine WLA.m rfl rfl ?_ ?_ | refine WLA.st rfl ?_ ?_ | refine WLA.x rfl rfl ?_ (fun x => ?_) | refine WLA.x0 rfl ?_ (fun x => ?_)); first | exact trivial | exact rfl | assumption | omega | (refine ⟨?_, ?_⟩ <;> omega) | (simp only [Room, lenS]; omega) | decide | skip) | (refine Stp.go ?_) | (refine WPA.ifT ?_) | (refine WPA.ifF ?_) | ((first | refine WPA.dec ?_); first | refine .inl ⟨by first | assumption | omega | with_reducible rfl | (refine fun h => h ?_; first | assumption | with_reducible rfl) | (simp only [lenS] <;> omega) | decide, ?_⟩ | refine .inr ⟨by first | assumption | omega | with_reducible rfl | (refine fun h => h ?_; first | assumption | with_reducible rfl) | (simp only [lenS] <;> omega) | decide, ?_⟩) | ((first | refine WPA.ifBt ?_ ?_ | refine WPA.ifBnf ?_ ?_); assumption) | ((first | refine WPA.ifBnt ?_ ?_ | refine WPA.ifBf ?_ ?_); assumption) | ((first | refine WPA.ifs ?_ ?_ | refine WPA.ifB ?_ ?_) <;> intro hc))
  revert x; intro A
  refine WPA.rangeS fun D rc hrc => ?_
  let Lk : Nat × SV → List HP := fun k => Ob (D + 1) (rc .ready none) :: Ob D (.deferred (some [])) :: Bk A 42 [.slice k.2.a k.2.n k.2.cap] :: OwnS 3 k.2 (ids.take k.1) :: L
  refine ⟨SV, fun _ => .tuple #[], fun _ => .ready, fun _ => none, fun q => Ob D (.deferred (some [])) :: Bk V 42 [.slice s.a s.n s.cap] :: Bk A 42 [.slice q.a q.n q.cap] :: OwnS 3 q ids :: L, ?_, ?_⟩
  · refine (Values1_tr (w0 := w0) (I := I) (V := V) (s := s) (ω := Empty) Lk (fun k => k.1) (fun k => k.1 ≤ ids.length) (fun z _ => z.elim) hs (by omega) ?_ (0, SV.nil) (Nat.zero_le _) rfl (fun x h => h)).conv (fun w h => ?_) ?_
    · rintro ⟨k, q⟩ hk hkl
      dsimp only at hk hkl
      have hroom : Room ((ids.take k).length + 1) 8 := ⟨by rw [List.length_take]; omega, by rw [List.length_take]; omega⟩
      have htk : ids.take (k + 1) = ids.take k ++ [at_ ids (k : Int)] := by rw [List.take_add_one, List.getElem?_eq_getElem hkl, at_nat ids k hkl]; rfl
      dsimp only [Lk]
      refine (YTr.ofS (val := fun y : (Nat × SV) ⊕ Empty => y.isLeft) hrc (agreeP rfl) rfl ?_)
      repeat' (first | ((first | refine WLA.m rfl rfl ?_ ?_ | refine WLA.st rfl ?_ ?_ | refine WLA.x rfl rfl ?_ (fun x => ?_) | refine WLA.x0 rfl ?_ (fun x => ?_)); first | exact trivial | exact rfl | assumption | omega | (refine ⟨?_, ?_⟩ <;> omega) | (simp only [Room, lenS]; omega) | decide | skip) | (refine Stp.go ?_) | (refine WPA.ifT ?_) | (refine WPA.ifF ?_) | ((first | refine WPA.dec ?_); first | refine .inl ⟨by first | assumption | omega | with_reducible rfl | (refine fun h => h ?_; first | assumption | with_reducible rfl) | (simp only [lenS] <;> omega) | decide, ?_⟩ | refine .inr ⟨by first | assumption | omega | with_reducible rfl | (refine fun h => h ?_; first | assumption | with_reducible rfl) | (simp only [lenS] <;> omega) | decide, ?_⟩) | ((first | refine WPA.ifBt ?_ ?_ | refine WPA.ifBnf ?_ ?_); assumption) | ((first | refine WPA.ifBnt ?_ ?_ | refine WPA.ifBf ?_ ?_); assumption) | ((first | refine WPA.ifs ?_ ?_ | refine WPA.ifB ?_ ?_) <;> intro hc))
      refine QQ.midS ?_
      repeat' (first | ((first | refine WLA.m rfl rfl ?_ ?_ | refine WLA.st rfl ?_ ?_ | refine WLA.x rfl rfl ?_ (fun x => ?_) | refine WLA.x0 rfl ?_ (fun x => ?_)); first | exact trivial | exact rfl | assumption | omega | (refine ⟨?_, ?_⟩ <;> omega) | (simp only [Room, lenS]; omega) | decide | skip) | (refine Stp.go ?_) | (refine WPA.ifT ?_) | (refine WPA.ifF ?_) | ((first | refine WPA.dec ?_); first | refine .inl ⟨by first | assumption | omega | with_reducible rfl | (refine fun h => h ?_; first | assumption | with_reducible rfl) | (simp only [lenS] <;> omega) | decide, ?_⟩ | refine .inr ⟨by first | assumption | omega | with_reducible rfl | (refine fun h => h ?_; first | assumption | with_reducible rfl) | (simp only [lenS] <;> omega) | decide, ?_⟩) | ((first | refine WPA.ifBt ?_ ?_ | refine WPA.ifBnf ?_ ?_); assumption) | ((first | refine WPA.ifBnt ?_ ?_ | refine WPA.ifBf ?_ ?_); assumption) | ((first | refine WPA.ifs ?_ ?_ | refine WPA.ifB ?_ ?_) <;> intro hc))
      exact QQ.rndN (fun w h => ⟨.inl (k + 1, x), rfl, ⟨⟨hkl, rfl⟩, by dsimp only; rw [htk]; exact h.to⟩⟩)
    · dsimp only [Lk]
      have h2 := (Ent.ownNil (α := Int) (t := 3) Ent.refl).sl h
      have h3 : SL w0 I (Bk V 42 [.slice s.a s.n s.cap] :: Ob (D + 1) (rc .ready none) :: Ob D (.deferred (some [])) :: Bk A 42 [.slice none 0 0] :: OwnS 3 SV.nil ([] : List Int) :: L) w := h2.to
      exact h3
    · rintro (⟨k, q⟩ | x) w hb
      · refine ⟨q, rfl, ?_⟩
        have h := hb.2
        have e : k = ids.length := hb.1.2
        subst e
        dsimp only [Lk] at h ⊢
        rw [List.take_length] at h
        exact h.to
      · exact x.elim
  · intro q
    refine ⟨by simp, ?_⟩
    show QQ _ _ _ _
    dsimp only
    repeat' (first | ((first | refine WLA.m rfl rfl ?_ ?_ | refine WLA.st rfl ?_ ?_ | refine WLA.x rfl rfl ?_ (fun x => ?_) | refine WLA.x0 rfl ?_ (fun x => ?_)); first | exact trivial | exact rfl | assumption | omega | (refine ⟨?_, ?_⟩ <;> omega) | (simp only [Room, lenS]; omega) | decide | skip) | (refine Stp.go ?_) | (refine WPA.ifT ?_) | (refine WPA.ifF ?_) | ((first | refine WPA.dec ?_); first | refine .inl ⟨by first | assumption | omega | with_reducible rfl | (refine fun h => h ?_; first | assumption | with_reducible rfl) | (simp only [lenS] <;> omega) | decide, ?_⟩ | refine .inr ⟨by first | assumption | omega | with_reducible rfl | (refine fun h => h ?_; first | assumption | with_reducible rfl) | (simp only [lenS] <;> omega) | decide, ?_⟩) | ((first | refine WPA.ifBt ?_ ?_ | refine WPA.ifBnf ?_ ?_); assumption) | ((first | refine WPA.ifBnt ?_ ?_ | refine WPA.ifBf ?_ ?_); assumption) | ((first | refine WPA.ifs ?_ ?_ | refine WPA.ifB ?_ ?_) <;> intro hc))
    exact QQ.fin [D] (L' := OwnS 3 q ids :: L) rfl (EntC.out (L' := Ob D (.deferred (some [])) :: OwnS 3 q ids :: L)) rfl q rfl fun w h => h.to
theorem Collect_tr {V : Nat} {s : SV} {ids : List Int} (hs : SlI I s Int inferInstance ids) (hn : ids.length ≤ 1000000) :
    Tr Tryz.prog 115 #[.func (.func 117) #[] #[.pointer (some ⟨V, 0, none⟩)]] (SL w0 I (Bk V 42 [.slice s.a s.n s.cap] :: L)) (fun r : SV => .slice r.a r.n r.cap) (fun r => SL w0 I (OwnS 3 r ids :: L)) := by
  refine Tr.intro Tryz.func115 rfl Tryz.ntmps115 rfl ?_
  repeat' (first | ((first | refine WLA.m rfl rfl ?_ ?_ | refine WLA.st rfl ?_ ?_ | refine WLA.x rfl rfl ?_ (fun x => ?_) | refine WLA.x0 rfl ?_ (fun x => ?_)); first | exact trivial | exact rfl | assumption | omega | (refine ⟨?_, ?_⟩ <;> omega) | (simp only [Room, lenS]; omega) | decide | skip) | (refine Stp.go ?_) | (guard_target =~ WLA _ _ _ _ _ (⟨_, .call ⟨.value (.func 123), _, _⟩, _, _, _, _⟩ :: _) _ _; refine WLA.call rfl rfl (AppendSeq_tr hs hn) ?_; rintro r) | (refine WPA.ifT ?_) | (refine WPA.ifF ?_) | ((first | refine WPA.dec ?_); first | refine .inl ⟨by first | assumption | omega | with_reducible rfl | (refine fun h => h ?_; first | assumption | with_reducible rfl) | (simp only [lenS] <;> omega) | decide, ?_⟩ | refine .inr ⟨by first | assumption | omega | with_reducible rfl | (refine fun h => h ?_; first | assumption | with_reducible rfl) | (simp only [lenS] <;> omega) | decide, ?_⟩) | ((first | refine WPA.ifBt ?_ ?_ | refine WPA.ifBnf ?_ ?_); assumption) | ((first | refine WPA.ifBnt ?_ ?_ | refine WPA.ifBf ?_ ?_); assumption) | ((first | refine WPA.ifs ?_ ?_ | refine WPA.ifB ?_ ?_) <;> intro hc))
  exact QQ.end_ rfl r rfl fun w h => h.to
theorem Sorted_tr {V : Nat} {s : SV} {ids : List Int} (hs : SlI I s Int inferInstance ids) (hn : ids.length ≤ 1000000) :
    Tr Tryz.prog 97 #[.func (.func 117) #[] #[.pointer (some ⟨V, 0, none⟩)]] (SL w0 I (Bk V 42 [.slice s.a s.n s.cap] :: L)) (fun r : SV => .slice r.a r.n r.cap) (fun r => SL w0 I (OwnS 3 r (srtI ids) :: L)) := by
  refine Tr.intro Tryz.func97 rfl Tryz.ntmps97 rfl ?_
  have hsort : ∀ {r : SV} {L : List HP}, Tr Tryz.prog 116 #[.slice r.a r.n r.cap] (SL w0 I (OwnS 3 r ids :: L)) (fun _ : Unit => .tuple #[]) (fun _ => SL w0 I (OwnS 3 r (srtI ids) :: L)) := fun {r L} => sortI_tr (ρ := Tryz.sortI_ren) Tryz.sortI (by omega)
  repeat' (first | ((first | refine WLA.m rfl rfl ?_ ?_ | refine WLA.st rfl ?_ ?_ | refine WLA.x rfl rfl ?_ (fun x => ?_) | refine WLA.x0 rfl ?_ (fun x => ?_)); first | exact trivial | exact rfl | assumption | omega | (refine ⟨?_, ?_⟩ <;> omega) | (simp only [Room, lenS]; omega) | decide | skip) | (refine Stp.go ?_) | (guard_target =~ WLA _ _ _ _ _ (⟨_, .call ⟨.value (.func 115), _, _⟩, _, _, _, _⟩ :: _) _ _; refine WLA.call rfl rfl (Collect_tr hs hn) ?_; rintro r) | (guard_target =~ WLA _ _ _ _ _ (⟨_, .call ⟨.value (.func 116), _, _⟩, _, _, _, _⟩ :: _) _ _; refine WLA.call rfl rfl (hsort) ?_; rintro ⟨⟩) | (refine WPA.ifT ?_) | (refine WPA.ifF ?_) | ((first | refine WPA.dec ?_); first | refine .inl ⟨by first | assumption | omega | with_reducible rfl | (refine fun h => h ?_; first | assumption | with_reducible rfl) | (simp only [lenS] <;> omega) | decide, ?_⟩ | refine .inr ⟨by first | assumption | omega | with_reducible rfl | (refine fun h => h ?_; first | assumption | with_reducible rfl) | (simp only [lenS] <;> omega) | decide, ?_⟩) | ((first | refine WPA.ifBt ?_ ?_ | refine WPA.ifBnf ?_ ?_); assumption) | ((first | refine WPA.ifBnt ?_ ?_ | refine WPA.ifBf ?_ ?_); assumption) | ((first | refine WPA.ifs ?_ ?_ | refine WPA.ifB ?_ ?_) <;> intro hc))
  exact QQ.end_ rfl r rfl fun w h => h.to
end
end Go.Proofs.YtamnobjdgjbmbaaGreat
