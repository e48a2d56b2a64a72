/- Texts that ArpaPrints_law leans on, part 16. Conditions: none. -/
import Derived.Lib.Builder
import Derived.Lib.UnsafeStr
import Derived.Laws.Externs
import Derived.Shelf.Strconv.Itoa3
import Derived.Shelf.Strings.OnBuilder
import Derived.Test.YthkhneimfjaohaaGreatDoorProg
import Derived.Lib.SmallJoins
import Derived.Test.YthkhneimfjaohaaGreatDoorQp15
namespace Go.Fw
open Go Go.RowKit Go.Lib
set_option linter.unusedVariables false
set_option linter.unusedSimpArgs false
theorem add_at0 (g j : Nat) : (⟨g, 0, none⟩ : Addr).add j = ⟨g, j, none⟩ := by unfold Addr.add; split <;> simp_all
class LiesT (P : Program) (t : TypeId) (n : outParam Nat) : Prop where
  out : liesAt P P.depth t (n / P.cellsOf t) 0 t 1 = true
class ExtSame (P : Program) (f : FuncId) : Prop where
  out : ∀ (x : Value) (w : World), (callFunc f #[x]).run P w = .ok (.value x) w
section
variable {P : Program} {ρ : Env} {A : World → Prop} {ty : TypeId} {w0 : World} {I : Foot} {L L' : List HP}
theorem SL.shape {b : Nat} {t : TypeId} {cs : List Value} {w : World} (h : SL w0 I (Bk b t cs :: L) w) : w.shape? b = some (t, cs.length) := by
  have := h.bk
  simp [World.shape?, this]
instance {x : Operand} {src dst t t' : TypeId} {b n m : Nat} {z cs : List Value} [hx : Ev ρ x (.pointer (some ⟨b, 0, none⟩))] [hs : Und P src (.pointer t)] [hd : Und P dst .unsafePointer] [hz : Inf P t z n m] [hA : InSL A w0 I L] [hb : FindBk L b t' cs L'] :
    OpM P ρ A (.convert src dst x) ty (.pointer (some ⟨b, 0, none⟩)) (n ≠ 0 ∧ cs.length ≠ 0) := ⟨fun h => OpP.at fun w hw => by
  obtain ⟨i, hi, hi2⟩ := Option.map_eq_some_iff.1 hz.size
  have hsh := (hb.out.sl (hA.out w hw)).shape
  have := run_to_unsafe (P := P) w ⟨b, 0, none⟩ hs.out hd.out hi (by rw [hi2]; exact h.1) hsh (Nat.pos_of_ne_zero h.2)
  intro d pos af g w' hw'
  subst hw'
  simp only [execOp, hx.out, this, Sem.run_bind, Sem.run_pure, Result.andThen_ok, go_sem]⟩
instance {x : Operand} {src dst u : TypeId} {b n m k : Nat} {z cs : List Value} [hx : Ev ρ x (.pointer (some ⟨b, 0, none⟩))] [hs : Und P src .unsafePointer] [hd : Und P dst (.pointer u)] [hz : Inf P u z n m] [hA : InSL A w0 I L] [hb : FindBk L b u cs L'] [hl : LiesT P u k] [hn : LenL cs k] :
    OpM P ρ A (.convert src dst x) ty (.pointer (some ⟨b, 0, none⟩)) True := ⟨fun _ => OpP.at fun w hw => by
  obtain ⟨i, hi, hi2⟩ := Option.map_eq_some_iff.1 hz.size
  have hsh := (hb.out.sl (hA.out w hw)).shape
  have := run_from_unsafe (P := P) w ⟨b, 0, none⟩ hs.out hd.out hi hsh (by rw [hn.out]; exact hl.out)
  intro d pos af g w' hw'
  subst hw'
  simp only [execOp, hx.out, this, Sem.run_bind, Sem.run_pure, Result.andThen_ok, go_sem]⟩
instance {x : Operand} {f : FuncId} {ts : Array TypeId} {v : Value} [hx : Ev ρ x v] [hf : ExtSame P f] : OpM P ρ A (.call { callee := .value (.func f), args := #[x], argTypes := ts }) ty v True := ⟨fun _ => by
  intro d pos af g w _
  have e1 : evalE ρ (.func f) = .func (.func f) #[] #[] := rfl
  have e2 := hx.out
  simp [execOp, resolve, invoke, Deferred.ofValue, e1, e2, hf.out, go_sem]⟩
instance (priority := 1300) {x y : Operand} {t te u : TypeId} {a : Addr} {z : List Value} {n m : Nat} [h1 : Ev ρ x (.pointer (some a))] [h2 : Ev ρ y (.pointer (some a))] [ht : Und P t (.pointer te)] [hz : Inf P te z n m] : OpM P ρ A (.binOp .neq t x y u) ty (.bool false) True := ⟨fun _ => by
  obtain ⟨i, hi, hi2⟩ := Option.map_eq_some_iff.1 hz.size
  intro d pos af g w _
  have := run_neq_ptr_same (P := P) w a ht.out hi
  simp [execOp, eqGuard, h1.out, h2.out, this, go_sem]⟩
theorem SL.junk {w : World} (h : SL w0 I L w) (o : Obj) : SL w0 I L { w with heap := w.heap.push o } := Ent.drop1.sl (h.push (p := Ob w.heap.size o) o rfl)
instance {x : Operand} {s : SV} {ts : Array TypeId} {e t' : TypeId} {α : Type} {en : Enc α} {xs : List α} [hx : Ev ρ x (.slice s.a s.n s.cap)] [ht : Und P ty (.pointer e)] [hA : InSL A w0 I L] [ho : FindOwn L s t' α en xs L'] :
    OpE P ρ A (.call { callee := .builtin .unsafeSliceData, args := #[x], argTypes := ts }) ty { q : Option Addr // s.n ≠ 0 → q = s.a } (fun q => .pointer q.1) (fun _ => SL w0 I L) True := ⟨fun _ => OpT.sl fun w hw d pos af g => by
  obtain ⟨R, hR, hm⟩ := (ho.out.sl hw).heap
  have hexec : ∀ v w', (Builtin.unsafeSliceData_ ts ty #[.slice s.a s.n s.cap]).run P w = .ok v w' → (execOp (evalE ρ) ⟨d, .call { callee := .builtin .unsafeSliceData, args := #[x], argTypes := ts }, ty, pos, af, g⟩).run P w = .ok (.value v) w' := by
    intro v w' h
    unfold execOp
    simp only [resolve, invoke, builtin, Sem.run_bind, Sem.run_pure, Result.andThen_ok, List.map_toArray, List.map_cons, List.map_nil, hx.out, h]
  rcases hR.2 with ⟨hv, hn, hr⟩ | ⟨gb, cap, cur, hv, hnc, hcm, hcs, htake, hr⟩
  · injection hv with h1 h2 h3
    rw [hexec _ _ (by rw [h1]; exact run_unsafeSliceData_nil (P := P) w ts ty s.n s.cap)]
    exact ⟨⟨none, fun hne => absurd hn hne⟩, rfl, hw⟩
  · injection hv with h1 h2 h3
    by_cases hc : s.cap = 0
    · have hg := hm gb _ (by rw [hr]; exact List.mem_singleton.2 rfl)
      have hsh : w.shape? gb = some (t', cur.size) := by simp [World.shape?, hg]
      rw [hexec _ _ (by rw [h1, hc]; exact run_unsafeSliceData_zero (P := P) w ts ty e ht.out ⟨gb, 0, none⟩ s.n _ hsh)]
      exact ⟨⟨some ⟨w.heap.size, 0, none⟩, fun hne => absurd (show s.n = 0 by omega) hne⟩, rfl, hw.junk _⟩
    · rw [hexec _ _ (by rw [h1]; exact run_unsafeSliceData_row (P := P) w ts ty ⟨gb, 0, none⟩ s.n s.cap hc)]
      exact ⟨⟨some ⟨gb, 0, none⟩, fun _ => h1.symm⟩, rfl, hw⟩⟩
theorem unsafeStr {x y : Operand} {q : Option Addr} {pt it e : TypeId} {s : SV} {t : ByteArray} [hx : Ev ρ x (.pointer q)] [hy : Ev ρ y (.int .i64 (t.size : Int))] [hA : InSL A w0 I L] [hp : Und P pt (.pointer e)] (hc : P.cellsOf e = 1) (ho : Ent L (OwnS e s (bytesK t) :: L')) (hq : s.n ≠ 0 → q = s.a) :
    OpE P ρ A (.call { callee := .builtin .unsafeString, args := #[x, y], argTypes := #[pt, it] }) ty Unit (fun _ => .string t) (fun _ => SL w0 I L') True := ⟨fun _ => OpT.sl fun w hw d pos af g => by
  have hexec : ∀ v w', (Builtin.unsafeString_ #[pt, it] ty #[.pointer q, .int .i64 (t.size : Int)]).run P w = .ok v w' → (execOp (evalE ρ) ⟨d, .call { callee := .builtin .unsafeString, args := #[x, y], argTypes := #[pt, it] }, ty, pos, af, g⟩).run P w = .ok (.value v) w' := by
    intro v w' h
    unfold execOp
    simp only [resolve, invoke, builtin, Sem.run_bind, Sem.run_pure, Result.andThen_ok, List.map_toArray, List.map_cons, List.map_nil, hx.out, hy.out, h]
  obtain ⟨H, R, Rs, h1, hR, h2, h3⟩ := (ho.sl hw).uncons
  have hn : s.n = t.size := by rw [OwnR.len hR, bytesK_len]
  by_cases h0 : t.size = 0
  · have ht : t = ⟨#[]⟩ := by
      cases t with
      | mk d => simp only [ByteArray.size] at h0; rw [Array.eq_empty_of_size_eq_zero h0]
    rw [hexec _ _ (by rw [h0]; exact run_unsafeString_none (P := P) w pt it ty q)]
    exact ⟨(), by rw [ht]; rfl, (ho.trans Ent.drop1).sl hw⟩
  · rcases hR.2 with ⟨hv, hz, hr⟩ | ⟨gb, cap, cur, hv, hnc, hcm, hcs, htake, hr⟩
    · omega
    · injection hv with g1 g2 g3
      have hqe := hq (by omega)
      rw [g1] at hqe
      subst hqe
      subst hr
      have hg := (h3.own (gb, .cells cur e (0, 0)) (List.mem_append_left _ (List.mem_singleton.2 rfl))).1
      have hsh : w.shape? gb = some (e, cur.size) := by simp [World.shape?, hg]
      have hll : t.data.toList.length = t.size := by rw [Array.length_toList]; rfl
      have hcur : cur.size = cap := by have h8 : cur.size = cap * 1 := hcs; omega
      have key := run_unsafeString_row (P := P) w pt it ty e hp.out hc gb cur.size hsh t.data.toList (fun hnil => h0 (by rw [← hll, hnil]; rfl)) (by omega) (by unfold maxLen at hcm; omega) (fun j v hj => by
        rw [add_at0]
        refine cell_of_heap hg ?_
        have hc2 : (flat (bytesK t))[j]? = some (.int .u8 (v.toNat : Int)) := by rw [flat_bytesK, List.getElem?_map, hj]; rfl
        rw [← htake, List.getElem?_take] at hc2
        split at hc2
        · simpa using hc2
        · cases hc2)
      rw [hll] at key
      rw [hexec _ _ key]
      refine ⟨(), rfl, ?_⟩
      have hst : St w0 H ((gb, .cells cur e (0, 0)) :: Rs.flatten) w := h3
      have hwf : w.freeze ⟨gb, 0, none⟩ t.size = { w with heap := w.heap.modify gb fun o => match o with
          | .cells c elem (lo, hi) => .cells c elem (if lo == hi then (0, 0 + t.size) else (min lo 0, max hi (0 + t.size)))
          | o => o } := by unfold World.freeze; rw [if_neg h0]; rfl
      rw [hwf]
      have hfr := hst.put (j := 0) (b := gb) (o := .cells cur e (0, 0)) (o' := .cells cur e (0, 0 + t.size)) rfl (w' := { w with heap := w.heap.modify gb fun o => match o with
          | .cells c elem (lo, hi) => .cells c elem (if lo == hi then (0, 0 + t.size) else (min lo 0, max hi (0 + t.size)))
          | o => o }) (fun k => by
        show (w.heap.modify gb _)[k]? = _
        rw [Array.getElem?_modify]
        by_cases hk : k = gb
        · subst hk
          rw [if_pos rfl, if_pos rfl, hg]; rfl
        · rw [if_neg (fun h => hk h.symm), if_neg hk]) (by simp) rfl rfl rfl (Nat.le_refl _)
      exact ⟨H, Rs, h1, h2, hfr.drop (List.sublist_cons_self _ _)⟩⟩
end
end Go.Fw
namespace Go.Proofs.YthkhneimfjaohaaGreatDoor
open Go Go.Fw Go.RowKit
set_option linter.unusedVariables false
set_option linter.unusedSimpArgs false
set_option maxRecDepth 100000
set_option maxHeartbeats 16000000
set_option synthInstance.maxHeartbeats 200000
set_option synthInstance.maxSize 100000
attribute [local irreducible] WPA WLA WDA WDQ WDE QQ seqQ blockQ loopQ fnQ OpP OpT Tr TrP SL SLd OwnS LitS Bk BkE Ob
open Go.Lib
instance : Und Tryz.prog 142 .unsafePointer := ⟨Tryz.underlying142⟩
class LiesU (P : Program) (t u : TypeId) (n : outParam Nat) : Prop where
  out : liesAt P P.depth t (n / P.cellsOf t) 0 u 1 = true
instance : LiesU Tryz.prog 51 49 2 := ⟨by kernel_rfl⟩
instance {P : Program} {ρ : Env} {A : World → Prop} {ty : TypeId} {w0 : World} {I : Foot} {L L' : List HP} {x : Operand} {src dst t u : TypeId} {b n m k : Nat} {z cs : List Value} [hx : Ev ρ x (.pointer (some ⟨b, 0, none⟩))] [hs : Und P src .unsafePointer] [hd : Und P dst (.pointer u)] [hz : Inf P u z n m] [hA : InSL A w0 I L] [hb : FindBk L b t cs L'] [hl : LiesU P t u k] [hn : LenL cs k] :
    OpM P ρ A (.convert src dst x) ty (.pointer (some ⟨b, 0, none⟩)) True := ⟨fun _ => OpP.at fun w hw => by
  obtain ⟨i, hi, hi2⟩ := Option.map_eq_some_iff.1 hz.size
  have hsh := (hb.out.sl (hA.out w hw)).shape
  have := run_from_unsafe (P := P) w ⟨b, 0, none⟩ hs.out hd.out hi hsh (by rw [hn.out]; exact hl.out)
  unfold OpP
  intro d pos af g w' hw'
  subst hw'
  simp only [execOp, hx.out, this, Sem.run_bind, Sem.run_pure, Result.andThen_ok, go_sem]⟩
instance : ExtSame Tryz.prog 86 := ⟨fun x w => by
  rw [run_callFunc_extern Tryz.func86 (by kernel_rfl) (by kernel_rfl) (by kernel_rfl) (e := Extern.AbiNoEscape.same) (by kernel_rfl)]
  rw [Lib.run_noEscape]; rfl⟩
theorem bytesK_append (t u : ByteArray) : bytesK (t ++ u) = bytesK t ++ bytesK u := by
  unfold bytesK
  rw [ByteArray.data_append, Array.toList_append, List.map_append]
def PrnR (b : Nat) (t : ByteArray) : HP := exH fun q : Option Addr × SV => pureH (q.1 = none ∨ q.1 = some ⟨b, 0, none⟩) (star (Bk b 51 [.pointer q.1, .slice q.2.a q.2.n q.2.cap]) (OwnS 5 q.2 (bytesK t)))
theorem PrnR.fold {b : Nat} {t : ByteArray} {s : SV} {L : List HP} : Ent (Bk b 51 [.pointer (some ⟨b, 0, none⟩), .slice s.a s.n s.cap] :: OwnS 5 s (bytesK t) :: L) (PrnR b t :: L) := Ent.ex (some ⟨b, 0, none⟩, s) (Ent.pure (.inr rfl) (Ent.star Ent.refl))
theorem PrnR.new {b : Nat} {L : List HP} : Ent (Bk b 51 [.pointer none, .slice none 0 0] :: L) (PrnR b ⟨#[]⟩ :: L) :=
  (Ent.cons (Ent.ownNil (α := KInt .u8) (t := 5) Ent.refl)).trans (Ent.ex (none, SV.nil) (Ent.pure (.inl rfl) (Ent.star Ent.refl)))
instance {b : Nat} {t : ByteArray} : Opn (PrnR b t) { q : Option Addr × SV // q.1 = none ∨ q.1 = some ⟨b, 0, none⟩ } (fun q L => Bk b 51 [.pointer q.1.1, .slice q.1.2.a q.1.2.n q.1.2.cap] :: OwnS 5 q.1.2 (bytesK t) :: L) := ⟨fun w0 I L w h => by
  obtain ⟨q, h⟩ := h.exH
  obtain ⟨hq, h⟩ := h.pureH
  exact ⟨⟨q, hq⟩, Ent.unstar.sl h⟩⟩
section
variable {L L' : List HP} {w0 : World} {I : Foot}
theorem pCopy_tr {b : Nat} {q : Option Addr} {s : SV} (hq : q = none ∨ q = some ⟨b, 0, none⟩) : Tr Tryz.prog 68 #[.pointer (some ⟨b, 0, none⟩)] (SL w0 I (Bk b 51 [.pointer q, .slice s.a s.n s.cap] :: L)) (fun _ : Unit => .tuple #[]) (fun _ => SL w0 I (Bk b 51 [.pointer (some ⟨b, 0, none⟩), .slice s.a s.n s.cap] :: L)) := by
  refine Tr.intro Tryz.func68 rfl Tryz.ntmps68 rfl ?_
  rcases hq with rfl | rfl
  · have h1 : (2 : Nat) ≠ 0 ∧ ([.pointer none, .slice s.a s.n s.cap] : List Value).length ≠ 0 := ⟨by decide, by simp⟩
    repeat' (first | ((first | refine WLA.m rfl rfl ?_ ?_ | refine WLA.st rfl ?_ ?_ | refine WLA.x rfl rfl ?_ (fun x => ?_) | refine WLA.x0 rfl ?_ (fun x => ?_)); first | exact trivial | exact rfl | assumption | omega | (refine ⟨?_, ?_⟩ <;> omega) | (simp only [Room, lenS]; omega) | decide | skip) | (refine Stp.go ?_) | (refine WPA.ifT ?_) | (refine WPA.ifF ?_) | ((first | refine WPA.dec ?_); first | refine .inl ⟨by first | assumption | omega | with_reducible rfl | (refine fun h => h ?_; first | assumption | with_reducible rfl) | (simp only [lenS] <;> omega) | decide, ?_⟩ | refine .inr ⟨by first | assumption | omega | with_reducible rfl | (refine fun h => h ?_; first | assumption | with_reducible rfl) | (simp only [lenS] <;> omega) | decide, ?_⟩) | ((first | refine WPA.ifBt ?_ ?_ | refine WPA.ifBnf ?_ ?_); assumption) | ((first | refine WPA.ifBnt ?_ ?_ | refine WPA.ifBf ?_ ?_); assumption) | ((first | refine WPA.ifs ?_ ?_ | refine WPA.ifB ?_ ?_) <;> intro hc))
    exact QQ.endn rfl () rfl fun w h => h.to
  · skip
    repeat' (first | ((first | refine WLA.m rfl rfl ?_ ?_ | refine WLA.st rfl ?_ ?_ | refine WLA.x rfl rfl ?_ (fun x => ?_) | refine WLA.x0 rfl ?_ (fun x => ?_)); first | exact trivial | exact rfl | assumption | omega | (refine ⟨?_, ?_⟩ <;> omega) | (simp only [Room, lenS]; omega) | decide | skip) | (refine Stp.go ?_) | (refine WPA.ifT ?_) | (refine WPA.ifF ?_) | ((first | refine WPA.dec ?_); first | refine .inl ⟨by first | assumption | omega | with_reducible rfl | (refine fun h => h ?_; first | assumption | with_reducible rfl) | (simp only [lenS] <;> omega) | decide, ?_⟩ | refine .inr ⟨by first | assumption | omega | with_reducible rfl | (refine fun h => h ?_; first | assumption | with_reducible rfl) | (simp only [lenS] <;> omega) | decide, ?_⟩) | ((first | refine WPA.ifBt ?_ ?_ | refine WPA.ifBnf ?_ ?_); assumption) | ((first | refine WPA.ifBnt ?_ ?_ | refine WPA.ifBf ?_ ?_); assumption) | ((first | refine WPA.ifs ?_ ?_ | refine WPA.ifB ?_ ?_) <;> intro hc))
    exact QQ.endn rfl () rfl fun w h => h.to
theorem pWrite_tr {b : Nat} {t u : ByteArray} [h : FindK L PrnR b t L'] (hz : t.size + u.size ≤ 140737488355328) : Tr Tryz.prog 43 #[.pointer (some ⟨b, 0, none⟩), .string u] (SL w0 I L) (fun _ : Unit => .tuple #[.int .i64 u.size, .nilIface]) (fun _ => SL w0 I (PrnR b (t ++ u) :: L')) := by
  refine Tr.at h.out (Tr.opn fun q => ?_)
  obtain ⟨⟨q, s⟩, hq⟩ := q
  dsimp only
  refine Tr.intro Tryz.func43 rfl Tryz.ntmps43 rfl ?_
  have hbl := bytesK_len t
  have hroom : Room ((bytesK t).length + u.size) 1 := ⟨by omega, by omega⟩
  repeat' (first | ((first | refine WLA.m rfl rfl ?_ ?_ | refine WLA.st rfl ?_ ?_ | refine WLA.x rfl rfl ?_ (fun x => ?_) | refine WLA.x0 rfl ?_ (fun x => ?_)); first | exact trivial | exact rfl | assumption | omega | (refine ⟨?_, ?_⟩ <;> omega) | (simp only [Room, lenS]; omega) | decide | skip) | (refine Stp.go ?_) | (guard_target =~ WLA _ _ _ _ _ (⟨_, .call ⟨.value (.func 68), _, _⟩, _, _, _, _⟩ :: _) _ _; refine WLA.call rfl rfl (pCopy_tr hq) ?_; rintro ⟨⟩) | (refine WPA.ifT ?_) | (refine WPA.ifF ?_) | ((first | refine WPA.dec ?_); first | refine .inl ⟨by first | assumption | omega | with_reducible rfl | (refine fun h => h ?_; first | assumption | with_reducible rfl) | (simp only [lenS] <;> omega) | decide, ?_⟩ | refine .inr ⟨by first | assumption | omega | with_reducible rfl | (refine fun h => h ?_; first | assumption | with_reducible rfl) | (simp only [lenS] <;> omega) | decide, ?_⟩) | ((first | refine WPA.ifBt ?_ ?_ | refine WPA.ifBnf ?_ ?_); assumption) | ((first | refine WPA.ifBnt ?_ ?_ | refine WPA.ifBf ?_ ?_); assumption) | ((first | refine WPA.ifs ?_ ?_ | refine WPA.ifB ?_ ?_) <;> intro hc))
  refine QQ.end_ rfl () rfl fun w h => ?_
  have h2 : SL w0 I (Bk b 51 [.pointer (some ⟨b, 0, none⟩), .slice x.a x.n x.cap] :: OwnS 5 x (bytesK (t ++ u)) :: L') w := by rw [bytesK_append]; exact h.to
  exact PrnR.fold.sl h2
theorem pString_tr {b : Nat} {t : ByteArray} [h : FindK L PrnR b t L'] : Tr Tryz.prog 19 #[.pointer (some ⟨b, 0, none⟩)] (SL w0 I L) (fun _ : Unit => .string t) (fun _ => SL w0 I L') := by
  refine Tr.at h.out (Tr.opn fun q => ?_)
  obtain ⟨⟨q, s⟩, hq⟩ := q
  dsimp only
  refine Tr.intro Tryz.func19 rfl Tryz.ntmps19 rfl ?_
  have hbl : ((bytesK t).length : Int) = t.size := by rw [bytesK_len]
  repeat' (first | ((rw [hbl])) | ((first | refine WLA.m rfl rfl ?_ ?_ | refine WDQ.m rfl rfl ?_ ?_ | refine WLA.st rfl ?_ ?_ | refine WLA.x rfl rfl ?_ (fun x => ?_) | refine WLA.x0 rfl ?_ (fun x => ?_)); first | exact trivial | exact rfl | assumption | omega | (refine ⟨?_, ?_⟩ <;> omega) | (simp only [Room, lenS]; omega) | decide | skip) | (refine Stp.go ?_) | (refine WPA.ifT ?_) | (refine WPA.ifF ?_) | ((first | refine WPA.dec ?_); first | refine .inl ⟨by first | assumption | omega | with_reducible rfl | (refine fun h => h ?_; first | assumption | with_reducible rfl) | (simp only [lenS] <;> omega) | decide, ?_⟩ | refine .inr ⟨by first | assumption | omega | with_reducible rfl | (refine fun h => h ?_; first | assumption | with_reducible rfl) | (simp only [lenS] <;> omega) | decide, ?_⟩) | ((first | refine WPA.ifBt ?_ ?_ | refine WPA.ifBnf ?_ ?_); assumption) | ((first | refine WPA.ifBnt ?_ ?_ | refine WPA.ifBf ?_ ?_); assumption) | ((first | refine WPA.ifs ?_ ?_ | refine WPA.ifB ?_ ?_) <;> intro hc) | (guard_target =~ WPA _ _ _ (.region 1 _ true) _ _ _; refine WPA.drawT 10 (.q 0 (.q 1 (.q 2 (.q 3 (.q 5 (.q 6 (.q 7 (.q 8 (.q 9 (.e 4 .fin)))))))))) mixed ?_ ?_; kernel_rfl) | (refine WDA.finish (tl := [⟨_, _, _, _, _, _⟩, ⟨_, _, _, _, _, _⟩]) rfl ?_) | (refine WDQ.see rfl ?_) | (refine WDE.see rfl ?_) | (refine WDE.alloc rfl rfl (fun w h => h) (fun x => ?_)) | (refine WDE.stE rfl ?_) | (refine WDE.x rfl rfl ?_ ?_ (fun x => ?_); rotate_left 1; (intro x w h; first | exact h | exact Ent.drop1.sl h | exact SL.unI h | exact SL.to h); rotate_left 1; first | exact trivial | exact rfl | assumption | omega | (refine ⟨?_, ?_⟩ <;> omega) | (simp only [Room, lenS]; omega) | decide | skip))
  refine WLA.x (h := unsafeStr (P := Tryz.prog) (e := 5) (s := s) (t := t) (by kernel_rfl) (Ent.swap : Ent _ (OwnS 5 s (bytesK t) :: _)) x.2) rfl rfl trivial (fun _ => ?_)
  repeat' (first | ((first | refine WLA.m rfl rfl ?_ ?_ | refine WDQ.m rfl rfl ?_ ?_ | refine WDP.m rfl rfl ?_ ?_ | refine WLA.st rfl ?_ ?_ | refine WLA.x rfl rfl ?_ (fun x => ?_) | refine WLA.x0 rfl ?_ (fun x => ?_) | refine WDW.x rfl rfl ?_ (fun x => ?_) | refine WDW.st rfl ?_ ?_); first | exact trivial | exact rfl | assumption | omega | (refine ⟨?_, ?_⟩ <;> omega) | (simp only [Room, lenS]; omega) | decide | skip) | (refine Stp.go ?_) | (refine WPA.ifT ?_) | (refine WPA.ifF ?_) | ((first | refine WPA.dec ?_); first | refine .inl ⟨by first | assumption | omega | with_reducible rfl | (refine fun h => h ?_; first | assumption | with_reducible rfl) | (simp only [lenS] <;> omega) | decide, ?_⟩ | refine .inr ⟨by first | assumption | omega | with_reducible rfl | (refine fun h => h ?_; first | assumption | with_reducible rfl) | (simp only [lenS] <;> omega) | decide, ?_⟩) | ((first | refine WPA.ifBt ?_ ?_ | refine WPA.ifBnf ?_ ?_); assumption) | ((first | refine WPA.ifBnt ?_ ?_ | refine WPA.ifBf ?_ ?_); assumption) | ((first | refine WPA.ifs ?_ ?_ | refine WPA.ifB ?_ ?_) <;> intro hc) | (guard_target =~ WPA _ _ _ (.region 1 _ true) _ _ _; refine WPA.drawT 10 (.p 0 (.p 1 (.p 2 (.q 3 (.p 5 (.p 6 (.p 7 (.p 8 (.p 9 (.w 4 .fin)))))))))) mixed ?_ ?_; kernel_rfl) | (refine WDA.finish (tl := [⟨_, _, _, _, _, _⟩, ⟨_, _, _, _, _, _⟩]) rfl ?_) | (refine WDQ.see rfl ?_) | (refine WDP.see rfl ?_) | (refine WDW.see rfl ?_))
  exact QQ.end_ rfl () rfl fun w h => h.to
def sumB (l : List ByteArray) : Nat := (l.map ByteArray.size).sum
theorem line_tr {b : Nat} {t : ByteArray} {s : SV} {xs : List ByteArray} [h : FindK L PrnR b t L'] [hs : SlI I s ByteArray inferInstance xs] (hz : t.size + sumB xs + 1 ≤ 1000000000) (hn : xs.length ≤ 1000000) :
    Tr Tryz.prog 16 #[.pointer (some ⟨b, 0, none⟩), .slice s.a s.n s.cap] (SL w0 I L) (fun _ : Unit => .tuple #[]) (fun _ => SL w0 I (PrnR b (xs.foldl (· ++ ·) t ++ ⟨#[10]⟩) :: L')) := by
  refine Tr.at h.out ?_
  refine Tr.intro Tryz.func16 rfl Tryz.ntmps16 rfl ?_
  repeat' (first | ((first | refine WLA.m rfl rfl ?_ ?_ | refine WLA.st rfl ?_ ?_ | refine WLA.x rfl rfl ?_ (fun x => ?_) | refine WLA.x0 rfl ?_ (fun x => ?_)); first | exact trivial | exact rfl | assumption | omega | (refine ⟨?_, ?_⟩ <;> omega) | (simp only [Room, lenS]; omega) | decide | skip) | (refine Stp.go ?_) | (refine WPA.ifT ?_) | (refine WPA.ifF ?_) | ((first | refine WPA.dec ?_); first | refine .inl ⟨by first | assumption | omega | with_reducible rfl | (refine fun h => h ?_; first | assumption | with_reducible rfl) | (simp only [lenS] <;> omega) | decide, ?_⟩ | refine .inr ⟨by first | assumption | omega | with_reducible rfl | (refine fun h => h ?_; first | assumption | with_reducible rfl) | (simp only [lenS] <;> omega) | decide, ?_⟩) | ((first | refine WPA.ifBt ?_ ?_ | refine WPA.ifBnf ?_ ?_); assumption) | ((first | refine WPA.ifBnt ?_ ?_ | refine WPA.ifBf ?_ ?_); assumption) | ((first | refine WPA.ifs ?_ ?_ | refine WPA.ifB ?_ ?_) <;> intro hc))
  refine WPA.loopS (σ := Nat × ByteArray) (fun y => [(0, .pointer (some ⟨b, 0, none⟩)), (6, .slice s.a s.n s.cap), (7, .int .i64 xs.length), (8, .int .i64 y.1)])
    (fun y => (y.1 ≤ xs.length ∧ y.2.size + sumB (xs.drop y.1) + 1 ≤ 1000000000) ∧ (xs.drop y.1).foldl (· ++ ·) y.2 = xs.foldl (· ++ ·) t) (fun y => SL w0 I (PrnR b y.2 :: L')) (fun y => xs.length - y.1) (0, t) ⟨rfl, rfl, rfl, rfl, trivial⟩ ⟨⟨Nat.zero_le _, hz⟩, rfl⟩ (fun w h => h) ?_
  rintro ⟨i, u⟩ ρ ⟨⟨hi, hu⟩, hf⟩
  dsimp only at hi hu hf ⊢
  by_cases hlt : i < xs.length
  · have hlt' : (i : Int) < xs.length := by omega
    have hir : (0 : Int) ≤ i ∧ (i : Int) < xs.length := by omega
    rw [List.drop_eq_getElem_cons hlt, List.foldl_cons] at hf
    have hsum : sumB (xs.drop i) = xs[i].size + sumB (xs.drop (i + 1)) := by rw [List.drop_eq_getElem_cons hlt]; unfold sumB; rw [List.map_cons, List.sum_cons]
    obtain ⟨v, hv⟩ : ∃ v, at_ xs (i : Int) = v := ⟨_, rfl⟩
    have hv2 : xs[i] = v := by rw [← hv, at_nat xs i hlt]
    rw [hv2] at hf hsum
    have hw := fun {L L' : List HP} [FindK L PrnR b u L'] => pWrite_tr (w0 := w0) (I := I) (L := L) (L' := L') (b := b) (t := u) (u := v) (by omega)
    repeat' (first | ((rw [hv])) | ((first | refine WLA.m rfl rfl ?_ ?_ | refine WLA.st rfl ?_ ?_ | refine WLA.x rfl rfl ?_ (fun x => ?_) | refine WLA.x0 rfl ?_ (fun x => ?_)); first | exact trivial | exact rfl | assumption | omega | (refine ⟨?_, ?_⟩ <;> omega) | (simp only [Room, lenS]; omega) | decide | skip) | (refine Stp.go ?_) | (guard_target =~ WLA _ _ _ _ _ (⟨_, .call ⟨.value (.func 43), _, _⟩, _, _, _, _⟩ :: _) _ _; refine WLA.call rfl rfl (hw) ?_; rintro ⟨⟩) | (refine WPA.ifT ?_) | (refine WPA.ifF ?_) | ((first | refine WPA.dec ?_); first | refine .inl ⟨by first | assumption | omega | with_reducible rfl | (refine fun h => h ?_; first | assumption | with_reducible rfl) | (simp only [lenS] <;> omega) | decide, ?_⟩ | refine .inr ⟨by first | assumption | omega | with_reducible rfl | (refine fun h => h ?_; first | assumption | with_reducible rfl) | (simp only [lenS] <;> omega) | decide, ?_⟩) | ((first | refine WPA.ifBt ?_ ?_ | refine WPA.ifBnf ?_ ?_); assumption) | ((first | refine WPA.ifBnt ?_ ?_ | refine WPA.ifBf ?_ ?_); assumption) | ((first | refine WPA.ifs ?_ ?_ | refine WPA.ifB ?_ ?_) <;> intro hc))
    exact QQ.loopS (i + 1, u ++ v) ⟨rfl, rfl, rfl, rfl, trivial⟩ ⟨⟨hlt, by dsimp only; rw [ByteArray.size_append]; omega⟩, hf⟩ (by dsimp only; omega) (fun w h => h.to)
  · have hlt' : ¬ (i : Int) < xs.length := by omega
    rw [List.drop_of_length_le (by omega), List.foldl_nil] at hf
    subst hf
    have hw := fun {L L' : List HP} [FindK L PrnR b (xs.foldl (· ++ ·) t) L'] => pWrite_tr (w0 := w0) (I := I) (L := L) (L' := L') (b := b) (t := xs.foldl (· ++ ·) t) (u := ⟨#[10]⟩) (by have : (⟨#[10]⟩ : ByteArray).size = 1 := rfl; omega)
    repeat' (first | ((first | refine WLA.m rfl rfl ?_ ?_ | refine WLA.st rfl ?_ ?_ | refine WLA.x rfl rfl ?_ (fun x => ?_) | refine WLA.x0 rfl ?_ (fun x => ?_)); first | exact trivial | exact rfl | assumption | omega | (refine ⟨?_, ?_⟩ <;> omega) | (simp only [Room, lenS]; omega) | decide | skip) | (refine Stp.go ?_) | (guard_target =~ WLA _ _ _ _ _ (⟨_, .call ⟨.value (.func 43), _, _⟩, _, _, _, _⟩ :: _) _ _; refine WLA.call rfl rfl (hw) ?_; rintro ⟨⟩) | (refine WPA.ifT ?_) | (refine WPA.ifF ?_) | ((first | refine WPA.dec ?_); first | refine .inl ⟨by first | assumption | omega | with_reducible rfl | (refine fun h => h ?_; first | assumption | with_reducible rfl) | (simp only [lenS] <;> omega) | decide, ?_⟩ | refine .inr ⟨by first | assumption | omega | with_reducible rfl | (refine fun h => h ?_; first | assumption | with_reducible rfl) | (simp only [lenS] <;> omega) | decide, ?_⟩) | ((first | refine WPA.ifBt ?_ ?_ | refine WPA.ifBnf ?_ ?_); assumption) | ((first | refine WPA.ifBnt ?_ ?_ | refine WPA.ifBf ?_ ?_); assumption) | ((first | refine WPA.ifs ?_ ?_ | refine WPA.ifB ?_ ?_) <;> intro hc))
    exact QQ.endn rfl () rfl fun w h => h.to
end
end Go.Proofs.YthkhneimfjaohaaGreatDoor
namespace Go.Proofs
open Go.Shelf
def Tryz.itoa_ren : Go.Shelf.Ren := ⟨fun | 171 => 17 | 243 => 44 | 246 => 69 | 283 => 87 | 284 => 88 | 285 => 89 | 286 => 90 | 129 => 101 | 317 => 100 | 318 => 102 | 319 => 103 | 320 => 104 | 337 => 112 | 338 => 113 | n => n, fun | 3 => 3 | 9 => 9 | 2 => 2 | 4 => 4 | 171 => 144 | 0 => 0 | 53 => 110 | 37 => 47 | 5 => 5 | 173 => 147 | 212 => 155 | 51 => 156 | 20 => 20 | 213 => 157 | 46 => 141 | 232 => 166 | 233 => 167 | n => n, fun | 17 => 0 | 18 => 2 | 19 => 3 | n => n⟩
theorem Tryz.itoa : Go.Proofs.LaysM.n171 Tryz.prog Tryz.itoa_ren := {
  mixed := by kernel_rfl
  f129 := Tryz.func101.trans (congrArg some (by kernel_rfl))
  f171 := Tryz.func17.trans (congrArg some (by kernel_rfl))
  f243 := Tryz.func44.trans (congrArg some (by kernel_rfl))
  f246 := Tryz.func69.trans (congrArg some (by kernel_rfl))
  f283 := Tryz.func87.trans (congrArg some (by kernel_rfl))
  f284 := Tryz.func88.trans (congrArg some (by kernel_rfl))
  f285 := Tryz.func89.trans (congrArg some (by kernel_rfl))
  f286 := Tryz.func90.trans (congrArg some (by kernel_rfl))
  f317 := Tryz.func100.trans (congrArg some (by kernel_rfl))
  f318 := Tryz.func102.trans (congrArg some (by kernel_rfl))
  f319 := Tryz.func103.trans (congrArg some (by kernel_rfl))
  f320 := Tryz.func104.trans (congrArg some (by kernel_rfl))
  f337 := Tryz.func112.trans (congrArg some (by kernel_rfl))
  f338 := Tryz.func113.trans (congrArg some (by kernel_rfl))
  t0 := Tryz.underlying0
  a0 := Tryz.isAgg0
  z0 := Tryz.sizeOf0
  v0 := Tryz.zeroValue0
  t2 := Tryz.underlying2
  a2 := Tryz.isAgg2
  z2 := Tryz.sizeOf2
  v2 := Tryz.zeroValue2
  t3 := Tryz.underlying3
  a3 := Tryz.isAgg3
  z3 := Tryz.sizeOf3
  v3 := Tryz.zeroValue3
  t4 := Tryz.underlying4
  a4 := Tryz.isAgg4
  z4 := Tryz.sizeOf4
  v4 := Tryz.zeroValue4
  t5 := Tryz.underlying5
  a5 := Tryz.isAgg5
  z5 := Tryz.sizeOf5
  v5 := Tryz.zeroValue5
  t9 := Tryz.underlying9
  a9 := Tryz.isAgg9
  z9 := Tryz.sizeOf9
  v9 := Tryz.zeroValue9
  t20 := Tryz.underlying20
  a20 := Tryz.isAgg20
  z20 := Tryz.sizeOf20
  v20 := Tryz.zeroValue20
  t37 := Tryz.underlying47
  a37 := Tryz.isAgg47
  z37 := Tryz.sizeOf47
  v37 := Tryz.zeroValue47
  t46 := Tryz.underlying141
  a46 := Tryz.isAgg141
  z46 := Tryz.sizeOf141
  v46 := Tryz.zeroValue141
  t51 := Tryz.underlying156
  a51 := Tryz.isAgg156
  z51 := Tryz.sizeOf156
  v51 := Tryz.zeroValue156
  t53 := Tryz.underlying110
  a53 := Tryz.isAgg110
  z53 := Tryz.sizeOf110
  v53 := Tryz.zeroValue110
  t171 := Tryz.underlying144
  a171 := Tryz.isAgg144
  z171 := Tryz.sizeOf144
  v171 := Tryz.zeroValue144
  t173 := Tryz.underlying147
  a173 := Tryz.isAgg147
  z173 := Tryz.sizeOf147
  v173 := Tryz.zeroValue147
  t212 := Tryz.underlying155
  a212 := Tryz.isAgg155
  z212 := Tryz.sizeOf155
  v212 := Tryz.zeroValue155
  t213 := Tryz.underlying157
  a213 := Tryz.isAgg157
  z213 := Tryz.sizeOf157
  t232 := Tryz.underlying166
  a232 := Tryz.isAgg166
  z232 := Tryz.sizeOf166
  v232 := Tryz.zeroValue166
  t233 := Tryz.underlying167
  a233 := Tryz.isAgg167
  z233 := Tryz.sizeOf167
  v233 := Tryz.zeroValue167
  g17 := by kernel_rfl
  g18 := by kernel_rfl
  g19 := by kernel_rfl
  i0 := by kernel_rfl
  i2 := by kernel_rfl
  i3 := by kernel_rfl
  i4 := by kernel_rfl
  i5 := by kernel_rfl
  i9 := by kernel_rfl
  i20 := by kernel_rfl
  i37 := by kernel_rfl
  i46 := by kernel_rfl
  i51 := by kernel_rfl
  i53 := by kernel_rfl
  i171 := by kernel_rfl
  i173 := by kernel_rfl
  i212 := by kernel_rfl
  i232 := by kernel_rfl
  i233 := by kernel_rfl
  m17 := by kernel_rfl
  m18 := by kernel_rfl
  m19 := by kernel_rfl }
def Tryz.join_ren : Go.Shelf.Ren := ⟨fun | 156 => 45 | 165 => 70 | 166 => 43 | 169 => 19 | 240 => 68 | 241 => 91 | 276 => 86 | 277 => 105 | n => n, fun | 31 => 22 | 9 => 9 | 3 => 3 | 4 => 4 | 0 => 0 | 20 => 20 | 72 => 49 | 76 => 95 | 70 => 46 | 37 => 47 | 75 => 94 | 127 => 98 | 164 => 142 | 5 => 5 | 80 => 43 | n => n, fun | n => n⟩
theorem Tryz.join : Go.Proofs.Lays.n156 Tryz.prog Tryz.join_ren := {
  mixed := by kernel_rfl
  f156 := Tryz.func45.trans (congrArg some (by kernel_rfl))
  f165 := Tryz.func70.trans (congrArg some (by kernel_rfl))
  f166 := Tryz.func43.trans (congrArg some (by kernel_rfl))
  f169 := Tryz.func19.trans (congrArg some (by kernel_rfl))
  f240 := Tryz.func68.trans (congrArg some (by kernel_rfl))
  f241 := Tryz.func91.trans (congrArg some (by kernel_rfl))
  f276 := Tryz.func86.trans (congrArg some (by kernel_rfl))
  f277 := Tryz.func105.trans (congrArg some (by kernel_rfl))
  t0 := Tryz.underlying0
  a0 := Tryz.isAgg0
  z0 := Tryz.sizeOf0
  v0 := Tryz.zeroValue0
  t3 := Tryz.underlying3
  a3 := Tryz.isAgg3
  z3 := Tryz.sizeOf3
  v3 := Tryz.zeroValue3
  t4 := Tryz.underlying4
  a4 := Tryz.isAgg4
  z4 := Tryz.sizeOf4
  v4 := Tryz.zeroValue4
  t9 := Tryz.underlying9
  a9 := Tryz.isAgg9
  z9 := Tryz.sizeOf9
  v9 := Tryz.zeroValue9
  t20 := Tryz.underlying20
  a20 := Tryz.isAgg20
  z20 := Tryz.sizeOf20
  v20 := Tryz.zeroValue20
  t31 := Tryz.underlying22
  a31 := Tryz.isAgg22
  z31 := Tryz.sizeOf22
  v31 := Tryz.zeroValue22
  t37 := Tryz.underlying47
  a37 := Tryz.isAgg47
  z37 := Tryz.sizeOf47
  v37 := Tryz.zeroValue47
  t70 := Tryz.underlying46
  a70 := Tryz.isAgg46
  z70 := Tryz.sizeOf46
  v70 := Tryz.zeroValue46
  t72 := Tryz.underlying49
  a72 := Tryz.isAgg49
  z72 := Tryz.sizeOf49
  v72 := Tryz.zeroValue49
  t75 := Tryz.underlying94
  a75 := Tryz.isAgg94
  z75 := Tryz.sizeOf94
  v75 := Tryz.zeroValue94
  t76 := Tryz.underlying95
  a76 := Tryz.isAgg95
  z76 := Tryz.sizeOf95
  v76 := Tryz.zeroValue95
  t127 := Tryz.underlying98
  a127 := Tryz.isAgg98
  z127 := Tryz.sizeOf98
  v127 := Tryz.zeroValue98
  t164 := Tryz.underlying142
  a164 := Tryz.isAgg142
  z164 := Tryz.sizeOf142
  v164 := Tryz.zeroValue142 }
end Go.Proofs
namespace Go.Proofs.YthkhneimfjaohaaGreatDoor
open Go Go.Fw Go.RowKit
set_option linter.unusedVariables false
set_option linter.unusedSimpArgs false
set_option maxRecDepth 100000
set_option maxHeartbeats 16000000
set_option synthInstance.maxHeartbeats 200000
set_option synthInstance.maxSize 100000
attribute [local irreducible] WPA WLA WDA WDQ WDE QQ seqQ blockQ loopQ fnQ OpP OpT Tr TrP SL SLd OwnS LitS Bk BkE Ob
open Go.Lib Go.Sort
theorem sl_grew {w0 : World} {I : Foot} {L : List HP} {w : World} {k : Nat} {os : Array Obj} (h : SL w0 I L w) : SL w0 I L (grow (w.drewN k) os) := by
  unfold SL at h ⊢
  obtain ⟨H, Rs, h1, h2, h⟩ := h
  have hk : ∀ b u, w.heap[b]? = some u → (grow (w.drewN k) os).heap[b]? = some u := fun b u e => by
    have hb := (Array.getElem?_eq_some_iff.1 e).1
    show (w.heap ++ os)[b]? = some u
    rw [Array.getElem?_append_left hb]; exact e
  have hsz : w.heap.size ≤ (grow (w.drewN k) os).heap.size := by show w.heap.size ≤ (w.heap ++ os).size; rw [Array.size_append]; omega
  refine ⟨H, Rs, h1, h2, ⟨⟨h.below.os, h.below.tape, h.below.output, Nat.le_trans h.below.size hsz, fun j hj => ?_⟩, fun b u e => hk b u (h.imm b u e), fun p hp => ?_, h.nodup, ?_⟩⟩
  · have hb := h.below.block j hj
    rw [← hb]
    have hb2 : j < w.heap.size := Nat.lt_of_lt_of_le hj h.below.size
    show (w.heap ++ os)[j]? = _
    rw [Array.getElem?_append_left hb2]
  · obtain ⟨g1, g2, g3⟩ := h.own p hp; exact ⟨hk _ _ g1, g2, g3⟩
  · have := h.drw
    show w0.drawn ≤ w.drawn + k
    omega
theorem sl_below {w0 : World} {I : Foot} {L : List HP} {w : World} (h : SL w0 I L w) : Below w0.heap.size w0 w := by
  unfold SL at h
  obtain ⟨H, Rs, h1, h2, h⟩ := h
  exact h.below
def TabP (w : World) : Prop := Lib.TabIs Tryz.prog w "internal/strconv.uint64pow10" .u64 Lib.pow10Tab
theorem digits_dec : ∀ v : Nat, (⟨(Lib.decDigits v).toArray⟩ : ByteArray) = decL v := by
  intro v
  induction v using Nat.strongRecOn with
  | ind v ih =>
    rw [Lib.decDigits, decL]
    by_cases h : v < 10
    · rw [dif_pos h, dif_pos h]
    · rw [dif_neg h, dif_neg h, ← ih (v / 10) (by omega)]
      apply ByteArray.ext
      rw [ByteArray.data_append]
      simp
theorem itoa_intS (n : Int) : (⟨(Lib.itoa n).toArray⟩ : ByteArray) = intS n := by
  unfold Lib.itoa intS
  split
  · rename_i h
    rw [← digits_dec]
    have e : n.natAbs = (-n).toNat := by omega
    rw [e]
    apply ByteArray.ext
    rw [ByteArray.data_append]
    simp [mnB]
  · rw [← digits_dec]
section
variable {L L' : List HP} {w0 : World} {I : Foot}
theorem Itoa_tr {n : Int} (hT : TabP w0) (hn : -9223372036854775808 ≤ n ∧ n ≤ 9223372036854775807) : Tr Tryz.prog 17 #[.int .i64 n] (SL w0 I L) (fun _ : Unit => .string (intS n)) (fun _ => SL w0 I L) := by
  unfold Tr
  intro w hw
  have hT2 : TabP w := Go.Joins.tab_stays Tryz.itoa.m17 hT (sl_below hw) (Nat.le_refl _)
  refine (Go.Proofs.Any.strconv_Itoa Tryz.itoa n hn.1 hn.2 w hT2).mono ?_
  rintro e w' ⟨rfl, k, os, rfl⟩
  rw [itoa_intS]
  exact ⟨(), rfl, sl_grew hw⟩
theorem Tr.lend {f : FuncId} {args : Array Value} {τ : Type} {val : τ → Value} {e : TypeId} {s : SV} {α : Type} [en : Enc α] {xs : List α} (h : ∀ (J : Foot), SlI J s α en xs → Tr Tryz.prog f args (SL w0 J L) val (fun _ => SL w0 J L')) : Tr Tryz.prog f args (SL w0 I (OwnS e s xs :: L)) val (fun _ => SL w0 I L') := by
  unfold Tr at h ⊢
  intro w hw
  obtain ⟨R, hR, h2⟩ := hw.freeze
  have q : SlI (R ++ I) s α en xs := by have := SlI.ofOwn hR; infer_instance
  refine (h _ q w h2).mono ?_
  rintro ed w' ⟨x, h3, h4⟩
  exact ⟨x, h3, SL.unI h4⟩
theorem lineO_tr {b : Nat} {t : ByteArray} {s : SV} {e : TypeId} {xs : List ByteArray} {L1 L2 : List HP} [h : FindK L PrnR b t L1] [ho : FindOwn L1 s e ByteArray inferInstance xs L2] (hz : t.size + sumB xs + 1 ≤ 1000000000) (hn : xs.length ≤ 1000000) :
    Tr Tryz.prog 16 #[.pointer (some ⟨b, 0, none⟩), .slice s.a s.n s.cap] (SL w0 I L) (fun _ : Unit => .tuple #[]) (fun _ => SL w0 I (PrnR b (xs.foldl (· ++ ·) t ++ ⟨#[10]⟩) :: L2)) := by
  have hE : Ent L (OwnS e s xs :: PrnR b t :: L2) := h.out.trans ((Ent.cons ho.out).trans Ent.swap)
  refine Tr.at hE (Tr.lend fun J hJ => ?_)
  exact line_tr hz hn
theorem line0_tr {b : Nat} {t : ByteArray} [h : FindK L PrnR b t L'] (hz : t.size + 1 ≤ 1000000000) :
    Tr Tryz.prog 16 #[.pointer (some ⟨b, 0, none⟩), .slice none 0 0] (SL w0 I L) (fun _ : Unit => .tuple #[]) (fun _ => SL w0 I (PrnR b (t ++ ⟨#[10]⟩) :: L')) := by
  have q : SlI I SV.nil ByteArray inferInstance [] := SlI.nil
  exact line_tr (s := SV.nil) (xs := []) (by unfold sumB; simpa using hz) (Nat.zero_le _)
end
end Go.Proofs.YthkhneimfjaohaaGreatDoor
namespace Go.Fw
open Go Go.RowKit
set_option linter.unusedVariables false
theorem SL.grown {w0 : World} {I : Foot} {L : List HP} {w w' : World} (h0 : w0.drawn = 0) (h : SL w0 I L w) (hb : Below w.heap.size w w') : SL w0 I L w' := by
  obtain ⟨H, Rs, h1, h2, h⟩ := h
  have hk : ∀ b u, w.heap[b]? = some u → w'.heap[b]? = some u := fun b u e => by
    rw [hb.block b (Array.getElem?_eq_some_iff.1 e).1]; exact e
  refine ⟨H, Rs, h1, h2, ⟨⟨hb.os.trans h.below.os, hb.tape.trans h.below.tape, hb.output.trans h.below.output, Nat.le_trans h.below.size hb.size, fun k hk' => ?_⟩, fun b u e => hk b u (h.imm b u e), fun p hp => ?_, h.nodup, by omega⟩⟩
  · rw [hb.block k (Nat.lt_of_lt_of_le hk' h.below.size)]; exact h.below.block k hk'
  · obtain ⟨g1, g2, g3⟩ := h.own p hp; exact ⟨hk _ _ g1, g2, g3⟩
def joinB (xs : List ByteArray) (sep : ByteArray) : ByteArray := ⟨(Go.Lib.join (xs.map (·.data.toList)) sep.data.toList).toArray⟩
theorem Join_trL {P : Program} {ρ : Go.Shelf.Ren} {w0 : World} {I : Foot} {L : List HP} (Ly : Go.Proofs.Lays.n156 P ρ) (X : Go.Proofs.Builder.Extra P ρ) (h0 : w0.drawn = 0) {s : SV} {xs : List ByteArray} {sep : ByteArray} [hr : RdS I L s ByteArray inferInstance xs] (hlen : (joinB xs sep).size ≤ 140737488355328) (hn : xs.length ≤ 1000000000) :
    Tr P (ρ.f 156) #[.slice s.a s.n s.cap, .string sep] (SL w0 I L) (fun _ : Unit => .string (joinB xs sep)) (fun _ => SL w0 I L) := by
  intro w hw
  have h := hr.out w0 w hw
  have hl := h.len
  by_cases hx : xs = []
  · subst hx
    have hsn : s.n = 0 := by have := h.len; simpa using this
    rw [hsn]
    refine (Go.Proofs.Any.strings_Join_none Ly X s.a s.cap sep w).mono ?_
    rintro e w' ⟨rfl, rfl⟩
    exact ⟨(), rfl, hw⟩
  · have hpos : 0 < xs.length := List.length_pos_iff.2 hx
    rcases h.plain with h1 | ⟨b, o, ha⟩
    · omega
    · have hc : ∀ (j : Nat) x, xs[j]? = some x → w.cell? ⟨b, o + j, none⟩ = some (.string x) := fun j x hj => by
        have hjl := (List.getElem?_eq_some_iff.1 hj).1
        have hc := h.cells j 0 (.string x) hjl (by rw [List.getD_eq_getElem?_getD, hj]; rfl)
        simp only [eAddr, ha, Option.getD_some] at hc
        have e1 : Enc.sz ByteArray = 1 := rfl
        rw [e1] at hc
        simpa using hc
      have hb : b < w.heap.size := by
        have := hc 0 _ (List.getElem?_eq_getElem hpos)
        unfold World.cell? at this
        cases hh : w.heap[b]? with
        | none => simp [hh] at this
        | some u => exact (Array.getElem?_eq_some_iff.1 hh).1
      have key := Go.Proofs.Any.strings_Join Ly X b o s.cap xs sep w hc hb (by omega) (by have := h.cap; omega) (by
        unfold joinB at hlen
        rw [ByteArray.size, List.size_toArray] at hlen; exact hlen)
      rw [ha, hl]
      refine key.mono ?_
      rintro e w' ⟨rfl, hb'⟩
      exact ⟨(), rfl, hw.grown h0 hb'⟩
theorem Calls.below0 {P : Program} {f : FuncId} {args : Array Value} {w : World} {I : Foot} {L : List HP} (h : Tr P f args (SL { w with drawn := 0 } (allB w) []) (fun _ : Unit => .bool true) (fun _ => SL { w with drawn := 0 } I L)) : Calls P f args w fun e w' => e = .returned (.bool true) ∧ Below w.heap.size w w' := by
  have h0 : SL { w with drawn := 0 } (allB w) [] w := ⟨fun b => w.heap[b]?, [], fun b o hb => mem_allB.1 hb, trivial, ⟨⟨rfl, rfl, rfl, Nat.le_refl _, fun _ _ => rfl⟩, fun _ _ h => h, fun _ h => (by cases h), List.nodup_nil, Nat.zero_le _⟩⟩
  refine (h w h0).mono fun e w' ⟨_, he, hs⟩ => ⟨he, ?_⟩
  have hb := hs.below
  exact ⟨hb.os, hb.tape, hb.output, hb.size, hb.block⟩
end Go.Fw
namespace Go.Proofs.YthkhneimfjaohaaGreatDoor
open Go Go.Fw Go.RowKit
set_option linter.unusedVariables false
set_option linter.unusedSimpArgs false
set_option maxRecDepth 100000
set_option maxHeartbeats 16000000
set_option synthInstance.maxHeartbeats 200000
set_option synthInstance.maxSize 100000
attribute [local irreducible] WPA WLA WDA WDQ WDE QQ seqQ blockQ loopQ fnQ OpP OpT Tr TrP SL SLd OwnS LitS Bk BkE Ob
attribute [local irreducible] TblH VocH TabP PrnR
theorem extraP : Go.Proofs.Builder.Extra Tryz.prog Tryz.join_ren where
  sizeBuilder := by kernel_rfl
  liesBuilder := by kernel_rfl
  t5 := by kernel_rfl
  a5 := fun w => by kernel_rfl
  z5 := fun w => by kernel_rfl
  v5 := fun w => by kernel_rfl
  infoByte := by kernel_rfl
  cellsByte := by kernel_rfl
  sizeByte := by kernel_rfl
  neB5 := by decide
abbrev nlB : ByteArray := ⟨#[10]⟩
abbrev tabB : ByteArray := ⟨#[9]⟩
abbrev spB : ByteArray := ⟨#[32]⟩
def wordsB (ws : List ByteArray) (G : List Int) : List ByteArray := G.map fun i => at_ ws i
def entB (ws : List ByteArray) (top : Bool) (e : EV) : ByteArray := (((intS e.1.1 ++ tabB) ++ joinB (wordsB ws e.2) spB) ++ (if top then ⟨#[]⟩ else tabB ++ intS e.1.2)) ++ nlB
def entsB (ws : List ByteArray) (top : Bool) : List EV → ByteArray
  | [] => ⟨#[]⟩
  | e :: l => entB ws top e ++ entsB ws top l
def secTB (ws : List ByteArray) (top : Bool) (n : Nat) (es : List EV) : ByteArray := ((secB n ++ nlB) ++ entsB ws top es) ++ nlB
def fillB (l : List ByteArray) (j : Nat) : List ByteArray := l.take j ++ List.replicate (l.length - j) ⟨#[]⟩
theorem fillB_len {l : List ByteArray} {j : Nat} (h : j ≤ l.length) : (fillB l j).length = l.length := by unfold fillB; rw [List.length_append, List.length_take, List.length_replicate]; omega
theorem fillB_all (l : List ByteArray) : fillB l l.length = l := by unfold fillB; rw [Nat.sub_self, List.take_length]; simp
theorem fillB_get {l : List ByteArray} {j m : Nat} (h : j ≤ l.length) : (fillB l j)[m]? = if m < j then l[m]? else if m < l.length then some ⟨#[]⟩ else none := by
  unfold fillB
  rw [List.getElem?_append, List.length_take, Nat.min_eq_left h]
  split
  · rename_i h1; rw [List.getElem?_take_of_lt h1]
  · rw [List.getElem?_replicate]
    split
    · rw [if_pos (by omega)]
    · rw [if_neg (by omega)]
theorem fillB_set {l : List ByteArray} {j : Nat} (h : j < l.length) : (fillB l j).set j l[j] = fillB l (j + 1) := by
  apply List.ext_getElem?
  intro m
  rw [List.getElem?_set, fillB_len (by omega), fillB_get (by omega), fillB_get (by omega)]
  by_cases e : j = m
  · subst e
    rw [if_pos rfl, if_pos h, if_pos (by omega), List.getElem?_eq_getElem h]
  · rw [if_neg e]
    by_cases h1 : m < j
    · rw [if_pos h1, if_pos (show m < j + 1 by omega)]
    · rw [if_neg h1, if_neg (show ¬ m < j + 1 by omega)]
def EntG (nW n : Nat) (e : EV) : Prop := e.2.length = n ∧ (∀ x ∈ e.2, 0 ≤ x ∧ x < nW) ∧ CodeP e.1.1 ∧ CodeP e.1.2
section
variable {kg : SV → List Int} {re : SV → List En} {L L' : List HP} {w0 : World} {I : Foot}
theorem pJoin_tr (h0 : w0.drawn = 0) {s : SV} {xs : List ByteArray} {sep : ByteArray} [hr : RdS I L s ByteArray inferInstance xs] (hlen : (joinB xs sep).size ≤ 140737488355328) (hn : xs.length ≤ 1000000000) :
    Tr Tryz.prog 45 #[.slice s.a s.n s.cap, .string sep] (SL w0 I L) (fun _ : Unit => .string (joinB xs sep)) (fun _ => SL w0 I L) := Join_trL (ρ := Tryz.join_ren) Tryz.join extraP h0 hlen hn
theorem section_tr {b k : Nat} {t : ByteArray} {fr : Int} {w g : SV} {ws : List ByteArray} {gr : List SV} [h : FindK L PrnR b t L'] (hT : TabP w0) (h0 : w0.drawn = 0) (hM : MdI I kg re w g ws gr) (hk : k < gr.length) (hn : gr.length ≤ 8)
    (hE : ∀ p ∈ re (at_ gr (k : Int)), EntG ws.length (k + 1) (p.2, kg p.1)) (hz : (t ++ secTB ws (decide (k + 1 = gr.length)) (k + 1) (enV kg (re (at_ gr (k : Int))))).size ≤ 900000000) :
    Tr Tryz.prog 18 #[.pointer (some ⟨b, 0, none⟩), .agg #[.int .i64 fr, .slice w.a w.n w.cap, .slice g.a g.n g.cap], .int .i64 ((k + 1 : Nat) : Int)] (SL w0 I L) (fun _ : Unit => .tuple #[])
      (fun _ => SL w0 I (PrnR b (t ++ secTB ws (decide (k + 1 = gr.length)) (k + 1) (enV kg (re (at_ gr (k : Int))))) :: L')) := by
  refine Tr.at h.out ?_
  refine Tr.intro Tryz.func18 rfl Tryz.ntmps18 rfl ?_
  have hr1 : SlI I g SV inferInstance gr := hM.grams
  have hr2 : SlI I w ByteArray inferInstance ws := hM.words
  have hm : at_ gr (k : Int) ∈ gr := by rw [at_nat gr k hk]; exact List.getElem_mem _
  have hr3 : SlI I (at_ gr (k : Int)) En inferInstance (re (at_ gr (k : Int))) := hM.rows _ hm
  obtain ⟨v, hv⟩ : ∃ v, at_ gr (k : Int) = v := ⟨_, rfl⟩
  obtain ⟨es, hes⟩ : ∃ es, re v = es := ⟨_, rfl⟩
  have hG := hM.elems _ hm
  have hlen := hM.rln _ hm
  rw [hv, hes] at hr3 hE hz hG hlen ⊢
  obtain ⟨top, htop⟩ : ∃ top, decide (k + 1 = gr.length) = top := ⟨_, rfl⟩
  rw [htop] at hz ⊢
  obtain ⟨T, hTT⟩ : ∃ T, t ++ secTB ws top (k + 1) (enV kg es) = T := ⟨_, rfl⟩
  rw [hTT] at hz ⊢
  have hsz : (intS ((k + 1 : Nat) : Int)).size = 1 := by unfold intS; rw [if_neg (by omega), Int.toNat_natCast, dec_lt (by omega)]; rfl
  have hT1 : T = ((t ++ (secB (k + 1) ++ nlB)) ++ entsB ws top (enV kg es)) ++ nlB := by rw [← hTT]; unfold secTB; simp only [ByteArray.append_assoc]
  have ht1 : (t ++ (secB (k + 1) ++ nlB)).size ≤ 900000000 := by rw [hT1] at hz; simp only [ByteArray.size_append] at hz ⊢; omega
  have hs1 : t.size + sumB [⟨#[92]⟩, intS ((k + 1 : Nat) : Int), ⟨#[45, 103, 114, 97, 109, 115, 58]⟩] + 1 ≤ 1000000000 := by
    have e1 : sumB [⟨#[92]⟩, intS ((k + 1 : Nat) : Int), ⟨#[45, 103, 114, 97, 109, 115, 58]⟩] = 1 + (1 + 7) := by unfold sumB; simp only [List.map_cons, List.map_nil, List.sum_cons, List.sum_nil, hsz]; rfl
    simp only [ByteArray.size_append] at ht1
    omega
  have hf1 : [⟨#[92]⟩, intS ((k + 1 : Nat) : Int), ⟨#[45, 103, 114, 97, 109, 115, 58]⟩].foldl (· ++ ·) t ++ ⟨#[10]⟩ = t ++ (secB (k + 1) ++ nlB) := by
    simp only [List.foldl_cons, List.foldl_nil]; unfold secB; simp only [ByteArray.append_assoc]
  have hit := fun {L : List HP} => Itoa_tr (w0 := w0) (I := I) (L := L) (n := ((k + 1 : Nat) : Int)) hT ⟨by omega, by omega⟩
  have hk1 : 0 ≤ ((k + 1 : Nat) : Int) - 1 ∧ ((k + 1 : Nat) : Int) - 1 < gr.length := by omega
  have hke : ((k + 1 : Nat) : Int) - 1 = (k : Int) := by omega
  repeat' (first | ((rw [hf1])) | ((rw [hke])) | ((rw [hv])) | ((first | refine WLA.m rfl rfl ?_ ?_ | refine WLA.st rfl ?_ ?_ | refine WLA.x rfl rfl ?_ (fun x => ?_) | refine WLA.x0 rfl ?_ (fun x => ?_)); first | exact trivial | exact rfl | assumption | omega | (refine ⟨?_, ?_⟩ <;> omega) | (simp only [Room, lenS]; omega) | decide | skip) | (refine Stp.go ?_) | (guard_target =~ WLA _ _ _ _ _ (⟨_, .call ⟨.value (.func 17), _, _⟩, _, _, _, _⟩ :: _) _ _; refine WLA.call rfl rfl (hit) ?_; rintro ⟨⟩) | (guard_target =~ WLA _ _ _ _ _ (⟨_, .call ⟨.value (.func 16), _, _⟩, _, _, _, _⟩ :: _) _ _; refine WLA.call rfl rfl (lineO_tr hs1 (by simp)) ?_; rintro ⟨⟩) | (refine WPA.ifT ?_) | (refine WPA.ifF ?_) | ((first | refine WPA.dec ?_); first | refine .inl ⟨by first | assumption | omega | with_reducible rfl | (refine fun h => h ?_; first | assumption | with_reducible rfl) | (simp only [lenS] <;> omega) | decide, ?_⟩ | refine .inr ⟨by first | assumption | omega | with_reducible rfl | (refine fun h => h ?_; first | assumption | with_reducible rfl) | (simp only [lenS] <;> omega) | decide, ?_⟩) | ((first | refine WPA.ifBt ?_ ?_ | refine WPA.ifBnf ?_ ?_); assumption) | ((first | refine WPA.ifBnt ?_ ?_ | refine WPA.ifBf ?_ ?_); assumption) | ((first | refine WPA.ifs ?_ ?_ | refine WPA.ifB ?_ ?_) <;> intro hc))
  revert x; intro _; revert x; intro t4
  refine WPA.loopS (σ := Nat × ByteArray) (fun y => [(0, .pointer (some ⟨b, 0, none⟩)), (2, .int .i64 ((k + 1 : Nat) : Int)), (4, .pointer (some ⟨t4, 0, none⟩)), (22, .slice v.a v.n v.cap), (23, .int .i64 es.length), (24, .int .i64 y.1)])
    (fun y => y.1 ≤ es.length ∧ (y.2 ++ entsB ws top ((enV kg es).drop y.1)) ++ nlB = T) (fun y => SL w0 I (PrnR b y.2 :: Bk t4 25 [.int .i64 fr, .slice w.a w.n w.cap, .slice g.a g.n g.cap] :: L')) (fun y => es.length - y.1) (0, t ++ (secB (k + 1) ++ nlB)) ⟨rfl, rfl, rfl, rfl, rfl, rfl, trivial⟩
    ⟨Nat.zero_le _, by dsimp only; rw [List.drop_zero]; exact hT1.symm⟩ (fun w h => h.to) ?_
  rintro ⟨i, u⟩ ρ ⟨hi, hu⟩
  dsimp only at hi hu ⊢
  have hel : (enV kg es).length = es.length := by unfold enV; rw [List.length_map]
  by_cases hlt : i < es.length
  · have hlt' : (i : Int) < es.length := by omega
    have hir : (0 : Int) ≤ i ∧ (i : Int) < es.length := by omega
    have hmem : at_ es (i : Int) ∈ es := by rw [at_nat es i hlt]; exact List.getElem_mem _
    have hGi := hG _ hmem
    have hEi := hE _ hmem
    rw [List.drop_eq_getElem_cons (by omega), ← (show aE (enV kg es) (i : Int) = (enV kg es)[i] by unfold aE; rw [Int.toNat_natCast, List.getD_eq_getElem?_getD, List.getElem?_eq_getElem]; rfl), at_enV (by omega) (by omega), entsB] at hu
    obtain ⟨p, hp⟩ : ∃ p, at_ es (i : Int) = p := ⟨_, rfl⟩
    rw [hp] at hGi hEi hu
    obtain ⟨xg, pr, bk⟩ := p
    obtain ⟨G, hGG⟩ : ∃ G, kg xg = G := ⟨_, rfl⟩
    dsimp only at hGi hEi hu
    rw [hGG] at hGi hEi hu
    obtain ⟨hl, hin, hc1, hc2⟩ := hEi
    dsimp only at hl hin hc1 hc2
    have hk64 : (0 : Int) ≤ ((k + 1 : Nat) : Int) ∧ ((k + 1 : Nat) : Int) ≤ 100 := by omega
    repeat' (first | ((rw [hp])) | ((first | refine WLA.m rfl rfl ?_ ?_ | refine WLA.st rfl ?_ ?_ | refine WLA.x rfl rfl ?_ (fun x => ?_) | refine WLA.x0 rfl ?_ (fun x => ?_)); first | exact trivial | exact rfl | assumption | omega | (refine ⟨?_, ?_⟩ <;> omega) | (simp only [Room, lenS]; omega) | decide | skip) | (refine Stp.go ?_) | (refine WPA.ifT ?_) | (refine WPA.ifF ?_) | ((first | refine WPA.dec ?_); first | refine .inl ⟨by first | assumption | omega | with_reducible rfl | (refine fun h => h ?_; first | assumption | with_reducible rfl) | (simp only [lenS] <;> omega) | decide, ?_⟩ | refine .inr ⟨by first | assumption | omega | with_reducible rfl | (refine fun h => h ?_; first | assumption | with_reducible rfl) | (simp only [lenS] <;> omega) | decide, ?_⟩) | ((first | refine WPA.ifBt ?_ ?_ | refine WPA.ifBnf ?_ ?_); assumption) | ((first | refine WPA.ifBnt ?_ ?_ | refine WPA.ifBf ?_ ?_); assumption) | ((first | refine WPA.ifs ?_ ?_ | refine WPA.ifB ?_ ?_) <;> intro hc))
    revert x; intro q; revert x; intro t7
    dsimp only
    have hwl : (wordsB ws G).length = k + 1 := by unfold wordsB; rw [List.length_map, hl]
    have e0 : List.replicate (((k + 1 : Nat) : Int)).toNat (⟨#[]⟩ : ByteArray) = fillB (wordsB ws G) 0 := by unfold fillB; rw [List.take_zero, Int.toNat_natCast, hwl]; rfl
    rw [e0]
    have hlG : (G.length : Int) = ((k + 1 : Nat) : Int) := by omega
    refine WPA.loopS (σ := Nat) (fun j => [(0, .pointer (some ⟨b, 0, none⟩)), (2, .int .i64 ((k + 1 : Nat) : Int)), (4, .pointer (some ⟨t4, 0, none⟩)), (7, .pointer (some ⟨t7, 0, none⟩)), (8, .slice q.a q.n q.cap), (22, .slice v.a v.n v.cap), (23, .int .i64 es.length), (24, .int .i64 i), (31, .slice xg.a xg.n xg.cap), (32, .int .i64 G.length), (33, .int .i64 j)])
      (fun j => j ≤ G.length) (fun j => SL w0 I (OwnS 9 q (fillB (wordsB ws G) j) :: Bk t7 42 [.slice xg.a xg.n xg.cap, .int .i64 pr, .int .i64 bk] :: PrnR b u :: Bk t4 25 [.int .i64 fr, .slice w.a w.n w.cap, .slice g.a g.n g.cap] :: L')) (fun j => G.length - j) 0 ⟨rfl, rfl, rfl, rfl, rfl, rfl, rfl, rfl, rfl, rfl, rfl, trivial⟩
      (Nat.zero_le _) (fun w h => h.to) ?_
    rintro j ρ hj
    by_cases hltj : j < G.length
    · have hltj' : (j : Int) < G.length := by omega
      have hjr : (0 : Int) ≤ j ∧ (j : Int) < G.length := by omega
      have hmj : at_ G (j : Int) ∈ G := by rw [at_nat G j hltj]; exact List.getElem_mem _
      have hidx := hin _ hmj
      obtain ⟨c, hc⟩ : ∃ c, at_ G (j : Int) = c := ⟨_, rfl⟩
      rw [hc] at hidx
      have hfl : (fillB (wordsB ws G) j).length = k + 1 := by rw [fillB_len (by omega), hwl]
      have hfi : (0 : Int) ≤ j ∧ (j : Int) < (fillB (wordsB ws G) j).length := by omega
      have hjn : ((j : Int)).toNat = j := by omega
      have hst : (fillB (wordsB ws G) j).set j (at_ ws c) = fillB (wordsB ws G) (j + 1) := by
        rw [← fillB_set (by omega)]
        congr 1
        unfold wordsB
        rw [List.getElem_map, ← at_nat G j hltj, hc]
      repeat' (first | ((rw [hc])) | ((first | refine WLA.m rfl rfl ?_ ?_ | refine WLA.st rfl ?_ ?_ | refine WLA.x rfl rfl ?_ (fun x => ?_) | refine WLA.x0 rfl ?_ (fun x => ?_)); first | exact trivial | exact rfl | assumption | omega | (refine ⟨?_, ?_⟩ <;> omega) | (simp only [Room, lenS]; omega) | decide | skip) | (refine Stp.go ?_) | (refine WPA.ifT ?_) | (refine WPA.ifF ?_) | ((first | refine WPA.dec ?_); first | refine .inl ⟨by first | assumption | omega | with_reducible rfl | (refine fun h => h ?_; first | assumption | with_reducible rfl) | (simp only [lenS] <;> omega) | decide, ?_⟩ | refine .inr ⟨by first | assumption | omega | with_reducible rfl | (refine fun h => h ?_; first | assumption | with_reducible rfl) | (simp only [lenS] <;> omega) | decide, ?_⟩) | ((first | refine WPA.ifBt ?_ ?_ | refine WPA.ifBnf ?_ ?_); assumption) | ((first | refine WPA.ifBnt ?_ ?_ | refine WPA.ifBf ?_ ?_); assumption) | ((first | refine WPA.ifs ?_ ?_ | refine WPA.ifB ?_ ?_) <;> intro hc))
      rw [hjn, hst]
      exact QQ.loopS (j + 1) ⟨rfl, rfl, rfl, rfl, rfl, rfl, rfl, rfl, rfl, rfl, rfl, trivial⟩ hltj (by omega) (fun w h => h.to)
    · have hltj' : ¬ (j : Int) < G.length := by omega
      obtain rfl : j = G.length := by omega
      have hall : fillB (wordsB ws G) G.length = wordsB ws G := by have := fillB_all (wordsB ws G); rwa [hwl, ← hl] at this
      rw [hall]
      have hend : ∀ bb : ByteArray, bb = (if top then ⟨#[]⟩ else tabB ++ intS bk) → ([intS pr, ⟨#[9]⟩, joinB (wordsB ws G) ⟨#[32]⟩, bb].foldl (· ++ ·) u ++ ⟨#[10]⟩ = u ++ entB ws top ((pr, bk), G)) ∧ u.size + sumB [intS pr, ⟨#[9]⟩, joinB (wordsB ws G) ⟨#[32]⟩, bb] + 1 ≤ 1000000000 ∧ (joinB (wordsB ws G) ⟨#[32]⟩).size ≤ 140737488355328 ∧ bb.size ≤ 900000000 := fun bb hb => by
        have h1 : [intS pr, ⟨#[9]⟩, joinB (wordsB ws G) ⟨#[32]⟩, bb].foldl (· ++ ·) u ++ ⟨#[10]⟩ = u ++ entB ws top ((pr, bk), G) := by
          simp only [List.foldl_cons, List.foldl_nil]
          unfold entB
          rw [hb]
          simp only [ByteArray.append_assoc]
        have h2 := congrArg ByteArray.size hu
        have h3 := congrArg ByteArray.size h1
        simp only [ByteArray.size_append, List.foldl_cons, List.foldl_nil] at h2 h3
        refine ⟨h1, ?_, by omega, by omega⟩
        have e1 : sumB [intS pr, ⟨#[9]⟩, joinB (wordsB ws G) ⟨#[32]⟩, bb] = (intS pr).size + ((⟨#[9]⟩ : ByteArray).size + ((joinB (wordsB ws G) ⟨#[32]⟩).size + bb.size)) := by unfold sumB; simp only [List.map_cons, List.map_nil, List.sum_cons, List.sum_nil, Nat.add_zero]
        rw [e1]
        have e2 : (⟨#[10]⟩ : ByteArray).size = 1 := rfl
        omega
      have hu2 : ((u ++ entB ws top ((pr, bk), G)) ++ entsB ws top (List.drop (i + 1) (enV kg es))) ++ nlB = T := by rw [← hu]; simp only [ByteArray.append_assoc]
      have hitb := fun {L : List HP} => Itoa_tr (w0 := w0) (I := I) (L := L) (n := bk) hT ⟨by omega, by omega⟩
      have hitp := fun {L : List HP} => Itoa_tr (w0 := w0) (I := I) (L := L) (n := pr) hT ⟨by omega, by omega⟩
      have hwn : (wordsB ws G).length ≤ 1000000000 := by omega
      cases top
      · have htl : ((k + 1 : Nat) : Int) < gr.length := by have := of_decide_eq_false htop; omega
        obtain ⟨hf2, hs2, hj2, hb2⟩ := hend (tabB ++ intS bk) rfl
        rw [ByteArray.size_append] at hb2
        have hb3 : (⟨#[9]⟩ : ByteArray).size + (intS bk).size ≤ 9223372036854775807 := by have e3 : (⟨#[9]⟩ : ByteArray).size = tabB.size := rfl; omega
        repeat' (first | ((first | refine WLA.m rfl rfl ?_ ?_ | refine WLA.st rfl ?_ ?_ | refine WLA.x rfl rfl ?_ (fun x => ?_) | refine WLA.x0 rfl ?_ (fun x => ?_)); first | exact trivial | exact rfl | assumption | omega | (refine ⟨?_, ?_⟩ <;> omega) | (simp only [Room, lenS]; omega) | decide | skip) | (refine Stp.go ?_) | (guard_target =~ WLA _ _ _ _ _ (⟨_, .call ⟨.value (.func 17), _, _⟩, _, _, _, _⟩ :: _) _ _; refine WLA.call rfl rfl (hitb) ?_; rintro ⟨⟩) | (refine WPA.ifT ?_) | (refine WPA.ifF ?_) | ((first | refine WPA.dec ?_); first | refine .inl ⟨by first | assumption | omega | with_reducible rfl | (refine fun h => h ?_; first | assumption | with_reducible rfl) | (simp only [lenS] <;> omega) | decide, ?_⟩ | refine .inr ⟨by first | assumption | omega | with_reducible rfl | (refine fun h => h ?_; first | assumption | with_reducible rfl) | (simp only [lenS] <;> omega) | decide, ?_⟩) | ((first | refine WPA.ifBt ?_ ?_ | refine WPA.ifBnf ?_ ?_); assumption) | ((first | refine WPA.ifBnt ?_ ?_ | refine WPA.ifBf ?_ ?_); assumption) | ((first | refine WPA.ifs ?_ ?_ | refine WPA.ifB ?_ ?_) <;> intro hc))
        repeat' (first | ((rw [hf2])) | ((first | refine WLA.m rfl rfl ?_ ?_ | refine WLA.st rfl ?_ ?_ | refine WLA.x rfl rfl ?_ (fun x => ?_) | refine WLA.x0 rfl ?_ (fun x => ?_)); first | exact trivial | exact rfl | assumption | omega | (refine ⟨?_, ?_⟩ <;> omega) | (simp only [Room, lenS]; omega) | decide | skip) | (refine Stp.go ?_) | (guard_target =~ WLA _ _ _ _ _ (⟨_, .call ⟨.value (.func 17), _, _⟩, _, _, _, _⟩ :: _) _ _; refine WLA.call rfl rfl (hitp) ?_; rintro ⟨⟩) | (guard_target =~ WLA _ _ _ _ _ (⟨_, .call ⟨.value (.func 45), _, _⟩, _, _, _, _⟩ :: _) _ _; refine WLA.call rfl rfl (pJoin_tr h0 hj2 hwn) ?_; rintro ⟨⟩) | (guard_target =~ WLA _ _ _ _ _ (⟨_, .call ⟨.value (.func 16), _, _⟩, _, _, _, _⟩ :: _) _ _; refine WLA.call rfl rfl (lineO_tr hs2 (by simp)) ?_; rintro ⟨⟩) | (refine WPA.ifT ?_) | (refine WPA.ifF ?_) | ((first | refine WPA.dec ?_); first | refine .inl ⟨by first | assumption | omega | with_reducible rfl | (refine fun h => h ?_; first | assumption | with_reducible rfl) | (simp only [lenS] <;> omega) | decide, ?_⟩ | refine .inr ⟨by first | assumption | omega | with_reducible rfl | (refine fun h => h ?_; first | assumption | with_reducible rfl) | (simp only [lenS] <;> omega) | decide, ?_⟩) | ((first | refine WPA.ifBt ?_ ?_ | refine WPA.ifBnf ?_ ?_); assumption) | ((first | refine WPA.ifBnt ?_ ?_ | refine WPA.ifBf ?_ ?_); assumption) | ((first | refine WPA.ifs ?_ ?_ | refine WPA.ifB ?_ ?_) <;> intro hc))
        exact QQ.loopS (i + 1, u ++ entB ws false ((pr, bk), G)) ⟨rfl, rfl, rfl, rfl, rfl, rfl, trivial⟩ ⟨hlt, hu2⟩ (by dsimp only; omega) (fun w h => h.to)
      · have htl : ¬ ((k + 1 : Nat) : Int) < gr.length := by have := of_decide_eq_true htop; omega
        obtain ⟨hf2, hs2, hj2, hb2⟩ := hend ⟨#[]⟩ rfl
        repeat' (first | ((first | refine WLA.m rfl rfl ?_ ?_ | refine WLA.st rfl ?_ ?_ | refine WLA.x rfl rfl ?_ (fun x => ?_) | refine WLA.x0 rfl ?_ (fun x => ?_)); first | exact trivial | exact rfl | assumption | omega | (refine ⟨?_, ?_⟩ <;> omega) | (simp only [Room, lenS]; omega) | decide | skip) | (refine Stp.go ?_) | (refine WPA.ifT ?_) | (refine WPA.ifF ?_) | ((first | refine WPA.dec ?_); first | refine .inl ⟨by first | assumption | omega | with_reducible rfl | (refine fun h => h ?_; first | assumption | with_reducible rfl) | (simp only [lenS] <;> omega) | decide, ?_⟩ | refine .inr ⟨by first | assumption | omega | with_reducible rfl | (refine fun h => h ?_; first | assumption | with_reducible rfl) | (simp only [lenS] <;> omega) | decide, ?_⟩) | ((first | refine WPA.ifBt ?_ ?_ | refine WPA.ifBnf ?_ ?_); assumption) | ((first | refine WPA.ifBnt ?_ ?_ | refine WPA.ifBf ?_ ?_); assumption) | ((first | refine WPA.ifs ?_ ?_ | refine WPA.ifB ?_ ?_) <;> intro hc))
        repeat' (first | ((rw [hf2])) | ((first | refine WLA.m rfl rfl ?_ ?_ | refine WLA.st rfl ?_ ?_ | refine WLA.x rfl rfl ?_ (fun x => ?_) | refine WLA.x0 rfl ?_ (fun x => ?_)); first | exact trivial | exact rfl | assumption | omega | (refine ⟨?_, ?_⟩ <;> omega) | (simp only [Room, lenS]; omega) | decide | skip) | (refine Stp.go ?_) | (guard_target =~ WLA _ _ _ _ _ (⟨_, .call ⟨.value (.func 17), _, _⟩, _, _, _, _⟩ :: _) _ _; refine WLA.call rfl rfl (hitp) ?_; rintro ⟨⟩) | (guard_target =~ WLA _ _ _ _ _ (⟨_, .call ⟨.value (.func 45), _, _⟩, _, _, _, _⟩ :: _) _ _; refine WLA.call rfl rfl (pJoin_tr h0 hj2 hwn) ?_; rintro ⟨⟩) | (guard_target =~ WLA _ _ _ _ _ (⟨_, .call ⟨.value (.func 16), _, _⟩, _, _, _, _⟩ :: _) _ _; refine WLA.call rfl rfl (lineO_tr hs2 (by simp)) ?_; rintro ⟨⟩) | (refine WPA.ifT ?_) | (refine WPA.ifF ?_) | ((first | refine WPA.dec ?_); first | refine .inl ⟨by first | assumption | omega | with_reducible rfl | (refine fun h => h ?_; first | assumption | with_reducible rfl) | (simp only [lenS] <;> omega) | decide, ?_⟩ | refine .inr ⟨by first | assumption | omega | with_reducible rfl | (refine fun h => h ?_; first | assumption | with_reducible rfl) | (simp only [lenS] <;> omega) | decide, ?_⟩) | ((first | refine WPA.ifBt ?_ ?_ | refine WPA.ifBnf ?_ ?_); assumption) | ((first | refine WPA.ifBnt ?_ ?_ | refine WPA.ifBf ?_ ?_); assumption) | ((first | refine WPA.ifs ?_ ?_ | refine WPA.ifB ?_ ?_) <;> intro hc))
        exact QQ.loopS (i + 1, u ++ entB ws true ((pr, bk), G)) ⟨rfl, rfl, rfl, rfl, rfl, rfl, trivial⟩ ⟨hlt, hu2⟩ (by dsimp only; omega) (fun w h => h.to)
  · have hlt' : ¬ (i : Int) < es.length := by omega
    rw [List.drop_of_length_le (by omega), entsB] at hu
    have hu3 : u ++ ⟨#[10]⟩ = T := by
      have e9 : u ++ (⟨#[]⟩ : ByteArray) = u := ByteArray.append_empty
      rw [← hu, e9]
    have hs3 : u.size + 1 ≤ 1000000000 := by rw [← hu3, ByteArray.size_append] at hz; have e2 : (⟨#[10]⟩ : ByteArray).size = 1 := rfl; omega
    repeat' (first | ((rw [hu3])) | ((first | refine WLA.m rfl rfl ?_ ?_ | refine WLA.st rfl ?_ ?_ | refine WLA.x rfl rfl ?_ (fun x => ?_) | refine WLA.x0 rfl ?_ (fun x => ?_)); first | exact trivial | exact rfl | assumption | omega | (refine ⟨?_, ?_⟩ <;> omega) | (simp only [Room, lenS]; omega) | decide | skip) | (refine Stp.go ?_) | (guard_target =~ WLA _ _ _ _ _ (⟨_, .call ⟨.value (.func 16), _, _⟩, _, _, _, _⟩ :: _) _ _; refine WLA.call rfl rfl (line0_tr hs3) ?_; rintro ⟨⟩) | (refine WPA.ifT ?_) | (refine WPA.ifF ?_) | ((first | refine WPA.dec ?_); first | refine .inl ⟨by first | assumption | omega | with_reducible rfl | (refine fun h => h ?_; first | assumption | with_reducible rfl) | (simp only [lenS] <;> omega) | decide, ?_⟩ | refine .inr ⟨by first | assumption | omega | with_reducible rfl | (refine fun h => h ?_; first | assumption | with_reducible rfl) | (simp only [lenS] <;> omega) | decide, ?_⟩) | ((first | refine WPA.ifBt ?_ ?_ | refine WPA.ifBnf ?_ ?_); assumption) | ((first | refine WPA.ifBnt ?_ ?_ | refine WPA.ifBf ?_ ?_); assumption) | ((first | refine WPA.ifs ?_ ?_ | refine WPA.ifB ?_ ?_) <;> intro hc))
    exact QQ.endn rfl () rfl fun w h => h.to
end
end Go.Proofs.YthkhneimfjaohaaGreatDoor
