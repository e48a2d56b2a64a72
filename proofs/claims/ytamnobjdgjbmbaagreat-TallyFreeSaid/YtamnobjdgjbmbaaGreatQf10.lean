/- Texts that TallyFree_law leans on, part 10. Conditions: none. -/
import Derived.Lib.Builder
import Derived.Lib.UnsafeStr
import Derived.Laws.Externs
import Derived.Test.YtamnobjdgjbmbaaGreatQf9
namespace Go.Fw
open Go Go.RowKit Go.Lib
set_option linter.unusedVariables false
set_option linter.unusedSimpArgs false
theorem add_at0 (g j : Nat) : (⟨g, 0, none⟩ : Addr).add j = ⟨g, j, none⟩ := by unfold Addr.add; split <;> simp_all
class LiesT (P : Program) (t : TypeId) (n : outParam Nat) : Prop where
  out : liesAt P P.depth t (n / P.cellsOf t) 0 t 1 = true
class ExtSame (P : Program) (f : FuncId) : Prop where
  out : ∀ (x : Value) (w : World), (callFunc f #[x]).run P w = .ok (.value x) w
section
variable {P : Program} {ρ : Env} {A : World → Prop} {ty : TypeId} {w0 : World} {I : Foot} {L L' : List HP}
theorem SL.shape {b : Nat} {t : TypeId} {cs : List Value} {w : World} (h : SL w0 I (Bk b t cs :: L) w) : w.shape? b = some (t, cs.length) := by
  have := h.bk
  simp [World.shape?, this]
instance {x : Operand} {src dst t t' : TypeId} {b n m : Nat} {z cs : List Value} [hx : Ev ρ x (.pointer (some ⟨b, 0, none⟩))] [hs : Und P src (.pointer t)] [hd : Und P dst .unsafePointer] [hz : Inf P t z n m] [hA : InSL A w0 I L] [hb : FindBk L b t' cs L'] :
    OpM P ρ A (.convert src dst x) ty (.pointer (some ⟨b, 0, none⟩)) (n ≠ 0 ∧ cs.length ≠ 0) := ⟨fun h => OpP.at fun w hw => by
  obtain ⟨i, hi, hi2⟩ := Option.map_eq_some_iff.1 hz.size
  have hsh := (hb.out.sl (hA.out w hw)).shape
  have := run_to_unsafe (P := P) w ⟨b, 0, none⟩ hs.out hd.out hi (by rw [hi2]; exact h.1) hsh (Nat.pos_of_ne_zero h.2)
  intro d pos af g w' hw'
  subst hw'
  simp only [execOp, hx.out, this, Sem.run_bind, Sem.run_pure, Result.andThen_ok, go_sem]⟩
instance {x : Operand} {src dst u : TypeId} {b n m k : Nat} {z cs : List Value} [hx : Ev ρ x (.pointer (some ⟨b, 0, none⟩))] [hs : Und P src .unsafePointer] [hd : Und P dst (.pointer u)] [hz : Inf P u z n m] [hA : InSL A w0 I L] [hb : FindBk L b u cs L'] [hl : LiesT P u k] [hn : LenL cs k] :
    OpM P ρ A (.convert src dst x) ty (.pointer (some ⟨b, 0, none⟩)) True := ⟨fun _ => OpP.at fun w hw => by
  obtain ⟨i, hi, hi2⟩ := Option.map_eq_some_iff.1 hz.size
  have hsh := (hb.out.sl (hA.out w hw)).shape
  have := run_from_unsafe (P := P) w ⟨b, 0, none⟩ hs.out hd.out hi hsh (by rw [hn.out]; exact hl.out)
  intro d pos af g w' hw'
  subst hw'
  simp only [execOp, hx.out, this, Sem.run_bind, Sem.run_pure, Result.andThen_ok, go_sem]⟩
instance {x : Operand} {f : FuncId} {ts : Array TypeId} {v : Value} [hx : Ev ρ x v] [hf : ExtSame P f] : OpM P ρ A (.call { callee := .value (.func f), args := #[x], argTypes := ts }) ty v True := ⟨fun _ => by
  intro d pos af g w _
  have e1 : evalE ρ (.func f) = .func (.func f) #[] #[] := rfl
  have e2 := hx.out
  simp [execOp, resolve, invoke, Deferred.ofValue, e1, e2, hf.out, go_sem]⟩
instance (priority := 1300) {x y : Operand} {t te u : TypeId} {a : Addr} {z : List Value} {n m : Nat} [h1 : Ev ρ x (.pointer (some a))] [h2 : Ev ρ y (.pointer (some a))] [ht : Und P t (.pointer te)] [hz : Inf P te z n m] : OpM P ρ A (.binOp .neq t x y u) ty (.bool false) True := ⟨fun _ => by
  obtain ⟨i, hi, hi2⟩ := Option.map_eq_some_iff.1 hz.size
  intro d pos af g w _
  have := run_neq_ptr_same (P := P) w a ht.out hi
  simp [execOp, eqGuard, h1.out, h2.out, this, go_sem]⟩
theorem SL.junk {w : World} (h : SL w0 I L w) (o : Obj) : SL w0 I L { w with heap := w.heap.push o } := Ent.drop1.sl (h.push (p := Ob w.heap.size o) o rfl)
instance {x : Operand} {s : SV} {ts : Array TypeId} {e t' : TypeId} {α : Type} {en : Enc α} {xs : List α} [hx : Ev ρ x (.slice s.a s.n s.cap)] [ht : Und P ty (.pointer e)] [hA : InSL A w0 I L] [ho : FindOwn L s t' α en xs L'] :
    OpE P ρ A (.call { callee := .builtin .unsafeSliceData, args := #[x], argTypes := ts }) ty { q : Option Addr // s.n ≠ 0 → q = s.a } (fun q => .pointer q.1) (fun _ => SL w0 I L) True := ⟨fun _ => OpT.sl fun w hw d pos af g => by
  obtain ⟨R, hR, hm⟩ := (ho.out.sl hw).heap
  have hexec : ∀ v w', (Builtin.unsafeSliceData_ ts ty #[.slice s.a s.n s.cap]).run P w = .ok v w' → (execOp (evalE ρ) ⟨d, .call { callee := .builtin .unsafeSliceData, args := #[x], argTypes := ts }, ty, pos, af, g⟩).run P w = .ok (.value v) w' := by
    intro v w' h
    unfold execOp
    simp only [resolve, invoke, builtin, Sem.run_bind, Sem.run_pure, Result.andThen_ok, List.map_toArray, List.map_cons, List.map_nil, hx.out, h]
  rcases hR.2 with ⟨hv, hn, hr⟩ | ⟨gb, cap, cur, hv, hnc, hcm, hcs, htake, hr⟩
  · injection hv with h1 h2 h3
    rw [hexec _ _ (by rw [h1]; exact run_unsafeSliceData_nil (P := P) w ts ty s.n s.cap)]
    exact ⟨⟨none, fun hne => absurd hn hne⟩, rfl, hw⟩
  · injection hv with h1 h2 h3
    by_cases hc : s.cap = 0
    · have hg := hm gb _ (by rw [hr]; exact List.mem_singleton.2 rfl)
      have hsh : w.shape? gb = some (t', cur.size) := by simp [World.shape?, hg]
      rw [hexec _ _ (by rw [h1, hc]; exact run_unsafeSliceData_zero (P := P) w ts ty e ht.out ⟨gb, 0, none⟩ s.n _ hsh)]
      exact ⟨⟨some ⟨w.heap.size, 0, none⟩, fun hne => absurd (show s.n = 0 by omega) hne⟩, rfl, hw.junk _⟩
    · rw [hexec _ _ (by rw [h1]; exact run_unsafeSliceData_row (P := P) w ts ty ⟨gb, 0, none⟩ s.n s.cap hc)]
      exact ⟨⟨some ⟨gb, 0, none⟩, fun _ => h1.symm⟩, rfl, hw⟩⟩
theorem unsafeStr {x y : Operand} {q : Option Addr} {pt it e : TypeId} {s : SV} {t : ByteArray} [hx : Ev ρ x (.pointer q)] [hy : Ev ρ y (.int .i64 (t.size : Int))] [hA : InSL A w0 I L] [hp : Und P pt (.pointer e)] (hc : P.cellsOf e = 1) (ho : Ent L (OwnS e s (bytesK t) :: L')) (hq : s.n ≠ 0 → q = s.a) :
    OpE P ρ A (.call { callee := .builtin .unsafeString, args := #[x, y], argTypes := #[pt, it] }) ty Unit (fun _ => .string t) (fun _ => SL w0 I L') True := ⟨fun _ => OpT.sl fun w hw d pos af g => by
  have hexec : ∀ v w', (Builtin.unsafeString_ #[pt, it] ty #[.pointer q, .int .i64 (t.size : Int)]).run P w = .ok v w' → (execOp (evalE ρ) ⟨d, .call { callee := .builtin .unsafeString, args := #[x, y], argTypes := #[pt, it] }, ty, pos, af, g⟩).run P w = .ok (.value v) w' := by
    intro v w' h
    unfold execOp
    simp only [resolve, invoke, builtin, Sem.run_bind, Sem.run_pure, Result.andThen_ok, List.map_toArray, List.map_cons, List.map_nil, hx.out, hy.out, h]
  obtain ⟨H, R, Rs, h1, hR, h2, h3⟩ := (ho.sl hw).uncons
  have hn : s.n = t.size := by rw [OwnR.len hR, bytesK_len]
  by_cases h0 : t.size = 0
  · have ht : t = ⟨#[]⟩ := by
      cases t with
      | mk d => simp only [ByteArray.size] at h0; rw [Array.eq_empty_of_size_eq_zero h0]
    rw [hexec _ _ (by rw [h0]; exact run_unsafeString_none (P := P) w pt it ty q)]
    exact ⟨(), by rw [ht]; rfl, (ho.trans Ent.drop1).sl hw⟩
  · rcases hR.2 with ⟨hv, hz, hr⟩ | ⟨gb, cap, cur, hv, hnc, hcm, hcs, htake, hr⟩
    · omega
    · injection hv with g1 g2 g3
      have hqe := hq (by omega)
      rw [g1] at hqe
      subst hqe
      subst hr
      have hg := (h3.own (gb, .cells cur e (0, 0)) (List.mem_append_left _ (List.mem_singleton.2 rfl))).1
      have hsh : w.shape? gb = some (e, cur.size) := by simp [World.shape?, hg]
      have hll : t.data.toList.length = t.size := by rw [Array.length_toList]; rfl
      have hcur : cur.size = cap := by have h8 : cur.size = cap * 1 := hcs; omega
      have key := run_unsafeString_row (P := P) w pt it ty e hp.out hc gb cur.size hsh t.data.toList (fun hnil => h0 (by rw [← hll, hnil]; rfl)) (by omega) (by unfold maxLen at hcm; omega) (fun j v hj => by
        rw [add_at0]
        refine cell_of_heap hg ?_
        have hc2 : (flat (bytesK t))[j]? = some (.int .u8 (v.toNat : Int)) := by rw [flat_bytesK, List.getElem?_map, hj]; rfl
        rw [← htake, List.getElem?_take] at hc2
        split at hc2
        · simpa using hc2
        · cases hc2)
      rw [hll] at key
      rw [hexec _ _ key]
      refine ⟨(), rfl, ?_⟩
      have hst : St w0 H ((gb, .cells cur e (0, 0)) :: Rs.flatten) w := h3
      have hwf : w.freeze ⟨gb, 0, none⟩ t.size = { w with heap := w.heap.modify gb fun o => match o with
          | .cells c elem (lo, hi) => .cells c elem (if lo == hi then (0, 0 + t.size) else (min lo 0, max hi (0 + t.size)))
          | o => o } := by unfold World.freeze; rw [if_neg h0]; rfl
      rw [hwf]
      have hfr := hst.put (j := 0) (b := gb) (o := .cells cur e (0, 0)) (o' := .cells cur e (0, 0 + t.size)) rfl (w' := { w with heap := w.heap.modify gb fun o => match o with
          | .cells c elem (lo, hi) => .cells c elem (if lo == hi then (0, 0 + t.size) else (min lo 0, max hi (0 + t.size)))
          | o => o }) (fun k => by
        show (w.heap.modify gb _)[k]? = _
        rw [Array.getElem?_modify]
        by_cases hk : k = gb
        · subst hk
          rw [if_pos rfl, if_pos rfl, hg]; rfl
        · rw [if_neg (fun h => hk h.symm), if_neg hk]) (by simp) rfl rfl rfl (Nat.le_refl _)
      exact ⟨H, Rs, h1, h2, hfr.drop (List.sublist_cons_self _ _)⟩⟩
end
end Go.Fw
namespace Go.Proofs.YtamnobjdgjbmbaaGreat
open Go Go.Fw Go.RowKit
set_option linter.unusedVariables false
set_option linter.unusedSimpArgs false
set_option maxRecDepth 100000
set_option maxHeartbeats 16000000
set_option synthInstance.maxHeartbeats 200000
set_option synthInstance.maxSize 100000
attribute [local irreducible] WPA WLA WDA WDQ WDE QQ seqQ blockQ loopQ fnQ OpP OpT Tr TrP SL SLd OwnS LitS Bk BkE Ob
instance : Und Tryz.prog 199 .unsafePointer := ⟨Tryz.underlying199⟩
instance : LiesT Tryz.prog 151 2 := ⟨by kernel_rfl⟩
instance : ExtSame Tryz.prog 118 := ⟨fun x w => by
  rw [run_callFunc_extern Tryz.func118 (by kernel_rfl) (by kernel_rfl) (by kernel_rfl) (e := Extern.AbiNoEscape.same) (by kernel_rfl)]
  rw [Lib.run_noEscape]; rfl⟩
theorem bytesK_append (t u : ByteArray) : bytesK (t ++ u) = bytesK t ++ bytesK u := by
  unfold bytesK
  rw [ByteArray.data_append, Array.toList_append, List.map_append]
def BldR (b : Nat) (t : ByteArray) : HP := exH fun q : Option Addr × SV => pureH (q.1 = none ∨ q.1 = some ⟨b, 0, none⟩) (star (Bk b 151 [.pointer q.1, .slice q.2.a q.2.n q.2.cap]) (OwnS 5 q.2 (bytesK t)))
theorem BldR.fold {b : Nat} {t : ByteArray} {s : SV} {L : List HP} : Ent (Bk b 151 [.pointer (some ⟨b, 0, none⟩), .slice s.a s.n s.cap] :: OwnS 5 s (bytesK t) :: L) (BldR b t :: L) := Ent.ex (some ⟨b, 0, none⟩, s) (Ent.pure (.inr rfl) (Ent.star Ent.refl))
theorem BldR.new {b : Nat} {L : List HP} : Ent (Bk b 151 [.pointer none, .slice none 0 0] :: L) (BldR b ⟨#[]⟩ :: L) :=
  (Ent.cons (Ent.ownNil (α := KInt .u8) (t := 5) Ent.refl)).trans (Ent.ex (none, SV.nil) (Ent.pure (.inl rfl) (Ent.star Ent.refl)))
instance {b : Nat} {t : ByteArray} : Opn (BldR b t) { q : Option Addr × SV // q.1 = none ∨ q.1 = some ⟨b, 0, none⟩ } (fun q L => Bk b 151 [.pointer q.1.1, .slice q.1.2.a q.1.2.n q.1.2.cap] :: OwnS 5 q.1.2 (bytesK t) :: L) := ⟨fun w0 I L w h => by
  obtain ⟨q, h⟩ := h.exH
  obtain ⟨hq, h⟩ := h.pureH
  exact ⟨⟨q, hq⟩, Ent.unstar.sl h⟩⟩
section
variable {L L' : List HP} {w0 : World} {I : Foot}
theorem copyCheck_tr {b : Nat} {q : Option Addr} {s : SV} (hq : q = none ∨ q = some ⟨b, 0, none⟩) : Tr Tryz.prog 101 #[.pointer (some ⟨b, 0, none⟩)] (SL w0 I (Bk b 151 [.pointer q, .slice s.a s.n s.cap] :: L)) (fun _ : Unit => .tuple #[]) (fun _ => SL w0 I (Bk b 151 [.pointer (some ⟨b, 0, none⟩), .slice s.a s.n s.cap] :: L)) := by
  refine Tr.intro Tryz.func101 rfl Tryz.ntmps101 rfl ?_
  rcases hq with rfl | rfl
  · have h1 : (2 : Nat) ≠ 0 ∧ ([.pointer none, .slice s.a s.n s.cap] : List Value).length ≠ 0 := ⟨by decide, by simp⟩
    repeat' (first | ((first | refine WLA.m rfl rfl ?_ ?_ | refine WLA.st rfl ?_ ?_ | refine WLA.x rfl rfl ?_ (fun x => ?_) | refine WLA.x0 rfl ?_ (fun x => ?_)); first | exact trivial | exact rfl | assumption | omega | (refine ⟨?_, ?_⟩ <;> omega) | (simp only [Room, lenS]; omega) | decide | skip) | (refine Stp.go ?_) | (refine WPA.ifT ?_) | (refine WPA.ifF ?_) | ((first | refine WPA.dec ?_); first | refine .inl ⟨by first | assumption | omega | with_reducible rfl | (refine fun h => h ?_; first | assumption | with_reducible rfl) | (simp only [lenS] <;> omega) | decide, ?_⟩ | refine .inr ⟨by first | assumption | omega | with_reducible rfl | (refine fun h => h ?_; first | assumption | with_reducible rfl) | (simp only [lenS] <;> omega) | decide, ?_⟩) | ((first | refine WPA.ifBt ?_ ?_ | refine WPA.ifBnf ?_ ?_); assumption) | ((first | refine WPA.ifBnt ?_ ?_ | refine WPA.ifBf ?_ ?_); assumption) | ((first | refine WPA.ifs ?_ ?_ | refine WPA.ifB ?_ ?_) <;> intro hc))
    exact QQ.endn rfl () rfl fun w h => h.to
  · skip
    repeat' (first | ((first | refine WLA.m rfl rfl ?_ ?_ | refine WLA.st rfl ?_ ?_ | refine WLA.x rfl rfl ?_ (fun x => ?_) | refine WLA.x0 rfl ?_ (fun x => ?_)); first | exact trivial | exact rfl | assumption | omega | (refine ⟨?_, ?_⟩ <;> omega) | (simp only [Room, lenS]; omega) | decide | skip) | (refine Stp.go ?_) | (refine WPA.ifT ?_) | (refine WPA.ifF ?_) | ((first | refine WPA.dec ?_); first | refine .inl ⟨by first | assumption | omega | with_reducible rfl | (refine fun h => h ?_; first | assumption | with_reducible rfl) | (simp only [lenS] <;> omega) | decide, ?_⟩ | refine .inr ⟨by first | assumption | omega | with_reducible rfl | (refine fun h => h ?_; first | assumption | with_reducible rfl) | (simp only [lenS] <;> omega) | decide, ?_⟩) | ((first | refine WPA.ifBt ?_ ?_ | refine WPA.ifBnf ?_ ?_); assumption) | ((first | refine WPA.ifBnt ?_ ?_ | refine WPA.ifBf ?_ ?_); assumption) | ((first | refine WPA.ifs ?_ ?_ | refine WPA.ifB ?_ ?_) <;> intro hc))
    exact QQ.endn rfl () rfl fun w h => h.to
theorem WriteString_tr {b : Nat} {t u : ByteArray} [h : FindK L BldR b t L'] (hz : t.size + u.size ≤ 140737488355328) : Tr Tryz.prog 75 #[.pointer (some ⟨b, 0, none⟩), .string u] (SL w0 I L) (fun _ : Unit => .tuple #[.int .i64 u.size, .nilIface]) (fun _ => SL w0 I (BldR b (t ++ u) :: L')) := by
  refine Tr.at h.out (Tr.opn fun q => ?_)
  obtain ⟨⟨q, s⟩, hq⟩ := q
  dsimp only
  refine Tr.intro Tryz.func75 rfl Tryz.ntmps75 rfl ?_
  have hbl := bytesK_len t
  have hroom : Room ((bytesK t).length + u.size) 1 := ⟨by omega, by omega⟩
  repeat' (first | ((first | refine WLA.m rfl rfl ?_ ?_ | refine WLA.st rfl ?_ ?_ | refine WLA.x rfl rfl ?_ (fun x => ?_) | refine WLA.x0 rfl ?_ (fun x => ?_)); first | exact trivial | exact rfl | assumption | omega | (refine ⟨?_, ?_⟩ <;> omega) | (simp only [Room, lenS]; omega) | decide | skip) | (refine Stp.go ?_) | (guard_target =~ WLA _ _ _ _ _ (⟨_, .call ⟨.value (.func 101), _, _⟩, _, _, _, _⟩ :: _) _ _; refine WLA.call rfl rfl (copyCheck_tr hq) ?_; rintro ⟨⟩) | (refine WPA.ifT ?_) | (refine WPA.ifF ?_) | ((first | refine WPA.dec ?_); first | refine .inl ⟨by first | assumption | omega | with_reducible rfl | (refine fun h => h ?_; first | assumption | with_reducible rfl) | (simp only [lenS] <;> omega) | decide, ?_⟩ | refine .inr ⟨by first | assumption | omega | with_reducible rfl | (refine fun h => h ?_; first | assumption | with_reducible rfl) | (simp only [lenS] <;> omega) | decide, ?_⟩) | ((first | refine WPA.ifBt ?_ ?_ | refine WPA.ifBnf ?_ ?_); assumption) | ((first | refine WPA.ifBnt ?_ ?_ | refine WPA.ifBf ?_ ?_); assumption) | ((first | refine WPA.ifs ?_ ?_ | refine WPA.ifB ?_ ?_) <;> intro hc))
  refine QQ.end_ rfl () rfl fun w h => ?_
  have h2 : SL w0 I (Bk b 151 [.pointer (some ⟨b, 0, none⟩), .slice x.a x.n x.cap] :: OwnS 5 x (bytesK (t ++ u)) :: L') w := by rw [bytesK_append]; exact h.to
  exact BldR.fold.sl h2
theorem BString_tr {b : Nat} {t : ByteArray} [h : FindK L BldR b t L'] : Tr Tryz.prog 76 #[.pointer (some ⟨b, 0, none⟩)] (SL w0 I L) (fun _ : Unit => .string t) (fun _ => SL w0 I L') := by
  refine Tr.at h.out (Tr.opn fun q => ?_)
  obtain ⟨⟨q, s⟩, hq⟩ := q
  dsimp only
  refine Tr.intro Tryz.func76 rfl Tryz.ntmps76 rfl ?_
  have hbl : ((bytesK t).length : Int) = t.size := by rw [bytesK_len]
  repeat' (first | ((rw [hbl])) | ((first | refine WLA.m rfl rfl ?_ ?_ | refine WDQ.m rfl rfl ?_ ?_ | refine WLA.st rfl ?_ ?_ | refine WLA.x rfl rfl ?_ (fun x => ?_) | refine WLA.x0 rfl ?_ (fun x => ?_)); first | exact trivial | exact rfl | assumption | omega | (refine ⟨?_, ?_⟩ <;> omega) | (simp only [Room, lenS]; omega) | decide | skip) | (refine Stp.go ?_) | (refine WPA.ifT ?_) | (refine WPA.ifF ?_) | ((first | refine WPA.dec ?_); first | refine .inl ⟨by first | assumption | omega | with_reducible rfl | (refine fun h => h ?_; first | assumption | with_reducible rfl) | (simp only [lenS] <;> omega) | decide, ?_⟩ | refine .inr ⟨by first | assumption | omega | with_reducible rfl | (refine fun h => h ?_; first | assumption | with_reducible rfl) | (simp only [lenS] <;> omega) | decide, ?_⟩) | ((first | refine WPA.ifBt ?_ ?_ | refine WPA.ifBnf ?_ ?_); assumption) | ((first | refine WPA.ifBnt ?_ ?_ | refine WPA.ifBf ?_ ?_); assumption) | ((first | refine WPA.ifs ?_ ?_ | refine WPA.ifB ?_ ?_) <;> intro hc) | (guard_target =~ WPA _ _ _ (.region 1 _ true) _ _ _; refine WPA.drawT 10 (.q 0 (.q 1 (.q 2 (.q 3 (.q 5 (.q 6 (.q 7 (.q 8 (.q 9 (.e 4 .fin)))))))))) mixed ?_ ?_; kernel_rfl) | (refine WDA.finish (tl := [⟨_, _, _, _, _, _⟩, ⟨_, _, _, _, _, _⟩]) rfl ?_) | (refine WDQ.see rfl ?_) | (refine WDE.see rfl ?_) | (refine WDE.alloc rfl rfl (fun w h => h) (fun x => ?_)) | (refine WDE.stE rfl ?_) | (refine WDE.x rfl rfl ?_ ?_ (fun x => ?_); rotate_left 1; (intro x w h; first | exact h | exact Ent.drop1.sl h | exact SL.unI h | exact SL.to h); rotate_left 1; first | exact trivial | exact rfl | assumption | omega | (refine ⟨?_, ?_⟩ <;> omega) | (simp only [Room, lenS]; omega) | decide | skip))
  refine WLA.x (h := unsafeStr (P := Tryz.prog) (e := 5) (s := s) (t := t) (by kernel_rfl) (Ent.swap : Ent _ (OwnS 5 s (bytesK t) :: _)) x.2) rfl rfl trivial (fun _ => ?_)
  repeat' (first | ((first | refine WLA.m rfl rfl ?_ ?_ | refine WDQ.m rfl rfl ?_ ?_ | refine WLA.st rfl ?_ ?_ | refine WLA.x rfl rfl ?_ (fun x => ?_) | refine WLA.x0 rfl ?_ (fun x => ?_)); first | exact trivial | exact rfl | assumption | omega | (refine ⟨?_, ?_⟩ <;> omega) | (simp only [Room, lenS]; omega) | decide | skip) | (refine Stp.go ?_) | (refine WPA.ifT ?_) | (refine WPA.ifF ?_) | ((first | refine WPA.dec ?_); first | refine .inl ⟨by first | assumption | omega | with_reducible rfl | (refine fun h => h ?_; first | assumption | with_reducible rfl) | (simp only [lenS] <;> omega) | decide, ?_⟩ | refine .inr ⟨by first | assumption | omega | with_reducible rfl | (refine fun h => h ?_; first | assumption | with_reducible rfl) | (simp only [lenS] <;> omega) | decide, ?_⟩) | ((first | refine WPA.ifBt ?_ ?_ | refine WPA.ifBnf ?_ ?_); assumption) | ((first | refine WPA.ifBnt ?_ ?_ | refine WPA.ifBf ?_ ?_); assumption) | ((first | refine WPA.ifs ?_ ?_ | refine WPA.ifB ?_ ?_) <;> intro hc) | (guard_target =~ WPA _ _ _ (.region 1 _ true) _ _ _; refine WPA.drawT 10 (.q 0 (.q 1 (.q 2 (.q 3 (.q 5 (.q 6 (.q 7 (.q 8 (.q 9 (.e 4 .fin)))))))))) mixed ?_ ?_; kernel_rfl) | (refine WDA.finish (tl := [⟨_, _, _, _, _, _⟩, ⟨_, _, _, _, _, _⟩]) rfl ?_) | (refine WDQ.see rfl ?_) | (refine WDE.see rfl ?_) | (refine WDE.alloc rfl rfl (fun w h => h) (fun x => ?_)) | (refine WDE.stE rfl ?_) | (refine WDE.x rfl rfl ?_ ?_ (fun x => ?_); rotate_left 1; (intro x w h; first | exact h | exact Ent.drop1.sl h | exact SL.unI h | exact SL.to h); rotate_left 1; first | exact trivial | exact rfl | assumption | omega | (refine ⟨?_, ?_⟩ <;> omega) | (simp only [Room, lenS]; omega) | decide | skip))
  exact QQ.end_ rfl () rfl fun w h => h.to
end
end Go.Proofs.YtamnobjdgjbmbaaGreat
namespace Go.Fw
open Go Go.RowKit
set_option linter.unusedVariables false
set_option linter.unusedSimpArgs false
section
variable {P : Program} {ρ : Env} {A : World → Prop} {ty : TypeId} {x y : Operand} {t u : TypeId}
instance {a b : Int} [h1 : Ev ρ x (.int .u64 a)] [h2 : Ev ρ y (.int .u64 b)] : OpM P ρ A (.binOp .quo t x y u) ty (.int .u64 (a / b)) ((0 ≤ a ∧ a ≤ 18446744073709551615) ∧ 0 < b) := ⟨fun h => by
  have h3 := P_quo (P := P) (A := A) (ty := ty) (t := t) (u := u) h1.out h2.out (by omega)
  have e : a.tdiv b = a / b := Int.tdiv_eq_ediv_of_nonneg h.1.1
  have e2 : 0 ≤ a / b := Int.ediv_nonneg h.1.1 (by omega)
  have e3 : a / b ≤ a := Int.ediv_le_self _ h.1.1
  rw [e, wrap_u64 (by omega)] at h3; exact h3⟩
instance {a b : Int} [h1 : Ev ρ x (.int .u64 a)] [h2 : Ev ρ y (.int .u64 b)] : OpM P ρ A (.binOp .rem t x y u) ty (.int .u64 (a % b)) (0 ≤ a ∧ 0 < b) := ⟨fun h => by
  have h3 := P_rem (P := P) (A := A) (ty := ty) (t := t) (u := u) h1.out h2.out (by omega)
  rw [Int.tmod_eq_emod_of_nonneg h.1] at h3; exact h3⟩
instance {a b : Int} [h1 : Ev ρ x (.int .u8 a)] [h2 : Ev ρ y (.int .u8 b)] : OpM P ρ A (.binOp .rem t x y u) ty (.int .u8 (a % b)) (0 ≤ a ∧ 0 < b) := ⟨fun h => by
  have h3 := P_rem (P := P) (A := A) (ty := ty) (t := t) (u := u) h1.out h2.out (by omega)
  rw [Int.tmod_eq_emod_of_nonneg h.1] at h3; exact h3⟩
instance {a b : Int} [h1 : Ev ρ x (.int .u64 a)] [h2 : Ev ρ y (.int .u64 b)] : OpM P ρ A (.binOp .add t x y u) ty (.int .u64 (a + b)) (0 ≤ a + b ∧ a + b ≤ 18446744073709551615) := ⟨fun h => by
  have h3 := P_add (P := P) (A := A) (ty := ty) (t := t) (u := u) h1.out h2.out
  rw [wrap_u64 h] at h3; exact h3⟩
instance {a b : Int} [h1 : Ev ρ x (.int .u64 a)] [h2 : Ev ρ y (.int .u64 b)] : OpM P ρ A (.binOp .mul t x y u) ty (.int .u64 (a * b)) (0 ≤ a * b ∧ a * b ≤ 18446744073709551615) := ⟨fun h => by
  have h3 := P_mul (P := P) (A := A) (ty := ty) (t := t) (u := u) h1.out h2.out
  rw [wrap_u64 h] at h3; exact h3⟩
theorem shlU {k' : IntKind} {a : Int} {s : Int} [h1 : Ev ρ x (.int .u64 a)] [h2 : Ev ρ y (.int k' s)] : OpM P ρ A (.binOp .shl t x y u) ty (.int .u64 (IntKind.u64.wrap (a * 2 ^ s.toNat))) (0 ≤ s ∧ s ≤ 64) := ⟨fun h => by
  exact P_shl (s := s.toNat) h1.out (by rw [h2.out]; congr 1; omega) (by simp [IntKind.bits]; omega)⟩
end
theorem or_u64 {a b : Int} (k : Nat) (ha : 0 ≤ a ∧ a < 2 ^ k) (hb : 0 ≤ b ∧ b ≤ 18446744073709551615) (hd : b % 2 ^ k = 0) (hs : a + b ≤ 18446744073709551615) : Go.bits .or .u64 a b = a + b := by
  obtain ⟨m, rfl⟩ := Int.eq_ofNat_of_zero_le ha.1
  obtain ⟨n, rfl⟩ := Int.eq_ofNat_of_zero_le hb.1
  have hm : m < 2 ^ k := by exact_mod_cast ha.2
  have hn : n % 2 ^ k = 0 := by exact_mod_cast hd
  have hor : m ||| n = m + n := by
    rw [Nat.or_comm]
    have e : n = 2 ^ k * (n / 2 ^ k) := by have := Nat.div_add_mod n (2 ^ k); omega
    rw [e, (Nat.two_pow_add_eq_or_of_lt hm _).symm]; omega
  have h1 : (BitVec.ofInt 64 (m : Int)).toNat = m := by
    rw [BitVec.ofInt_natCast, BitVec.toNat_ofNat]; exact Nat.mod_eq_of_lt (by omega)
  have h2 : (BitVec.ofInt 64 (n : Int)).toNat = n := by
    rw [BitVec.ofInt_natCast, BitVec.toNat_ofNat]; exact Nat.mod_eq_of_lt (by omega)
  show IntKind.u64.wrap ((BitVec.ofInt 64 (m : Int) ||| BitVec.ofInt 64 (n : Int)).toNat : Int) = _
  rw [BitVec.toNat_or, h1, h2, hor]
  have := wrap_u64 (a := ((m + n : Nat) : Int)) (by omega)
  rw [this]; omega
theorem or_u8 (m : Nat) (h : m < 256) : Go.bits .or .u8 (m : Int) 128 = ((m % 128 + 128 : Nat) : Int) := by
  have : ∀ m : Fin 256, Go.bits .or .u8 (m.val : Int) 128 = ((m.val % 128 + 128 : Nat) : Int) := by decide +kernel
  exact this ⟨m, h⟩
theorem and_u8 (m : Nat) (h : m < 256) : Go.bits .and .u8 (m : Int) 127 = ((m % 128 : Nat) : Int) := by
  have : ∀ m : Fin 256, Go.bits .and .u8 (m.val : Int) 127 = ((m.val % 128 : Nat) : Int) := by decide +kernel
  exact this ⟨m, h⟩
end Go.Fw
namespace Go.Proofs.YtamnobjdgjbmbaaGreat
open Go Go.Fw Go.RowKit
set_option linter.unusedVariables false
set_option linter.unusedSimpArgs false
set_option maxRecDepth 100000
set_option maxHeartbeats 16000000
set_option synthInstance.maxHeartbeats 200000
set_option synthInstance.maxSize 100000
attribute [local irreducible] WPA WLA WDA WDQ WDE QQ seqQ blockQ loopQ fnQ OpP OpT Tr TrP SL SLd OwnS LitS Bk BkE Ob
def vint (n : Nat) : List UInt8 := if h : n < 128 then [UInt8.ofNat n] else UInt8.ofNat (n % 128 + 128) :: vint (n / 128)
termination_by n
decreasing_by omega
theorem vint_lt {n : Nat} (h : n < 128) : vint n = [UInt8.ofNat n] := by rw [vint, dif_pos h]
theorem vint_ge {n : Nat} (h : ¬ n < 128) : vint n = UInt8.ofNat (n % 128 + 128) :: vint (n / 128) := by rw [vint, dif_neg h]
def vS (n : Nat) : ByteArray := ⟨(vint n).toArray⟩
theorem vint_len : ∀ (f n : Nat), n < 128 ^ (f + 1) → (vint n).length ≤ f + 1
  | 0, n, h => by rw [vint_lt (by simpa using h)]; simp
  | f + 1, n, h => by
    by_cases h1 : n < 128
    · rw [vint_lt h1]; simp
    · rw [vint_ge h1]
      have := vint_len f (n / 128) (by rw [Nat.pow_succ] at h; exact Nat.div_lt_of_lt_mul (by rw [Nat.mul_comm]; exact h))
      simp only [List.length_cons]; omega
theorem vS_size {n : Nat} (h : n ≤ 18446744073709551615) : (vS n).size ≤ 10 := by
  have := vint_len 9 n (Nat.lt_of_le_of_lt h (by decide))
  show (vint n).toArray.size ≤ 10
  rw [List.size_toArray]; exact this
theorem u8_toNat {m : Nat} (h : m < 256) : ((UInt8.ofNat m).toNat : Int) = m := by rw [UInt8.toNat_ofNat', Nat.mod_eq_of_lt h]
theorem bytesK_one {m : Nat} (h : m < 256) : bytesK ⟨#[UInt8.ofNat m]⟩ = [toK .u8 (m : Int)] := by
  show [kb (UInt8.ofNat m)] = _
  unfold kb
  rw [u8_toNat h]; rfl
theorem vS_lt {n : Nat} (h : n < 128) : vS n = ⟨#[UInt8.ofNat n]⟩ := by unfold vS; rw [vint_lt h]
theorem vS_ge {n : Nat} (h : ¬ n < 128) : vS n = ⟨#[UInt8.ofNat (n % 128 + 128)]⟩ ++ vS (n / 128) := by
  unfold vS; rw [vint_ge h]
  apply ByteArray.ext
  simp
theorem bnil_app (x : ByteArray) : (⟨#[]⟩ : ByteArray) ++ x = x := by apply ByteArray.ext; simp
theorem app_bnil (x : ByteArray) : x ++ (⟨#[]⟩ : ByteArray) = x := by apply ByteArray.ext; simp
attribute [local irreducible] vS
def WrtR (W : Nat) (t : ByteArray) : HP := exH fun s : SV => star (Bk W 118 [.slice s.a s.n s.cap]) (OwnS 5 s (bytesK t))
theorem WrtR.fold {W : Nat} {t : ByteArray} {s : SV} {L : List HP} : Ent (Bk W 118 [.slice s.a s.n s.cap] :: OwnS 5 s (bytesK t) :: L) (WrtR W t :: L) := Ent.ex s (Ent.star Ent.refl)
theorem WrtR.new {W : Nat} {L : List HP} : Ent (Bk W 118 [.slice none 0 0] :: L) (WrtR W ⟨#[]⟩ :: L) :=
  (Ent.cons (Ent.ownNil (α := KInt .u8) (t := 5) Ent.refl)).trans (Ent.ex SV.nil (Ent.star Ent.refl))
instance {W : Nat} {t : ByteArray} : Opn (WrtR W t) SV (fun s L => Bk W 118 [.slice s.a s.n s.cap] :: OwnS 5 s (bytesK t) :: L) := ⟨fun w0 I L w h => by
  obtain ⟨q, h⟩ := h.exH
  exact ⟨q, Ent.unstar.sl h⟩⟩
section
variable {L L' : List HP} {w0 : World} {I : Foot}
theorem WRaw_tr {W : Nat} {t u : ByteArray} [h : FindK L WrtR W t L'] (hz : t.size + u.size ≤ 140737488355328) : Tr Tryz.prog 55 #[.pointer (some ⟨W, 0, none⟩), .string u] (SL w0 I L) (fun _ : Unit => .tuple #[]) (fun _ => SL w0 I (WrtR W (t ++ u) :: L')) := by
  refine Tr.at h.out (Tr.opn fun s => ?_)
  refine Tr.intro Tryz.func55 rfl Tryz.ntmps55 rfl ?_
  have hbl := bytesK_len t
  have hroom : Room ((bytesK t).length + u.size) 1 := ⟨by omega, by omega⟩
  repeat' (first | ((first | refine WLA.m rfl rfl ?_ ?_ | refine WLA.st rfl ?_ ?_ | refine WLA.x rfl rfl ?_ (fun x => ?_) | refine WLA.x0 rfl ?_ (fun x => ?_)); first | exact trivial | exact rfl | assumption | omega | (refine ⟨?_, ?_⟩ <;> omega) | (simp only [Room, lenS]; omega) | decide | skip) | (refine Stp.go ?_) | (refine WPA.ifT ?_) | (refine WPA.ifF ?_) | ((first | refine WPA.dec ?_); first | refine .inl ⟨by first | assumption | omega | with_reducible rfl | (refine fun h => h ?_; first | assumption | with_reducible rfl) | (simp only [lenS] <;> omega) | decide, ?_⟩ | refine .inr ⟨by first | assumption | omega | with_reducible rfl | (refine fun h => h ?_; first | assumption | with_reducible rfl) | (simp only [lenS] <;> omega) | decide, ?_⟩) | ((first | refine WPA.ifBt ?_ ?_ | refine WPA.ifBnf ?_ ?_); assumption) | ((first | refine WPA.ifBnt ?_ ?_ | refine WPA.ifBf ?_ ?_); assumption) | ((first | refine WPA.ifs ?_ ?_ | refine WPA.ifB ?_ ?_) <;> intro hc))
  refine QQ.endn rfl () rfl fun w h => ?_
  have h2 : SL w0 I (Bk W 118 [.slice x.a x.n x.cap] :: OwnS 5 x (bytesK (t ++ u)) :: L') w := by rw [bytesK_append]; exact h.to
  exact WrtR.fold.sl h2
theorem WBytes_tr {W : Nat} {t : ByteArray} [h : FindK L WrtR W t L'] : Tr Tryz.prog 58 #[.pointer (some ⟨W, 0, none⟩)] (SL w0 I L) (fun _ : Unit => .string t) (fun _ => SL w0 I (WrtR W t :: L')) := by
  refine Tr.at h.out (Tr.opn fun s => ?_)
  refine Tr.intro Tryz.func58 rfl Tryz.ntmps58 rfl ?_
  repeat' (first | ((first | refine WLA.m rfl rfl ?_ ?_ | refine WLA.st rfl ?_ ?_ | refine WLA.x rfl rfl ?_ (fun x => ?_) | refine WLA.x0 rfl ?_ (fun x => ?_)); first | exact trivial | exact rfl | assumption | omega | (refine ⟨?_, ?_⟩ <;> omega) | (simp only [Room, lenS]; omega) | decide | skip) | (refine Stp.go ?_) | (refine WPA.ifT ?_) | (refine WPA.ifF ?_) | ((first | refine WPA.dec ?_); first | refine .inl ⟨by first | assumption | omega | with_reducible rfl | (refine fun h => h ?_; first | assumption | with_reducible rfl) | (simp only [lenS] <;> omega) | decide, ?_⟩ | refine .inr ⟨by first | assumption | omega | with_reducible rfl | (refine fun h => h ?_; first | assumption | with_reducible rfl) | (simp only [lenS] <;> omega) | decide, ?_⟩) | ((first | refine WPA.ifBt ?_ ?_ | refine WPA.ifBnf ?_ ?_); assumption) | ((first | refine WPA.ifBnt ?_ ?_ | refine WPA.ifBf ?_ ?_); assumption) | ((first | refine WPA.ifs ?_ ?_ | refine WPA.ifB ?_ ?_) <;> intro hc))
  exact QQ.end_ rfl () rfl fun w h => WrtR.fold.sl (h.to : SL w0 I (Bk W 118 [.slice s.a s.n s.cap] :: OwnS 5 s (bytesK t) :: L') w)
structure NS where
  v : Nat
  s : SV
  p : ByteArray
theorem WNum_tr {W n : Nat} {t : ByteArray} [h : FindK L WrtR W t L'] (hn : n ≤ 18446744073709551615) (hz : t.size ≤ 100000000000000) : Tr Tryz.prog 56 #[.pointer (some ⟨W, 0, none⟩), .int .u64 (n : Int)] (SL w0 I L) (fun _ : Unit => .tuple #[]) (fun _ => SL w0 I (WrtR W (t ++ vS n) :: L')) := by
  refine Tr.at h.out (Tr.opn fun s => ?_)
  refine Tr.intro Tryz.func56 rfl Tryz.ntmps56 rfl ?_
  have hvs := vS_size hn
  repeat' (first | ((first | refine WLA.m rfl rfl ?_ ?_ | refine WLA.st rfl ?_ ?_ | refine WLA.x rfl rfl ?_ (fun x => ?_) | refine WLA.x0 rfl ?_ (fun x => ?_)); first | exact trivial | exact rfl | assumption | omega | (refine ⟨?_, ?_⟩ <;> omega) | (simp only [Room, lenS]; omega) | decide | skip) | (refine Stp.go ?_) | (refine WPA.ifT ?_) | (refine WPA.ifF ?_) | ((first | refine WPA.dec ?_); first | refine .inl ⟨by first | assumption | omega | with_reducible rfl | (refine fun h => h ?_; first | assumption | with_reducible rfl) | (simp only [lenS] <;> omega) | decide, ?_⟩ | refine .inr ⟨by first | assumption | omega | with_reducible rfl | (refine fun h => h ?_; first | assumption | with_reducible rfl) | (simp only [lenS] <;> omega) | decide, ?_⟩) | ((first | refine WPA.ifBt ?_ ?_ | refine WPA.ifBnf ?_ ?_); assumption) | ((first | refine WPA.ifBnt ?_ ?_ | refine WPA.ifBf ?_ ?_); assumption) | ((first | refine WPA.ifs ?_ ?_ | refine WPA.ifB ?_ ?_) <;> intro hc))
  refine WPA.loopS (σ := NS) (fun y => [(0, .pointer (some ⟨W, 0, none⟩)), (1, .int .u64 (y.v : Int))]) (fun y => y.v ≤ 18446744073709551615 ∧ y.p ++ vS y.v = vS n)
    (fun y => SL w0 I (Bk W 118 [.slice y.s.a y.s.n y.s.cap] :: OwnS 5 y.s (bytesK (t ++ y.p)) :: L')) (fun y => y.v) ⟨n, s, ⟨#[]⟩⟩ ⟨rfl, rfl, trivial⟩ ⟨hn, bnil_app _⟩ (fun w h => ?_) ?_
  · show SL w0 I (Bk W 118 [.slice s.a s.n s.cap] :: OwnS 5 s (bytesK (t ++ ⟨#[]⟩)) :: L') w
    rw [app_bnil]
    exact h.to
  rintro ⟨v, s, p⟩ ρ ⟨hv, hp⟩
  dsimp only at hv hp ⊢
  have hpl : p.size ≤ 10 := by
    have := congrArg ByteArray.size hp
    rw [ByteArray.size_append] at this; omega
  have hbl : (bytesK (t ++ p)).length = t.size + p.size := by rw [bytesK_len, ByteArray.size_append]
  have hroom : Room ((bytesK (t ++ p)).length + 1) 1 := ⟨by omega, by omega⟩
  by_cases h1 : v < 128
  · have h1' : ¬ (128 : Int) ≤ v := by omega
    have hb : (0 : Int) ≤ v ∧ (v : Int) ≤ 255 := by omega
    repeat' (first | ((first | refine WLA.m rfl rfl ?_ ?_ | refine WLA.st rfl ?_ ?_ | refine WLA.x rfl rfl ?_ (fun x => ?_) | refine WLA.x0 rfl ?_ (fun x => ?_)); first | exact trivial | exact rfl | assumption | omega | (refine ⟨?_, ?_⟩ <;> omega) | (simp only [Room, lenS]; omega) | decide | skip) | (refine Stp.go ?_) | (refine WPA.ifT ?_) | (refine WPA.ifF ?_) | ((first | refine WPA.dec ?_); first | refine .inl ⟨by first | assumption | omega | with_reducible rfl | (refine fun h => h ?_; first | assumption | with_reducible rfl) | (simp only [lenS] <;> omega) | decide, ?_⟩ | refine .inr ⟨by first | assumption | omega | with_reducible rfl | (refine fun h => h ?_; first | assumption | with_reducible rfl) | (simp only [lenS] <;> omega) | decide, ?_⟩) | ((first | refine WPA.ifBt ?_ ?_ | refine WPA.ifBnf ?_ ?_); assumption) | ((first | refine WPA.ifBnt ?_ ?_ | refine WPA.ifBf ?_ ?_); assumption) | ((first | refine WPA.ifs ?_ ?_ | refine WPA.ifB ?_ ?_) <;> intro hc))
    refine QQ.endn rfl () rfl fun w h => ?_
    have e : bytesK (t ++ vS n) = bytesK (t ++ p) ++ [toK .u8 (v : Int)] := by
      rw [← hp, vS_lt h1, ← ByteArray.append_assoc, bytesK_append, bytesK_one (by omega)]
    have h2 : SL w0 I (Bk W 118 [.slice x.a x.n x.cap] :: OwnS 5 x (bytesK (t ++ vS n)) :: L') w := by rw [e]; exact h.to
    exact WrtR.fold.sl h2
  · have h1' : (128 : Int) ≤ v := by omega
    have eo : Go.bits .or .u8 (IntKind.u8.wrap (v : Int)) 128 = ((v % 128 + 128 : Nat) : Int) := by
      have e1 : IntKind.u8.wrap (v : Int) = ((v % 256 : Nat) : Int) := by simp only [IntKind.wrap, IntKind.bits, IntKind.signed]; simp
      rw [e1, or_u8 _ (by omega)]; omega
    have es : ((v : Int)).fdiv (2 ^ Int.toNat 7) = ((v / 128 : Nat) : Int) := by rw [Int.fdiv_eq_ediv_of_nonneg _ (by decide)]; show (v : Int) / 128 = _; omega
    have hsh : (0 : Int) ≤ 7 ∧ (7 : Int) ≤ (IntKind.u64.bits : Nat) := by decide
    repeat' (first | (guard_target =~ WLA _ _ _ _ _ (⟨_, .convert _ _ _, _, _, _, _⟩ :: _) _ _; refine WLA.m (h := convW) rfl rfl trivial ?_) | (guard_target =~ WDQ _ _ _ _ _ _ _ ⟨_, .convert _ _ _, _, _, _, _⟩ _ _ _; refine WDQ.m (h := convW) rfl rfl trivial ?_) | (guard_target =~ WDP _ _ _ _ _ _ _ ⟨_, .convert _ _ _, _, _, _, _⟩ _ _ _; refine WDP.m (h := convW) rfl rfl trivial ?_) | ((rw [eo])) | ((rw [es])) | ((first | refine WLA.m rfl rfl ?_ ?_ | refine WLA.st rfl ?_ ?_ | refine WLA.x rfl rfl ?_ (fun x => ?_) | refine WLA.x0 rfl ?_ (fun x => ?_)); first | exact trivial | exact rfl | assumption | omega | (refine ⟨?_, ?_⟩ <;> omega) | (simp only [Room, lenS]; omega) | decide | skip) | (refine Stp.go ?_) | (refine WPA.ifT ?_) | (refine WPA.ifF ?_) | ((first | refine WPA.dec ?_); first | refine .inl ⟨by first | assumption | omega | with_reducible rfl | (refine fun h => h ?_; first | assumption | with_reducible rfl) | (simp only [lenS] <;> omega) | decide, ?_⟩ | refine .inr ⟨by first | assumption | omega | with_reducible rfl | (refine fun h => h ?_; first | assumption | with_reducible rfl) | (simp only [lenS] <;> omega) | decide, ?_⟩) | ((first | refine WPA.ifBt ?_ ?_ | refine WPA.ifBnf ?_ ?_); assumption) | ((first | refine WPA.ifBnt ?_ ?_ | refine WPA.ifBf ?_ ?_); assumption) | ((first | refine WPA.ifs ?_ ?_ | refine WPA.ifB ?_ ?_) <;> intro hc))
    refine QQ.loopS ⟨v / 128, x, p ++ ⟨#[UInt8.ofNat (v % 128 + 128)]⟩⟩ ⟨rfl, rfl, trivial⟩ ⟨by dsimp only; omega, ?_⟩ (by dsimp only; omega) (fun w h => ?_)
    · dsimp only
      rw [ByteArray.append_assoc, ← vS_ge h1, hp]
    · have e : bytesK (t ++ (p ++ ⟨#[UInt8.ofNat (v % 128 + 128)]⟩)) = bytesK (t ++ p) ++ [toK .u8 ((v % 128 + 128 : Nat) : Int)] := by
        rw [← ByteArray.append_assoc, bytesK_append, bytesK_one (by omega)]
      dsimp only
      rw [e]
      exact h.to
end
end Go.Proofs.YtamnobjdgjbmbaaGreat
namespace Go.Proofs.YtamnobjdgjbmbaaGreat
open Go Go.Fw Go.RowKit
set_option linter.unusedVariables false
set_option linter.unusedSimpArgs false
set_option maxRecDepth 100000
set_option maxHeartbeats 16000000
set_option synthInstance.maxHeartbeats 200000
set_option synthInstance.maxSize 100000
attribute [local irreducible] WPA WLA WDA WDQ WDE QQ seqQ blockQ loopQ fnQ OpP OpT Tr TrP SL SLd OwnS LitS Bk BkE Ob
attribute [local irreducible] vS keyS
def fstN (f : Nat → Int) : Nat → Int
  | 0 => 0
  | n + 1 => if fstN f n ≠ 0 then fstN f n else f n
theorem fstN_succ {f : Nat → Int} {n : Nat} (h : fstN f n = 0) : fstN f (n + 1) = f n := by rw [fstN, if_neg (fun k => k h)]
theorem fstN_here {f : Nat → Int} {i : Nat} (h : fstN f i = 0) (hi : f i ≠ 0) : ∀ n, i < n → fstN f n = f i
  | 0, h2 => by omega
  | n + 1, h2 => by
    by_cases e : n = i
    · subst e; exact fstN_succ h
    · rw [fstN, fstN_here h hi n (by omega), if_pos hi]
theorem fstN_zero {f : Nat → Int} : ∀ {n : Nat}, fstN f n = 0 → ∀ i, i < n → f i = 0
  | n + 1, h, i, hi => by
    unfold fstN at h
    by_cases h0 : fstN f n = 0
    · rw [if_neg (fun k => k h0)] at h
      by_cases e : i = n
      · rw [e]; exact h
      · exact fstN_zero h0 i (by omega)
    · rw [if_pos h0] at h; exact absurd h h0
abbrev Pe := SV × Int
def ctP (kg : SV → List Int) (p : Pe) : Ct := (kg p.1, p.2)
def chk1 (n : Int) (pl : Option (List Int)) (g : List Int) (N : Int) : Int :=
  if (g.length : Int) ≠ n then 1 else if ¬ okKey g then 8 else if N < 1 ∨ 1099511627776 < N then 8 else if 0 ≤ (pl.map fun l => cmpL l g).getD (-1) then 9 else 0
def prvG (ms : List Ct) (i : Nat) : Option (List Int) := if i = 0 then none else some (ms.getD (i - 1) ([], 0)).1
def wrE (o : Int) (ms : List Ct) (i : Nat) : Int := chk1 o (prvG ms i) (ms.getD i ([], 0)).1 (ms.getD i ([], 0)).2
def wrong (o : Int) (ms : List Ct) : Int := if o < 1 ∨ 8 < o then 1 else fstN (wrE o ms) ms.length
def byS (ms : List Ct) : ByteArray := ms.foldl (fun t m => t ++ keyS m.1 ++ vS m.2.toNat) ⟨#[]⟩
theorem byS_snoc (ms : List Ct) (m : Ct) : byS (ms ++ [m]) = byS ms ++ keyS m.1 ++ vS m.2.toNat := by unfold byS; rw [List.foldl_append]; rfl
theorem byS_len {o : Int} : ∀ (n : Nat) {ms : List Ct}, ms.length = n → (∀ m ∈ ms, (m.1.length : Int) ≤ 1000 ∧ m.2 ≤ 1099511627776) → (byS ms).size ≤ 3010 * n
  | 0, ms, h, _ => by rw [List.eq_nil_of_length_eq_zero h]; exact Nat.le_refl 0
  | n + 1, ms, h, hm => by
    have hne : ms ≠ [] := by intro e; rw [e] at h; simp at h
    have e : ms = ms.dropLast ++ [ms.getLast hne] := (List.dropLast_concat_getLast hne).symm
    have ih := byS_len (o := o) n (ms := ms.dropLast) (by rw [List.length_dropLast, h]; rfl) fun m h => hm m (List.dropLast_subset ms h)
    obtain ⟨h1, h2⟩ := hm _ (List.getLast_mem hne)
    have hv := vS_size (n := (ms.getLast hne).2.toNat) (by omega)
    have hk := keyS_size (ms.getLast hne).1
    rw [e, byS_snoc, ByteArray.size_append, ByteArray.size_append]; omega
theorem fstN_ext {f g : Nat → Int} : ∀ {n : Nat}, (∀ i, i < n → f i = g i) → fstN f n = fstN g n
  | 0, _ => rfl
  | n + 1, h => by unfold fstN; rw [fstN_ext (n := n) fun i hi => h i (by omega), h n (by omega)]
theorem ct_at {kg : SV → List Int} {ps : List Pe} {i : Nat} (hi : i < ps.length) : (ps.map (ctP kg)).getD i ([], 0) = (kg (at_ ps (i : Int)).1, (at_ ps (i : Int)).2) := by
  rw [List.getD_eq_getElem?_getD, List.getElem?_map, List.getElem?_eq_getElem hi, at_nat ps i hi]; rfl
theorem ct_take {kg : SV → List Int} {ps : List Pe} {i : Nat} (hi : i < ps.length) : (ps.map (ctP kg)).take (i + 1) = (ps.map (ctP kg)).take i ++ [(kg (at_ ps (i : Int)).1, (at_ ps (i : Int)).2)] := by
  rw [List.take_add_one, List.getElem?_map, List.getElem?_eq_getElem hi, at_nat ps i hi]; rfl
section
variable {kg : SV → List Int} {L : List HP} {w0 : World} {I : Foot}
theorem order_tr {n : Int} : TrP Tryz.prog 48 #[.int .i64 n] (SL w0 I L) (.bool (decide (1 ≤ n ∧ n ≤ 8))) := by
  refine TrP.ofD fun u => Tr.intro Tryz.func48 rfl Tryz.ntmps48 rfl ?_
  by_cases h1 : 1 ≤ n
  · by_cases h2 : n ≤ 8
    · skip
      repeat' (first | ((first | refine WLA.m rfl rfl ?_ ?_ | refine WLA.st rfl ?_ ?_ | refine WLA.x rfl rfl ?_ (fun x => ?_) | refine WLA.x0 rfl ?_ (fun x => ?_)); first | exact trivial | exact rfl | assumption | omega | (refine ⟨?_, ?_⟩ <;> omega) | (simp only [Room, lenS]; omega) | decide | skip) | (refine Stp.go ?_) | (refine WPA.ifT ?_) | (refine WPA.ifF ?_) | (refine WLA.no rfl rfl ?_) | ((first | refine WPA.dec ?_ | ((fail_if_success (guard_target =~ WLA _ _ _ _ _ _ (put1 _ _ (.bool true)) _)); (fail_if_success (guard_target =~ WLA _ _ _ _ _ _ (put1 _ _ (.bool false)) _)); refine WLA.dec rfl rfl ?_) | refine WLA.pk ?_); first | refine .inl ⟨by first | assumption | omega | with_reducible rfl | (refine fun h => h ?_; first | assumption | with_reducible rfl) | (simp only [lenS] <;> omega) | decide, ?_⟩ | refine .inr ⟨by first | assumption | omega | with_reducible rfl | (refine fun h => h ?_; first | assumption | with_reducible rfl) | (simp only [lenS] <;> omega) | decide, ?_⟩) | ((first | refine WPA.ifBt ?_ ?_ | refine WPA.ifBnf ?_ ?_); assumption) | ((first | refine WPA.ifBnt ?_ ?_ | refine WPA.ifBf ?_ ?_); assumption) | ((first | refine WPA.ifs ?_ ?_ | refine WPA.ifB ?_ ?_) <;> intro hc) | ((fail_if_success (guard_target =~ WLA _ _ _ _ _ _ (put1 _ _ (.bool true)) _)); (fail_if_success (guard_target =~ WLA _ _ _ _ _ _ (put1 _ _ (.bool false)) _)); (first | refine WLA.both rfl rfl ?_ ?_ | refine WLA.bothB rfl rfl ?_ ?_) <;> intro hg))
      exact QQ.end_ rfl () (congrArg Value.bool (decide_eq_decide.2 ⟨fun h => ⟨h1, h⟩, fun h => h.2⟩)) fun w h => h
    · skip
      repeat' (first | ((first | refine WLA.m rfl rfl ?_ ?_ | refine WLA.st rfl ?_ ?_ | refine WLA.x rfl rfl ?_ (fun x => ?_) | refine WLA.x0 rfl ?_ (fun x => ?_)); first | exact trivial | exact rfl | assumption | omega | (refine ⟨?_, ?_⟩ <;> omega) | (simp only [Room, lenS]; omega) | decide | skip) | (refine Stp.go ?_) | (refine WPA.ifT ?_) | (refine WPA.ifF ?_) | (refine WLA.no rfl rfl ?_) | ((first | refine WPA.dec ?_ | ((fail_if_success (guard_target =~ WLA _ _ _ _ _ _ (put1 _ _ (.bool true)) _)); (fail_if_success (guard_target =~ WLA _ _ _ _ _ _ (put1 _ _ (.bool false)) _)); refine WLA.dec rfl rfl ?_) | refine WLA.pk ?_); first | refine .inl ⟨by first | assumption | omega | with_reducible rfl | (refine fun h => h ?_; first | assumption | with_reducible rfl) | (simp only [lenS] <;> omega) | decide, ?_⟩ | refine .inr ⟨by first | assumption | omega | with_reducible rfl | (refine fun h => h ?_; first | assumption | with_reducible rfl) | (simp only [lenS] <;> omega) | decide, ?_⟩) | ((first | refine WPA.ifBt ?_ ?_ | refine WPA.ifBnf ?_ ?_); assumption) | ((first | refine WPA.ifBnt ?_ ?_ | refine WPA.ifBf ?_ ?_); assumption) | ((first | refine WPA.ifs ?_ ?_ | refine WPA.ifB ?_ ?_) <;> intro hc) | ((fail_if_success (guard_target =~ WLA _ _ _ _ _ _ (put1 _ _ (.bool true)) _)); (fail_if_success (guard_target =~ WLA _ _ _ _ _ _ (put1 _ _ (.bool false)) _)); (first | refine WLA.both rfl rfl ?_ ?_ | refine WLA.bothB rfl rfl ?_ ?_) <;> intro hg))
      exact QQ.end_ rfl () (congrArg Value.bool (decide_eq_decide.2 ⟨fun h => ⟨h1, h⟩, fun h => h.2⟩)) fun w h => h
  · skip
    repeat' (first | ((first | refine WLA.m rfl rfl ?_ ?_ | refine WLA.st rfl ?_ ?_ | refine WLA.x rfl rfl ?_ (fun x => ?_) | refine WLA.x0 rfl ?_ (fun x => ?_)); first | exact trivial | exact rfl | assumption | omega | (refine ⟨?_, ?_⟩ <;> omega) | (simp only [Room, lenS]; omega) | decide | skip) | (refine Stp.go ?_) | (refine WPA.ifT ?_) | (refine WPA.ifF ?_) | (refine WLA.no rfl rfl ?_) | ((first | refine WPA.dec ?_ | ((fail_if_success (guard_target =~ WLA _ _ _ _ _ _ (put1 _ _ (.bool true)) _)); (fail_if_success (guard_target =~ WLA _ _ _ _ _ _ (put1 _ _ (.bool false)) _)); refine WLA.dec rfl rfl ?_) | refine WLA.pk ?_); first | refine .inl ⟨by first | assumption | omega | with_reducible rfl | (refine fun h => h ?_; first | assumption | with_reducible rfl) | (simp only [lenS] <;> omega) | decide, ?_⟩ | refine .inr ⟨by first | assumption | omega | with_reducible rfl | (refine fun h => h ?_; first | assumption | with_reducible rfl) | (simp only [lenS] <;> omega) | decide, ?_⟩) | ((first | refine WPA.ifBt ?_ ?_ | refine WPA.ifBnf ?_ ?_); assumption) | ((first | refine WPA.ifBnt ?_ ?_ | refine WPA.ifBf ?_ ?_); assumption) | ((first | refine WPA.ifs ?_ ?_ | refine WPA.ifB ?_ ?_) <;> intro hc) | ((fail_if_success (guard_target =~ WLA _ _ _ _ _ _ (put1 _ _ (.bool true)) _)); (fail_if_success (guard_target =~ WLA _ _ _ _ _ _ (put1 _ _ (.bool false)) _)); (first | refine WLA.both rfl rfl ?_ ?_ | refine WLA.bothB rfl rfl ?_ ?_) <;> intro hg))
    exact QQ.end_ rfl () (congrArg Value.bool (decide_eq_false fun h => h1 h.1).symm) fun w h => h
theorem rchk_tr {n N : Int} {ls gs : SV} {g : List Int} {pl : Option (List Int)} {k : ByteArray} {e : Int} (hg : SlI I gs Int inferInstance g) (hl : (ls.a = none ∧ pl = none) ∨ ∃ l : List Int, ls.a ≠ none ∧ SlI I ls Int inferInstance l ∧ l.length ≤ 1000000 ∧ pl = some l) (hn : g.length ≤ 1000000)
    (he : e = chk1 n pl g N) (hk : k = if e = 0 then keyS g else ⟨#[]⟩) :
    Tr Tryz.prog 54 #[.int .i64 n, .slice ls.a ls.n ls.cap, .agg #[.slice gs.a gs.n gs.cap, .int .i64 N]] (SL w0 I L) (fun _ : Unit => .tuple #[.string k, .int .i64 e]) (fun _ => SL w0 I L) := by
  refine Tr.intro Tryz.func54 rfl Tryz.ntmps54 rfl ?_
  have hn9 : g.length ≤ 1000000000 := by omega
  unfold chk1 at he
  by_cases h1 : (g.length : Int) ≠ n
  · rw [if_pos h1] at he
    subst he
    rw [if_neg (by decide)] at hk
    subst hk
    repeat' (first | ((first | refine WLA.m rfl rfl ?_ ?_ | refine WLA.st rfl ?_ ?_ | refine WLA.x rfl rfl ?_ (fun x => ?_) | refine WLA.x0 rfl ?_ (fun x => ?_)); first | exact trivial | exact rfl | assumption | omega | (refine ⟨?_, ?_⟩ <;> omega) | (simp only [Room, lenS]; omega) | decide | skip) | (refine Stp.go ?_) | (refine WPA.ifT ?_) | (refine WPA.ifF ?_) | ((first | refine WPA.dec ?_); first | refine .inl ⟨by first | assumption | omega | with_reducible rfl | (refine fun h => h ?_; first | assumption | with_reducible rfl) | (simp only [lenS] <;> omega) | decide, ?_⟩ | refine .inr ⟨by first | assumption | omega | with_reducible rfl | (refine fun h => h ?_; first | assumption | with_reducible rfl) | (simp only [lenS] <;> omega) | decide, ?_⟩) | ((first | refine WPA.ifBt ?_ ?_ | refine WPA.ifBnf ?_ ?_); assumption) | ((first | refine WPA.ifBnt ?_ ?_ | refine WPA.ifBf ?_ ?_); assumption) | ((first | refine WPA.ifs ?_ ?_ | refine WPA.ifB ?_ ?_) <;> intro hc))
    exact QQ.end_ rfl () rfl fun w h => h.to
  rw [if_neg h1] at he
  by_cases h2 : ¬ okKey g
  · rw [if_pos h2] at he
    subst he
    rw [if_neg (by decide)] at hk
    subst hk
    repeat' (first | ((first | refine WLA.m rfl rfl ?_ ?_ | refine WLA.st rfl ?_ ?_ | refine WLA.x rfl rfl ?_ (fun x => ?_) | refine WLA.x0 rfl ?_ (fun x => ?_)); first | exact trivial | exact rfl | assumption | omega | (refine ⟨?_, ?_⟩ <;> omega) | (simp only [Room, lenS]; omega) | decide | skip) | (refine Stp.go ?_) | (guard_target =~ WLA _ _ _ _ _ (⟨_, .call ⟨.value (.func 84), _, _⟩, _, _, _, _⟩ :: _) _ _; refine WLA.call rfl rfl (gKey_tr hn (.inr ⟨h2, rfl, rfl⟩)) ?_; rintro ⟨⟩) | (refine WPA.ifT ?_) | (refine WPA.ifF ?_) | ((first | refine WPA.dec ?_); first | refine .inl ⟨by first | assumption | omega | with_reducible rfl | (refine fun h => h ?_; first | assumption | with_reducible rfl) | (simp only [lenS] <;> omega) | decide, ?_⟩ | refine .inr ⟨by first | assumption | omega | with_reducible rfl | (refine fun h => h ?_; first | assumption | with_reducible rfl) | (simp only [lenS] <;> omega) | decide, ?_⟩) | ((first | refine WPA.ifBt ?_ ?_ | refine WPA.ifBnf ?_ ?_); assumption) | ((first | refine WPA.ifBnt ?_ ?_ | refine WPA.ifBf ?_ ?_); assumption) | ((first | refine WPA.ifs ?_ ?_ | refine WPA.ifB ?_ ?_) <;> intro hc))
    exact QQ.end_ rfl () rfl fun w h => h.to
  rw [if_neg h2] at he
  have h2' := Classical.byContradiction h2
  have hK : ∀ {L : List HP}, Tr Tryz.prog 84 #[.slice gs.a gs.n gs.cap] (SL w0 I L) (fun _ : Unit => .tuple #[.string (keyS g), .int .i64 0]) (fun _ => SL w0 I L) := fun {L} => gKey_tr hn (.inl ⟨h2', rfl, rfl⟩)
  by_cases h3 : N < 1 ∨ 1099511627776 < N
  · rw [if_pos h3] at he
    subst he
    rw [if_neg (by decide)] at hk
    subst hk
    by_cases h4 : N < 1
    · skip
      repeat' (first | ((first | refine WLA.m rfl rfl ?_ ?_ | refine WLA.st rfl ?_ ?_ | refine WLA.x rfl rfl ?_ (fun x => ?_) | refine WLA.x0 rfl ?_ (fun x => ?_)); first | exact trivial | exact rfl | assumption | omega | (refine ⟨?_, ?_⟩ <;> omega) | (simp only [Room, lenS]; omega) | decide | skip) | (refine Stp.go ?_) | (guard_target =~ WLA _ _ _ _ _ (⟨_, .call ⟨.value (.func 84), _, _⟩, _, _, _, _⟩ :: _) _ _; refine WLA.call rfl rfl (hK) ?_; rintro ⟨⟩) | (refine WPA.ifT ?_) | (refine WPA.ifF ?_) | (refine WLA.no rfl rfl ?_) | ((first | refine WPA.dec ?_ | ((fail_if_success (guard_target =~ WLA _ _ _ _ _ _ (put1 _ _ (.bool true)) _)); (fail_if_success (guard_target =~ WLA _ _ _ _ _ _ (put1 _ _ (.bool false)) _)); refine WLA.dec rfl rfl ?_) | refine WLA.pk ?_); first | refine .inl ⟨by first | assumption | omega | with_reducible rfl | (refine fun h => h ?_; first | assumption | with_reducible rfl) | (simp only [lenS] <;> omega) | decide, ?_⟩ | refine .inr ⟨by first | assumption | omega | with_reducible rfl | (refine fun h => h ?_; first | assumption | with_reducible rfl) | (simp only [lenS] <;> omega) | decide, ?_⟩) | ((first | refine WPA.ifBt ?_ ?_ | refine WPA.ifBnf ?_ ?_); assumption) | ((first | refine WPA.ifBnt ?_ ?_ | refine WPA.ifBf ?_ ?_); assumption) | ((first | refine WPA.ifs ?_ ?_ | refine WPA.ifB ?_ ?_) <;> intro hc) | ((fail_if_success (guard_target =~ WLA _ _ _ _ _ _ (put1 _ _ (.bool true)) _)); (fail_if_success (guard_target =~ WLA _ _ _ _ _ _ (put1 _ _ (.bool false)) _)); (first | refine WLA.both rfl rfl ?_ ?_ | refine WLA.bothB rfl rfl ?_ ?_) <;> intro hg))
      exact QQ.end_ rfl () rfl fun w h => h.to
    · have h5 : 1099511627776 < N := h3.resolve_left h4
      repeat' (first | ((first | refine WLA.m rfl rfl ?_ ?_ | refine WLA.st rfl ?_ ?_ | refine WLA.x rfl rfl ?_ (fun x => ?_) | refine WLA.x0 rfl ?_ (fun x => ?_)); first | exact trivial | exact rfl | assumption | omega | (refine ⟨?_, ?_⟩ <;> omega) | (simp only [Room, lenS]; omega) | decide | skip) | (refine Stp.go ?_) | (guard_target =~ WLA _ _ _ _ _ (⟨_, .call ⟨.value (.func 84), _, _⟩, _, _, _, _⟩ :: _) _ _; refine WLA.call rfl rfl (hK) ?_; rintro ⟨⟩) | (refine WPA.ifT ?_) | (refine WPA.ifF ?_) | (refine WLA.no rfl rfl ?_) | ((first | refine WPA.dec ?_ | ((fail_if_success (guard_target =~ WLA _ _ _ _ _ _ (put1 _ _ (.bool true)) _)); (fail_if_success (guard_target =~ WLA _ _ _ _ _ _ (put1 _ _ (.bool false)) _)); refine WLA.dec rfl rfl ?_) | refine WLA.pk ?_); first | refine .inl ⟨by first | assumption | omega | with_reducible rfl | (refine fun h => h ?_; first | assumption | with_reducible rfl) | (simp only [lenS] <;> omega) | decide, ?_⟩ | refine .inr ⟨by first | assumption | omega | with_reducible rfl | (refine fun h => h ?_; first | assumption | with_reducible rfl) | (simp only [lenS] <;> omega) | decide, ?_⟩) | ((first | refine WPA.ifBt ?_ ?_ | refine WPA.ifBnf ?_ ?_); assumption) | ((first | refine WPA.ifBnt ?_ ?_ | refine WPA.ifBf ?_ ?_); assumption) | ((first | refine WPA.ifs ?_ ?_ | refine WPA.ifB ?_ ?_) <;> intro hc) | ((fail_if_success (guard_target =~ WLA _ _ _ _ _ _ (put1 _ _ (.bool true)) _)); (fail_if_success (guard_target =~ WLA _ _ _ _ _ _ (put1 _ _ (.bool false)) _)); (first | refine WLA.both rfl rfl ?_ ?_ | refine WLA.bothB rfl rfl ?_ ?_) <;> intro hg))
      exact QQ.end_ rfl () rfl fun w h => h.to
  rw [if_neg h3] at he
  have h4 : ¬ N < 1 := fun h => h3 (.inl h)
  have h5 : ¬ 1099511627776 < N := fun h => h3 (.inr h)
  rcases hl with ⟨ha, rfl⟩ | ⟨l, ha, hls, hll, rfl⟩
  · have hna : (!ls.a.isNone) = false := by rw [ha]; rfl
    change e = if (0 : Int) ≤ -1 then 9 else 0 at he
    rw [if_neg (by decide)] at he
    subst he
    rw [if_pos rfl] at hk
    subst hk
    repeat' (first | ((rw [hna])) | ((first | refine WLA.m rfl rfl ?_ ?_ | refine WLA.st rfl ?_ ?_ | refine WLA.x rfl rfl ?_ (fun x => ?_) | refine WLA.x0 rfl ?_ (fun x => ?_)); first | exact trivial | exact rfl | assumption | omega | (refine ⟨?_, ?_⟩ <;> omega) | (simp only [Room, lenS]; omega) | decide | skip) | (refine Stp.go ?_) | (guard_target =~ WLA _ _ _ _ _ (⟨_, .call ⟨.value (.func 84), _, _⟩, _, _, _, _⟩ :: _) _ _; refine WLA.call rfl rfl (hK) ?_; rintro ⟨⟩) | (refine WPA.ifT ?_) | (refine WPA.ifF ?_) | (refine WLA.no rfl rfl ?_) | ((first | refine WPA.dec ?_ | ((fail_if_success (guard_target =~ WLA _ _ _ _ _ _ (put1 _ _ (.bool true)) _)); (fail_if_success (guard_target =~ WLA _ _ _ _ _ _ (put1 _ _ (.bool false)) _)); refine WLA.dec rfl rfl ?_) | refine WLA.pk ?_); first | refine .inl ⟨by first | assumption | omega | with_reducible rfl | (refine fun h => h ?_; first | assumption | with_reducible rfl) | (simp only [lenS] <;> omega) | decide, ?_⟩ | refine .inr ⟨by first | assumption | omega | with_reducible rfl | (refine fun h => h ?_; first | assumption | with_reducible rfl) | (simp only [lenS] <;> omega) | decide, ?_⟩) | ((first | refine WPA.ifBt ?_ ?_ | refine WPA.ifBnf ?_ ?_); assumption) | ((first | refine WPA.ifBnt ?_ ?_ | refine WPA.ifBf ?_ ?_); assumption) | ((first | refine WPA.ifs ?_ ?_ | refine WPA.ifB ?_ ?_) <;> intro hc) | ((fail_if_success (guard_target =~ WLA _ _ _ _ _ _ (put1 _ _ (.bool true)) _)); (fail_if_success (guard_target =~ WLA _ _ _ _ _ _ (put1 _ _ (.bool false)) _)); (first | refine WLA.both rfl rfl ?_ ?_ | refine WLA.bothB rfl rfl ?_ ?_) <;> intro hg))
    exact QQ.end_ rfl () rfl fun w h => h.to
  · have hna : (!ls.a.isNone) = true := by cases h : ls.a with | none => exact absurd h ha | some a => rfl
    have hl9 : l.length ≤ 1000000000 := by omega
    by_cases h6 : 0 ≤ cmpL l g
    · rw [if_pos (by exact h6)] at he
      subst he
      rw [if_neg (by decide)] at hk
      subst hk
      repeat' (first | ((rw [hna])) | ((first | refine WLA.m rfl rfl ?_ ?_ | refine WLA.st rfl ?_ ?_ | refine WLA.x rfl rfl ?_ (fun x => ?_) | refine WLA.x0 rfl ?_ (fun x => ?_)); first | exact trivial | exact rfl | assumption | omega | (refine ⟨?_, ?_⟩ <;> omega) | (simp only [Room, lenS]; omega) | decide | skip) | (refine Stp.go ?_) | (guard_target =~ WLA _ _ _ _ _ (⟨_, .call ⟨.value (.func 84), _, _⟩, _, _, _, _⟩ :: _) _ _; refine WLA.call rfl rfl (hK) ?_; rintro ⟨⟩) | (guard_target =~ WLA _ _ _ _ _ (⟨_, .call ⟨.value (.func 85), _, _⟩, _, _, _, _⟩ :: _) _ _; refine WLA.cq rfl rfl (gCompare_tr hl9 hn9) ?_) | (refine WPA.ifT ?_) | (refine WPA.ifF ?_) | (refine WLA.no rfl rfl ?_) | ((first | refine WPA.dec ?_ | ((fail_if_success (guard_target =~ WLA _ _ _ _ _ _ (put1 _ _ (.bool true)) _)); (fail_if_success (guard_target =~ WLA _ _ _ _ _ _ (put1 _ _ (.bool false)) _)); refine WLA.dec rfl rfl ?_) | refine WLA.pk ?_); first | refine .inl ⟨by first | assumption | omega | with_reducible rfl | (refine fun h => h ?_; first | assumption | with_reducible rfl) | (simp only [lenS] <;> omega) | decide, ?_⟩ | refine .inr ⟨by first | assumption | omega | with_reducible rfl | (refine fun h => h ?_; first | assumption | with_reducible rfl) | (simp only [lenS] <;> omega) | decide, ?_⟩) | ((first | refine WPA.ifBt ?_ ?_ | refine WPA.ifBnf ?_ ?_); assumption) | ((first | refine WPA.ifBnt ?_ ?_ | refine WPA.ifBf ?_ ?_); assumption) | ((first | refine WPA.ifs ?_ ?_ | refine WPA.ifB ?_ ?_) <;> intro hc) | ((fail_if_success (guard_target =~ WLA _ _ _ _ _ _ (put1 _ _ (.bool true)) _)); (fail_if_success (guard_target =~ WLA _ _ _ _ _ _ (put1 _ _ (.bool false)) _)); (first | refine WLA.both rfl rfl ?_ ?_ | refine WLA.bothB rfl rfl ?_ ?_) <;> intro hg))
      exact QQ.end_ rfl () rfl fun w h => h.to
    · rw [if_neg (by exact h6)] at he
      subst he
      rw [if_pos rfl] at hk
      subst hk
      repeat' (first | ((rw [hna])) | ((first | refine WLA.m rfl rfl ?_ ?_ | refine WLA.st rfl ?_ ?_ | refine WLA.x rfl rfl ?_ (fun x => ?_) | refine WLA.x0 rfl ?_ (fun x => ?_)); first | exact trivial | exact rfl | assumption | omega | (refine ⟨?_, ?_⟩ <;> omega) | (simp only [Room, lenS]; omega) | decide | skip) | (refine Stp.go ?_) | (guard_target =~ WLA _ _ _ _ _ (⟨_, .call ⟨.value (.func 84), _, _⟩, _, _, _, _⟩ :: _) _ _; refine WLA.call rfl rfl (hK) ?_; rintro ⟨⟩) | (guard_target =~ WLA _ _ _ _ _ (⟨_, .call ⟨.value (.func 85), _, _⟩, _, _, _, _⟩ :: _) _ _; refine WLA.cq rfl rfl (gCompare_tr hl9 hn9) ?_) | (refine WPA.ifT ?_) | (refine WPA.ifF ?_) | (refine WLA.no rfl rfl ?_) | ((first | refine WPA.dec ?_ | ((fail_if_success (guard_target =~ WLA _ _ _ _ _ _ (put1 _ _ (.bool true)) _)); (fail_if_success (guard_target =~ WLA _ _ _ _ _ _ (put1 _ _ (.bool false)) _)); refine WLA.dec rfl rfl ?_) | refine WLA.pk ?_); first | refine .inl ⟨by first | assumption | omega | with_reducible rfl | (refine fun h => h ?_; first | assumption | with_reducible rfl) | (simp only [lenS] <;> omega) | decide, ?_⟩ | refine .inr ⟨by first | assumption | omega | with_reducible rfl | (refine fun h => h ?_; first | assumption | with_reducible rfl) | (simp only [lenS] <;> omega) | decide, ?_⟩) | ((first | refine WPA.ifBt ?_ ?_ | refine WPA.ifBnf ?_ ?_); assumption) | ((first | refine WPA.ifBnt ?_ ?_ | refine WPA.ifBf ?_ ?_); assumption) | ((first | refine WPA.ifs ?_ ?_ | refine WPA.ifB ?_ ?_) <;> intro hc) | ((fail_if_success (guard_target =~ WLA _ _ _ _ _ _ (put1 _ _ (.bool true)) _)); (fail_if_success (guard_target =~ WLA _ _ _ _ _ _ (put1 _ _ (.bool false)) _)); (first | refine WLA.both rfl rfl ?_ ?_ | refine WLA.bothB rfl rfl ?_ ?_) <;> intro hg))
      exact QQ.end_ rfl () rfl fun w h => h.to
end
end Go.Proofs.YtamnobjdgjbmbaaGreat
namespace Go.Proofs.YtamnobjdgjbmbaaGreat
open Go Go.Fw Go.RowKit
set_option linter.unusedVariables false
set_option linter.unusedSimpArgs false
set_option maxRecDepth 100000
set_option maxHeartbeats 16000000
set_option synthInstance.maxHeartbeats 200000
set_option synthInstance.maxSize 100000
attribute [local irreducible] WPA WLA WDA WDQ WDE QQ seqQ blockQ loopQ fnQ OpP OpT Tr TrP SL SLd OwnS LitS Bk BkE Ob
abbrev Prt := SV × Bool
structure BS where
  size : Int
  most : Int
  tk : List Bool
  ts : List ByteArray
  low : Int
  used : Int
  peak : Int
def StoreR (S : Nat) (x : BS) : HP := exH fun q : SV × List Prt => pureH (q.2.map Prod.snd = x.tk ∧ x.tk.length = x.ts.length)
  (star (Bk S 93 [.int .i64 x.size, .int .i64 x.most, .slice q.1.a q.1.n q.1.cap, .int .i64 x.low, .int .i64 x.used, .int .i64 x.peak]) (star (OwnS 187 q.1 q.2) (BytesH 5 (q.2.map Prod.fst) x.ts)))
theorem StoreR.fold {S : Nat} {x : BS} {p : SV} {ps : List Prt} {L : List HP} (h1 : ps.map Prod.snd = x.tk) (h2 : x.tk.length = x.ts.length) :
    Ent (Bk S 93 [.int .i64 x.size, .int .i64 x.most, .slice p.a p.n p.cap, .int .i64 x.low, .int .i64 x.used, .int .i64 x.peak] :: OwnS 187 p ps :: BytesH 5 (ps.map Prod.fst) x.ts :: L) (StoreR S x :: L) :=
  Ent.ex (p, ps) (Ent.pure ⟨h1, h2⟩ (Ent.star (Ent.cons (Ent.star Ent.refl))))
instance {S : Nat} {x : BS} : Opn (StoreR S x) { q : SV × List Prt // q.2.map Prod.snd = x.tk ∧ x.tk.length = x.ts.length }
    (fun q L => Bk S 93 [.int .i64 x.size, .int .i64 x.most, .slice q.1.1.a q.1.1.n q.1.1.cap, .int .i64 x.low, .int .i64 x.used, .int .i64 x.peak] :: OwnS 187 q.1.1 q.1.2 :: BytesH 5 (q.1.2.map Prod.fst) x.ts :: L) := ⟨fun w0 I L w h => by
  obtain ⟨q, h⟩ := h.exH
  obtain ⟨hf, h⟩ := h.pureH
  exact ⟨⟨q, hf⟩, ((Ent.unstar).trans (Ent.cons Ent.unstar)).sl h⟩⟩
def Has (tk : List Bool) (id : Int) : Prop := (0 ≤ id ∧ id < tk.length) ∧ at_ tk id = true
instance (tk : List Bool) (id : Int) : Decidable (Has tk id) := inferInstanceAs (Decidable (_ ∧ _))
theorem at_map {ps : List Prt} {tk : List Bool} (h : ps.map Prod.snd = tk) (i : Int) : (at_ ps i).2 = at_ tk i := by
  subst h
  unfold at_
  rw [List.getD_eq_getElem?_getD, List.getD_eq_getElem?_getD, List.getElem?_map]
  cases ps[i.toNat]? <;> rfl
theorem New_tr {size most : Int} (w0 : World) (I : Foot) (L : List HP) (hs : 1 ≤ size ∧ size ≤ 65536) (hm : 1 ≤ most ∧ most ≤ 1048576) :
    Tr Tryz.prog 12 #[.int .i64 size, .int .i64 most] (SL w0 I L) (fun S : Nat => .tuple #[.pointer (some ⟨S, 0, none⟩), .int .i64 0]) (fun S => SL w0 I (StoreR S ⟨size, most, [], [], 0, 0, 0⟩ :: L)) := by
  refine Tr.intro Tryz.func12 rfl Tryz.ntmps12 rfl ?_
  have h1 : ¬ size < 1 := by omega
  have h2 : ¬ 65536 < size := by omega
  have h3 : ¬ most < 1 := by omega
  have h4 : ¬ 1048576 < most := by omega
  repeat' (first | ((first | refine WLA.m rfl rfl ?_ ?_ | refine WLA.st rfl ?_ ?_ | refine WLA.x rfl rfl ?_ (fun x => ?_) | refine WLA.x0 rfl ?_ (fun x => ?_)); first | exact trivial | exact rfl | assumption | omega | (refine ⟨?_, ?_⟩ <;> omega) | (simp only [Room, lenS]; omega) | decide | skip) | (refine Stp.go ?_) | (refine WPA.ifT ?_) | (refine WPA.ifF ?_) | (refine WLA.no rfl rfl ?_) | ((first | refine WPA.dec ?_ | ((fail_if_success (guard_target =~ WLA _ _ _ _ _ _ (put1 _ _ (.bool true)) _)); (fail_if_success (guard_target =~ WLA _ _ _ _ _ _ (put1 _ _ (.bool false)) _)); refine WLA.dec rfl rfl ?_) | refine WLA.pk ?_); first | refine .inl ⟨by first | assumption | omega | with_reducible rfl | (refine fun h => h ?_; first | assumption | with_reducible rfl) | (simp only [lenS] <;> omega) | decide, ?_⟩ | refine .inr ⟨by first | assumption | omega | with_reducible rfl | (refine fun h => h ?_; first | assumption | with_reducible rfl) | (simp only [lenS] <;> omega) | decide, ?_⟩) | ((first | refine WPA.ifBt ?_ ?_ | refine WPA.ifBnf ?_ ?_); assumption) | ((first | refine WPA.ifBnt ?_ ?_ | refine WPA.ifBf ?_ ?_); assumption) | ((first | refine WPA.ifs ?_ ?_ | refine WPA.ifB ?_ ?_) <;> intro hc) | ((fail_if_success (guard_target =~ WLA _ _ _ _ _ _ (put1 _ _ (.bool true)) _)); (fail_if_success (guard_target =~ WLA _ _ _ _ _ _ (put1 _ _ (.bool false)) _)); (first | refine WLA.both rfl rfl ?_ ?_ | refine WLA.bothB rfl rfl ?_ ?_) <;> intro hg))
  refine QQ.end_ rfl _ rfl fun w h => ?_
  refine (StoreR.fold (x := ⟨size, most, [], [], 0, 0, 0⟩) (p := SV.nil) (ps := []) rfl rfl).sl ?_
  refine (Ent.cons ?_).sl h
  exact (Ent.ownNil Ent.refl).trans Ent.refl |>.trans (Ent.cons (Ent.intro1 rfl))
theorem Left_tr {S : Nat} {x : BS} {L L' : List HP} {w0 : World} {I : Foot} [h : FindK L StoreR S x L'] (hb : 0 ≤ x.used ∧ x.used ≤ x.most) (hm : x.most ≤ 1048576) : TrP Tryz.prog 87 #[.pointer (some ⟨S, 0, none⟩)] (SL w0 I L) (.int .i64 (x.most - x.used)) := by
  refine TrP.at h.out (TrP.opn fun q => TrP.ofD fun u => ?_)
  refine Tr.intro Tryz.func87 rfl Tryz.ntmps87 rfl ?_
  repeat' (first | ((first | refine WLA.m rfl rfl ?_ ?_ | refine WDQ.m rfl rfl ?_ ?_ | refine WLA.st rfl ?_ ?_ | refine WLA.x rfl rfl ?_ (fun x => ?_) | refine WLA.x0 rfl ?_ (fun x => ?_)); first | exact trivial | exact rfl | assumption | omega | (refine ⟨?_, ?_⟩ <;> omega) | (simp only [Room, lenS]; omega) | decide | skip) | (refine Stp.go ?_) | (refine WPA.ifT ?_) | (refine WPA.ifF ?_) | ((first | refine WPA.dec ?_); first | refine .inl ⟨by first | assumption | omega | with_reducible rfl | (refine fun h => h ?_; first | assumption | with_reducible rfl) | (simp only [lenS] <;> omega) | decide, ?_⟩ | refine .inr ⟨by first | assumption | omega | with_reducible rfl | (refine fun h => h ?_; first | assumption | with_reducible rfl) | (simp only [lenS] <;> omega) | decide, ?_⟩) | ((first | refine WPA.ifBt ?_ ?_ | refine WPA.ifBnf ?_ ?_); assumption) | ((first | refine WPA.ifBnt ?_ ?_ | refine WPA.ifBf ?_ ?_); assumption) | ((first | refine WPA.ifs ?_ ?_ | refine WPA.ifB ?_ ?_) <;> intro hc) | (guard_target =~ WPA _ _ _ (.region 3 _ true) _ _ _; refine WPA.drawT 8 (.q 0 (.q 1 (.q 2 (.q 3 (.q 4 (.q 5 (.q 6 (.q 7 .fin)))))))) mixed ?_ ?_; kernel_rfl) | (refine WDA.finish (tl := [⟨_, _, _, _, _, _⟩, ⟨_, _, _, _, _, _⟩]) rfl ?_) | (refine WDQ.see rfl ?_))
  exact QQ.end_ rfl () rfl fun w h => h
theorem Peak_tr {S : Nat} {x : BS} {L L' : List HP} {w0 : World} {I : Foot} [h : FindK L StoreR S x L'] : TrP Tryz.prog 61 #[.pointer (some ⟨S, 0, none⟩)] (SL w0 I L) (.int .i64 x.peak) := by
  refine TrP.at h.out (TrP.opn fun q => TrP.ofD fun u => ?_)
  refine Tr.intro Tryz.func61 rfl Tryz.ntmps61 rfl ?_
  repeat' (first | ((first | refine WLA.m rfl rfl ?_ ?_ | refine WLA.st rfl ?_ ?_ | refine WLA.x rfl rfl ?_ (fun x => ?_) | refine WLA.x0 rfl ?_ (fun x => ?_)); first | exact trivial | exact rfl | assumption | omega | (refine ⟨?_, ?_⟩ <;> omega) | (simp only [Room, lenS]; omega) | decide | skip) | (refine Stp.go ?_) | (refine WPA.ifT ?_) | (refine WPA.ifF ?_) | ((first | refine WPA.dec ?_); first | refine .inl ⟨by first | assumption | omega | with_reducible rfl | (refine fun h => h ?_; first | assumption | with_reducible rfl) | (simp only [lenS] <;> omega) | decide, ?_⟩ | refine .inr ⟨by first | assumption | omega | with_reducible rfl | (refine fun h => h ?_; first | assumption | with_reducible rfl) | (simp only [lenS] <;> omega) | decide, ?_⟩) | ((first | refine WPA.ifBt ?_ ?_ | refine WPA.ifBnf ?_ ?_); assumption) | ((first | refine WPA.ifBnt ?_ ?_ | refine WPA.ifBf ?_ ?_); assumption) | ((first | refine WPA.ifs ?_ ?_ | refine WPA.ifB ?_ ?_) <;> intro hc))
  exact QQ.end_ rfl () rfl fun w h => h
theorem Size_tr {S : Nat} {x : BS} {L L' : List HP} {w0 : World} {I : Foot} [h : FindK L StoreR S x L'] : TrP Tryz.prog 86 #[.pointer (some ⟨S, 0, none⟩)] (SL w0 I L) (.int .i64 x.size) := by
  refine TrP.at h.out (TrP.opn fun q => TrP.ofD fun u => ?_)
  refine Tr.intro Tryz.func86 rfl Tryz.ntmps86 rfl ?_
  repeat' (first | ((first | refine WLA.m rfl rfl ?_ ?_ | refine WLA.st rfl ?_ ?_ | refine WLA.x rfl rfl ?_ (fun x => ?_) | refine WLA.x0 rfl ?_ (fun x => ?_)); first | exact trivial | exact rfl | assumption | omega | (refine ⟨?_, ?_⟩ <;> omega) | (simp only [Room, lenS]; omega) | decide | skip) | (refine Stp.go ?_) | (refine WPA.ifT ?_) | (refine WPA.ifF ?_) | ((first | refine WPA.dec ?_); first | refine .inl ⟨by first | assumption | omega | with_reducible rfl | (refine fun h => h ?_; first | assumption | with_reducible rfl) | (simp only [lenS] <;> omega) | decide, ?_⟩ | refine .inr ⟨by first | assumption | omega | with_reducible rfl | (refine fun h => h ?_; first | assumption | with_reducible rfl) | (simp only [lenS] <;> omega) | decide, ?_⟩) | ((first | refine WPA.ifBt ?_ ?_ | refine WPA.ifBnf ?_ ?_); assumption) | ((first | refine WPA.ifBnt ?_ ?_ | refine WPA.ifBf ?_ ?_); assumption) | ((first | refine WPA.ifs ?_ ?_ | refine WPA.ifB ?_ ?_) <;> intro hc))
  exact QQ.end_ rfl () rfl fun w h => h
theorem check_tr {S : Nat} {x : BS} {id : Int} {L L' : List HP} {w0 : World} {I : Foot} [h : FindK L StoreR S x L'] : TrP Tryz.prog 100 #[.pointer (some ⟨S, 0, none⟩), .int .i64 id] (SL w0 I L) (.int .i64 (if Has x.tk id then 0 else 7)) := by
  refine TrP.at h.out (TrP.opn ?_)
  rintro ⟨⟨p, ps⟩, hps, hl⟩
  refine TrP.ofD fun u => ?_
  dsimp only at hps ⊢
  have ha := at_map hps id
  have hlen : ps.length = x.tk.length := by rw [← hps]; simp
  refine Tr.intro Tryz.func100 rfl Tryz.ntmps100 rfl ?_
  repeat' (first | ((first | refine WLA.m rfl rfl ?_ ?_ | refine WLA.st rfl ?_ ?_ | refine WLA.x rfl rfl ?_ (fun x => ?_) | refine WLA.x0 rfl ?_ (fun x => ?_)); first | exact trivial | exact rfl | assumption | omega | (refine ⟨?_, ?_⟩ <;> omega) | (simp only [Room, lenS]; omega) | decide | skip) | (refine Stp.go ?_) | (refine WPA.ifT ?_) | (refine WPA.ifF ?_) | (refine WLA.no rfl rfl ?_) | ((first | refine WPA.dec ?_ | ((fail_if_success (guard_target =~ WLA _ _ _ _ _ _ (put1 _ _ (.bool true)) _)); (fail_if_success (guard_target =~ WLA _ _ _ _ _ _ (put1 _ _ (.bool false)) _)); refine WLA.dec rfl rfl ?_) | refine WLA.pk ?_); first | refine .inl ⟨by first | assumption | omega | with_reducible rfl | (refine fun h => h ?_; first | assumption | with_reducible rfl) | (simp only [lenS] <;> omega) | decide, ?_⟩ | refine .inr ⟨by first | assumption | omega | with_reducible rfl | (refine fun h => h ?_; first | assumption | with_reducible rfl) | (simp only [lenS] <;> omega) | decide, ?_⟩) | ((first | refine WPA.ifBt ?_ ?_ | refine WPA.ifBnf ?_ ?_); assumption) | ((first | refine WPA.ifBnt ?_ ?_ | refine WPA.ifBf ?_ ?_); assumption) | ((first | refine WPA.ifs ?_ ?_ | refine WPA.ifB ?_ ?_) <;> intro hc) | ((fail_if_success (guard_target =~ WLA _ _ _ _ _ _ (put1 _ _ (.bool true)) _)); (fail_if_success (guard_target =~ WLA _ _ _ _ _ _ (put1 _ _ (.bool false)) _)); (first | refine WLA.both rfl rfl ?_ ?_ | refine WLA.bothB rfl rfl ?_ ?_) <;> intro hg))
  all_goals refine QQ.end_ rfl () ?_ fun w h => h
  · have hn : ¬ Has x.tk id := by rintro ⟨⟨_, _⟩, _⟩; omega
    rw [if_neg hn]
  · have hn : ¬ Has x.tk id := by rintro ⟨⟨_, _⟩, _⟩; omega
    rw [if_neg hn]
  · have hn : ¬ Has x.tk id := by rintro ⟨_, h3⟩; rw [← ha] at h3; simp [h3] at hc
    rw [if_neg hn]
  · have hn : Has x.tk id := ⟨by omega, by rw [← ha]; simpa using hc⟩
    rw [if_pos hn]
end Go.Proofs.YtamnobjdgjbmbaaGreat
