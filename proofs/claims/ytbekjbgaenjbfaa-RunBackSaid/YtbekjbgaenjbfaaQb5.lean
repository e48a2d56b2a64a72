/- Texts that RunBack_law leans on, part 5. Conditions: none. -/
import Derived.Laws.IdiomStrings
import Derived.RangeFuncIn
import Derived.Test.YtbekjbgaenjbfaaProg
import Derived.Test.YtbekjbgaenjbfaaQb4
namespace Go.Fw
open Go Go.RowKit
set_option linter.unusedVariables false
set_option linter.unusedSimpArgs false
def kb (b : UInt8) : KInt .u8 := (b.toNat : Int)
theorem kb_cells (b : UInt8) : Enc.cells (kb b) = [.int .u8 b.toNat] := rfl
def bytesK (t : ByteArray) : List (KInt .u8) := t.data.toList.map kb
theorem bytesK_len (t : ByteArray) : (bytesK t).length = t.size := (List.length_map _).trans Array.length_toList
class IsBytes (xs : List (KInt .u8)) (t : outParam ByteArray) : Prop where
  out : xs = bytesK t
instance {t : ByteArray} : IsBytes (bytesK t) t := ⟨rfl⟩
theorem flat_bytes : ∀ l : List UInt8, flat (l.map kb) = l.map fun b => Value.int .u8 (b.toNat : Int)
  | [] => rfl
  | b :: l => by
    have := flat_bytes l
    unfold flat at this ⊢
    rw [List.map_cons, List.flatMap_cons, this, List.map_cons, kb_cells]; rfl
theorem flat_bytesK (t : ByteArray) : flat (bytesK t) = t.data.toList.map fun b => Value.int .u8 (b.toNat : Int) := flat_bytes _
def SV.upto (s : SV) (h : Int) : SV := ⟨s.a, h.toNat, s.cap⟩
def OwnC (e : TypeId) (sz : Nat) (s : SV) : HP := fun R => s.n ≤ s.cap ∧ ∃ xs, OwnR e sz (.slice s.a s.n s.cap) s.n xs R
section
variable {P : Program} {ρ : Env} {A : World → Prop} {ty : TypeId} {w0 : World} {I : Foot} {L L' : List HP}
theorem own_c {α : Type} [Enc α] {e : TypeId} {s : SV} {xs : List α} {R : Foot} (h : OwnS e s xs R) : s.n = xs.length ∧ OwnC e (Enc.sz α) s R := by
  refine ⟨OwnR.len h, ?_, _, h⟩
  rcases h.2 with ⟨h1, h2, h3⟩ | ⟨g, cap, cur, h1, h2, h3, h4, h5, h6⟩
  · cases s; cases h1; exact Nat.le_refl _
  · cases s; cases h1; exact h2
theorem Ent.ownC {α : Type} [Enc α] {e : TypeId} {s : SV} {xs : List α} : Ent (OwnS e s xs :: L) (OwnC e (Enc.sz α) s :: L) := Ent.of fun R h => (own_c h).2
theorem SL.facts {α : Type} [Enc α] {e : TypeId} {s : SV} {xs : List α} {w : World} (h : SL w0 I (OwnS e s xs :: L) w) : s.n = xs.length ∧ s.n ≤ s.cap := by
  obtain ⟨H, R, Rs, h1, h2, h3, h4⟩ := h.uncons
  exact ⟨(own_c h2).1, (own_c h2).2.1⟩
theorem WPA.facts {ro : Option Nat} {n : Nat} {Q : Hnd} {c : Code} {α : Type} {en : Enc α} {e : TypeId} {s : SV} {xs : List α} [hA : InSL A w0 I L] (ho : Ent L (OwnS e s xs :: L')) (k : s.n = xs.length ∧ s.n ≤ s.cap → WPA ro P n c Q ρ A) : WPA ro P n c Q ρ A := fun m a w ha hw => k (ho.sl (hA.out w hw)).facts m a w ha hw
theorem WLA.facts {ro : Option Nat} {n : Nat} {Q : Hnd} {ops : Array Oper} {l : List Oper} {α : Type} {en : Enc α} {e : TypeId} {s : SV} {xs : List α} [hA : InSL A w0 I L] (ho : Ent L (OwnS e s xs :: L')) (k : s.n = xs.length ∧ s.n ≤ s.cap → WLA ro P n ops Q l ρ A) : WLA ro P n ops Q l ρ A := fun m a w ha hw => k (ho.sl (hA.out w hw)).facts m a w ha hw
theorem Ent.cResize {e : TypeId} {sz : Nat} {s : SV} {n : Nat} (h : n ≤ s.cap) : Ent (OwnC e sz s :: L) (OwnC e sz ⟨s.a, n, s.cap⟩ :: L) := Ent.of fun R hR => by
  obtain ⟨hc, xs, hl, hr⟩ := hR
  refine ⟨h, ?_⟩
  rcases hr with ⟨h1, h2, h3⟩ | ⟨g, cap, cur, h1, h2, h3, h4, h5, h6⟩
  · cases s with
    | mk a k c =>
      cases h1
      have : n = 0 := by simp only at h; omega
      subst this
      exact ⟨[], by simp, .inl ⟨rfl, rfl, h3⟩⟩
  · cases s with
    | mk a k c =>
      cases h1
      have hle : n * sz ≤ c * sz := Nat.mul_le_mul_right _ h
      exact ⟨cur.toList.take (n * sz), by rw [List.length_take, Array.length_toList, h4]; exact Nat.min_eq_left hle, .inr ⟨g, c, cur, rfl, h, h3, h4, rfl, h6⟩⟩
theorem Ent.cUp {e : TypeId} {sz : Nat} {s : SV} {h : Int} (h0 : 0 ≤ h ∧ h ≤ s.cap) : Ent (OwnC e sz s :: L) (OwnC e sz (s.upto h) :: L) := Ent.cResize (n := h.toNat) (by omega)
theorem Ent.cNone {α : Type} [Enc α] {e : TypeId} {s : SV} (h : s.n = 0) : Ent (OwnC e (Enc.sz α) s :: L) (OwnS e s ([] : List α) :: L) := Ent.of fun R hR => by
  obtain ⟨hc, xs, hl, hr⟩ := hR
  have : xs = [] := by rw [h] at hl; simpa using hl
  subst this
  exact ⟨by simp [h, flat], hr⟩
class FindC (L : List HP) (s : SV) (e : outParam TypeId) (sz : outParam Nat) (L' : outParam (List HP)) : Prop where
  out : Ent L (OwnC e sz s :: L')
instance {s : SV} {e : TypeId} {sz : Nat} : FindC (OwnC e sz s :: L) s e sz L := ⟨Ent.refl⟩
instance (priority := 900) {p : HP} {s : SV} {e : TypeId} {sz : Nat} [h : FindC L s e sz L'] : FindC (p :: L) s e sz (p :: L') := ⟨(Ent.cons h.out).trans Ent.swap⟩
instance (priority := 800) {s : SV} {e : TypeId} {α : Type} {en : Enc α} {xs : List α} {sz : Nat} [h : FindOwn L s e α en xs L'] [hs : SzIs α sz] : FindC L s e sz L' := ⟨by
  have := h.out.trans (Ent.ownC (α := α))
  rw [hs.out] at this; exact this⟩
instance {x : Operand} {t t' e : TypeId} {s : SV} {xs : List (KInt .u8)} {b : ByteArray} [hx : Ev ρ x (.slice s.a s.n s.cap)] [ht : Und P t (.slice e)] [he : Und P e (.int .u8)] [hd : Und P t' .string] [hA : InSL A w0 I L] [hr : RdS I L s (KInt .u8) inferInstance xs] [hb : IsBytes xs b] :
    OpM P ρ A (.convert t t' x) ty (.string b) True := ⟨fun _ => OpP.at fun w hw => by
  have h := hr.out w0 w (hA.out w hw)
  have hn := h.len
  have hbn : xs.length = b.data.toList.length := by rw [hb.out, bytesK_len]; exact Array.length_toList.symm
  intro d pos af g w' hw'
  subst hw'
  have key : (convert t t' (.slice s.a s.n s.cap)).run P w' = .ok (.string b) w' := by
    cases hsa : s.a with
    | none =>
      have hz : s.n = 0 := by
        rcases h.plain with h0 | ⟨b', o, ha⟩
        · omega
        · rw [hsa] at ha; cases ha
      have hb0 : b = ⟨#[]⟩ := by
        have h0 : b.data.toList.length = 0 := by omega
        cases b with
        | mk d => cases d with
          | mk l => cases l with
            | nil => rfl
            | cons x l => simp at h0
      subst hb0
      rw [run_convert_bytes_string w' t t' e none s.n s.cap ht.out he.out hd.out]
      simp [Conv.bytesToString, go_sem]
      rfl
    | some a =>
      have e1 : s.n = b.data.toList.length := by omega
      rw [e1, run_convert_bytes_back w' t t' e a s.cap b.data.toList ht.out he.out hd.out]
      · intro j hj
        have hjx : j < xs.length := by omega
        have hc := h.cells j 0 (.int .u8 (b.data.toList[j].toNat : Int)) hjx (by
          have : xs.getD j Enc.dflt = kb b.data.toList[j] := by
            rw [hb.out]; unfold bytesK
            rw [List.getD_eq_getElem?_getD, List.getElem?_map, List.getElem?_eq_getElem hj]; rfl
          rw [this, kb_cells]; rfl)
        rcases h.plain with h0 | ⟨b', o, ha⟩
        · omega
        · rw [hsa] at ha; cases ha
          simp only [eAddr, hsa, Option.getD_some] at hc
          have ea : (⟨b', o, none⟩ : Addr).add j = ⟨b', o + (j : Int).toNat * Enc.sz (KInt .u8) + 0, none⟩ := by
            have hs : Enc.sz (KInt .u8) = 1 := rfl
            rw [hs]; unfold Addr.add; split <;> simp_all
          rw [ea]; exact hc
  simp only [execOp, hx.out, Sem.run_bind, key, Result.andThen_ok, Sem.run_pure]⟩
theorem extract_all (b : ByteArray) : (b.extract 0 b.size).data = b.data := by
  rw [ByteArray.data_extract]; simp
theorem T_copy {x y : Operand} {t t2 e : TypeId} {z : List Value} {bytes : Nat} {s : SV} {b : ByteArray} [hx : Ev ρ x (.slice s.a s.n s.cap)] [hy : Ev ρ y (.string b)] [ht : Und P t (.slice e)] [hz : Inf P e z 1 bytes] [hA : InSL A w0 I L] [hc : FindC L s e 1 L'] (hn : s.n = b.size) :
    OpT P ρ (.call { callee := .builtin .copy, args := #[x, y], argTypes := #[t, t2] }) ty A fun v w => ∃ u : Unit, v = .int .i64 s.n ∧ SL w0 I (OwnS e s (bytesK b) :: L') w := OpT.sl (val := fun _ : Unit => .int .i64 s.n) (B := fun _ => SL w0 I (OwnS e s (bytesK b) :: L')) fun w hw d pos af g => by
  obtain ⟨H, R, Rs, h1, ⟨h2, xs, hl, hr⟩, h3, h4⟩ := (hc.out.sl hw).uncons
  have hsz : (sizeOf e).run P w = .ok 1 w := by
    obtain ⟨i, hi, hi2⟩ := Option.map_eq_some_iff.1 hz.size
    simp [sizeOf, typeInfo, hi, hi2, go_sem]
  have hmin : Nat.min b.size s.n = b.size := by rw [hn]; exact Nat.min_self _
  have hcells : (((b.extract 0 b.size).data.map fun b => Value.int .u8 b.toNat) : Array Value).toList = flat (bytesK b) := by
    rw [extract_all, flat_bytesK, Array.toList_map]
  rcases hr with ⟨e1, e2, e3⟩ | ⟨gb, cap, cur, e1, e2, e3, e4, e5, e6⟩
  · have ea : s.a = none := by cases s; cases e1; rfl
    have key : (Builtin.copy_ #[t, t2] ty #[.slice s.a s.n s.cap, .string b]).run P w = .ok (.int .i64 s.n) w := by
      unfold Builtin.copy_
      simp only [List.getElem?_toArray, List.getElem?_cons_zero, List.getElem?_cons_succ, Sem.run_bind, run_underlying ht.out, Result.andThen_ok, Builtin.lenOf, Sem.run_pure, hsz, hmin, Builtin.firstCells, ea]
      rw [hn]; rfl
    refine OpU.mono (R := fun v w' => v = .int .i64 s.n ∧ w' = w) ?_ ?_
    · simp only [execOp, resolve, invoke, builtin, Sem.run_bind, Sem.run_pure, Result.andThen_ok, List.map_toArray, List.map_cons, List.map_nil, hx.out, hy.out, key]
      exact ⟨rfl, rfl⟩
    · rintro v w' ⟨rfl, rfl⟩
      refine ⟨(), rfl, SL.cons h1 (R := R) ?_ h3 h4⟩
      have hb0 : b.size = 0 := by omega
      have : bytesK b = [] := List.eq_nil_of_length_eq_zero (by rw [bytesK_len]; exact hb0)
      rw [this]
      exact ⟨by rw [e2]; rfl, .inl ⟨e1, e2, e3⟩⟩
  · cases s with
    | mk a n c =>
      cases e1
      subst e6
      simp only at hn h2 hl e2 hmin ⊢
      have hfl : (flat (bytesK b)).length = b.size := by rw [flat_len, bytesK_len]; exact Nat.mul_one _
      have e4' : cur.size = c := by rw [e4]; exact Nat.mul_one _
      have hle : (flat (bytesK b)).length ≤ cur.size := by omega
      obtain ⟨w', h5, h6⟩ := run_storeMany (P := P) (w := w) (j := 0) (flat (bytesK b)) cur 0 0 w _ h4 rfl (by omega) (flat_one' _)
      have key : (Builtin.copy_ #[t, t2] ty #[.slice (some ⟨gb, 0, none⟩) n c, .string b]).run P w = .ok (.int .i64 n) w' := by
        unfold Builtin.copy_
        simp only [List.getElem?_toArray, List.getElem?_cons_zero, List.getElem?_cons_succ, Sem.run_bind, run_underlying ht.out, Result.andThen_ok, Builtin.lenOf, Sem.run_pure, hsz, hmin, Builtin.firstCells, hcells, h5]
        rw [hn]; rfl
      refine OpU.mono (R := fun v u => v = .int .i64 n ∧ u = w') ?_ ?_
      · simp only [execOp, resolve, invoke, builtin, Sem.run_bind, Sem.run_pure, Result.andThen_ok, List.map_toArray, List.map_cons, List.map_nil, hx.out, hy.out, key]
        exact ⟨rfl, rfl⟩
      · rintro v u ⟨rfl, rfl⟩
        refine ⟨(), rfl, SL.cons h1 (R := [(gb, .cells _ e (0, 0))]) ?_ h3 h6⟩
        refine ⟨by rw [hfl, hn]; exact (Nat.mul_one _).symm, .inr ⟨gb, c, _, rfl, h2, e3, by rw [fold_size, e4]; rfl, ?_, rfl⟩⟩
        have hcur : cur = cur.toList.toArray := by simp
        rw [hcur, fold_put _ _ _ (by simpa using hle)]
        simp only [Nat.add_zero, List.take_zero, List.nil_append]
        show List.take (n * 1) (flat (bytesK b) ++ _) = _
        exact List.take_left' (by rw [hfl, hn, Nat.mul_one])
theorem OwnC.back {e : TypeId} {sz : Nat} {v : Value} {s : SV} {xs : List Value} {R : Foot} (hv : v = .slice s.a s.n s.cap) (hc : s.n ≤ s.cap) (h : OwnR e sz v s.n xs R) : OwnC e sz s R := ⟨hc, xs, hv ▸ h⟩
theorem T_clearC {x : Operand} {t e : TypeId} {z : Value} {sz bytes : Nat} {s : SV} [hx : Ev ρ x (.slice s.a s.n s.cap)] [ht : Und P t (.slice e)] (hi : (P.info? e).map (fun i => (i.zero, i.size, i.bytes)) = some (some z, sz, bytes)) (hzs : z.cells.size = sz) (hz1 : ∀ u ∈ (Builtin.zeroCells z.cells 1).toList, u.oneCell' = true) (hz2 : ∀ n, ∀ u ∈ (Builtin.zeroCells z.cells n).toList, u.oneCell' = true)
    [hA : InSL A w0 I L] [hc : FindC L s e sz L'] : OpT P ρ (.call { callee := .builtin .clear, args := #[x], argTypes := #[t] }) ty A fun v w => ∃ u : Unit, v = .tuple #[] ∧ SL w0 I (OwnC e sz s :: L') w := OpT.sl (val := fun _ : Unit => .tuple #[]) (B := fun _ => SL w0 I (OwnC e sz s :: L')) fun w hw d pos af g => by
  obtain ⟨H, R, Rs, h1, ⟨h2, xs, hr⟩, h3, h4⟩ := (hc.out.sl hw).uncons
  refine (T_clearR (P := P) (ρ := ρ) (ty := ty) ht.out hi hzs hz1 hz2 hr hx.out d pos af g w h4).mono fun v w' ⟨q, hv, ho, hs⟩ => ⟨(), hv, SL.cons h1 (R := q.2) ⟨h2, q.1, ho⟩ h3 hs⟩
section
variable {ro : Option Nat} {n : Nat} {Q : Hnd} {ops : Array Oper} {rest : List Oper} {pos : String} {af : Array Edge} {g : Option (Nat × Bool)} {d : Tmp}
theorem WLA.copy {x y : Operand} {t t2 e : TypeId} {z : List Value} {bytes : Nat} {s : SV} {b : ByteArray} [hx : Ev ρ x (.slice s.a s.n s.cap)] [hy : Ev ρ y (.string b)] [ht : Und P t (.slice e)] [hz : Inf P e z 1 bytes] [hA : InSL A w0 I L] [hc : FindC L s e 1 L'] (hn : s.n = b.size)
    (hw : Region.wanted ⟨some d, .call { callee := .builtin .copy, args := #[x, y], argTypes := #[t, t2] }, ty, pos, af, g⟩ (yieldedE n ops ρ) = true) (hd : Nat.blt d n = true) (k : WLA ro P n ops Q rest (put1 ρ d (.int .i64 s.n)) (SL w0 I (OwnS e s (bytesK b) :: L'))) :
    WLA ro P n ops Q (⟨some d, .call { callee := .builtin .copy, args := #[x, y], argTypes := #[t, t2] }, ty, pos, af, g⟩ :: rest) ρ A :=
  WLA.e hw (T_copy hn) (fun u => by rw [upd_put1 hd]; exact k)
theorem WLA.clear {x : Operand} {t e : TypeId} {z : Value} {sz bytes : Nat} {s : SV} [hx : Ev ρ x (.slice s.a s.n s.cap)] [ht : Und P t (.slice e)] (hi : (P.info? e).map (fun i => (i.zero, i.size, i.bytes)) = some (some z, sz, bytes)) (hzs : z.cells.size = sz) (hz1 : ∀ u ∈ (Builtin.zeroCells z.cells 1).toList, u.oneCell' = true) (hz2 : ∀ n, ∀ u ∈ (Builtin.zeroCells z.cells n).toList, u.oneCell' = true)
    [hA : InSL A w0 I L] [hc : FindC L s e sz L'] (hw : Region.wanted ⟨none, .call { callee := .builtin .clear, args := #[x], argTypes := #[t] }, ty, pos, af, g⟩ (yieldedE n ops ρ) = true) (k : WLA ro P n ops Q rest ρ (SL w0 I (OwnC e sz s :: L'))) :
    WLA ro P n ops Q (⟨none, .call { callee := .builtin .clear, args := #[x], argTypes := #[t] }, ty, pos, af, g⟩ :: rest) ρ A :=
  WLA.e0 hw (T_clearC hi hzs hz1 hz2) (fun u => k)
theorem WLA.reslice {x y : Operand} {t e : TypeId} {z : List Value} {sz bytes : Nat} {s : SV} {kd : IntKind} {h : Int} [hx : Ev ρ x (.slice s.a s.n s.cap)] [hy : Ev ρ y (.int kd h)] [ht : Und P t (.slice e)] [hz : Inf P e z sz bytes] (h0 : 0 ≤ h ∧ h ≤ s.cap)
    (hw : Region.wanted ⟨some d, .slice t x none (some y) none, ty, pos, af, g⟩ (yieldedE n ops ρ) = true) (hd : Nat.blt d n = true) (k : WLA ro P n ops Q rest (put1 ρ d (.slice (s.upto h).a (s.upto h).n (s.upto h).cap)) A) :
    WLA ro P n ops Q (⟨some d, .slice t x none (some y) none, ty, pos, af, g⟩ :: rest) ρ A :=
  WLA.q hw (P_sliceV_h ht.out hz.size hx.out hy.out h0.1 h0.2) (by rw [upd_put1 hd]; exact k)
end
section
variable {ro : Option Nat} {n : Nat} {Q : Hnd} {c : Operand} {x y : Code} {b : Bool} {ops : Array Oper} {rest : List Oper} {op : Op} {pos : String} {af : Array Edge} {dst : Option Tmp} {j : Nat} {t : Tmp} {bc : Bool}
theorem WPA.ifBt [hc : Ev ρ c (.bool b)] (hb : b = true) (h : WPA ro P n x Q ρ A) : WPA ro P n (.cond c x y) Q ρ A := WPA.ifB (fun _ => h) (fun h' => by rw [hb] at h'; cases h')
theorem WPA.ifBf [hc : Ev ρ c (.bool b)] (hb : b = false) (h : WPA ro P n y Q ρ A) : WPA ro P n (.cond c x y) Q ρ A := WPA.ifB (fun h' => by rw [hb] at h'; cases h') (fun _ => h)
theorem WPA.ifBnt [hc : Ev ρ c (.bool (!b))] (hb : b = true) (h : WPA ro P n y Q ρ A) : WPA ro P n (.cond c x y) Q ρ A := WPA.ifBf (by rw [hb]; rfl) h
theorem WPA.ifBnf [hc : Ev ρ c (.bool (!b))] (hb : b = false) (h : WPA ro P n x Q ρ A) : WPA ro P n (.cond c x y) Q ρ A := WPA.ifBt (by rw [hb]; rfl) h
end
section
variable {ro : Option Nat} {N n : Nat} {ops : Array Oper} {Q : Hnd} {T : World → Prop} {r : Plan} {op : Op} {pos : String} {af : Array Edge}
theorem WDP.yes {dst : Option Tmp} {j : Nat} {c : Bool} {p : Prop} [hp' : Decidable p] {t : Tmp} (hy : yieldedE N ops ρ j = some (decide p)) (ht : (ops[j]?).bind (·.dst) = some t) (hp : p) (k : WDP ro P N ops Q T n ⟨dst, op, ty, pos, af, some (j, c)⟩ r (put1 ρ t (.bool true)) A) :
    WDP ro P N ops Q T n ⟨dst, op, ty, pos, af, some (j, c)⟩ r ρ A := by
  rw [put1_same (by rw [yield_val hy ht, decide_eq_true hp])] at k; exact k
theorem WDP.nay {dst : Option Tmp} {j : Nat} {c : Bool} {p : Prop} [hp' : Decidable p] {t : Tmp} (hy : yieldedE N ops ρ j = some (decide p)) (ht : (ops[j]?).bind (·.dst) = some t) (hp : ¬ p) (k : WDP ro P N ops Q T n ⟨dst, op, ty, pos, af, some (j, c)⟩ r (put1 ρ t (.bool false)) A) :
    WDP ro P N ops Q T n ⟨dst, op, ty, pos, af, some (j, c)⟩ r ρ A := by
  rw [put1_same (by rw [yield_val hy ht, decide_eq_false hp])] at k; exact k
theorem WDP.both {dst : Option Tmp} {j : Nat} {c : Bool} {p : Prop} [hp' : Decidable p] {t : Tmp} (hy : yieldedE N ops ρ j = some (decide p)) (ht : (ops[j]?).bind (·.dst) = some t) (k1 : p → WDP ro P N ops Q T n ⟨dst, op, ty, pos, af, some (j, c)⟩ r (put1 ρ t (.bool true)) A)
    (k2 : ¬ p → WDP ro P N ops Q T n ⟨dst, op, ty, pos, af, some (j, c)⟩ r (put1 ρ t (.bool false)) A) : WDP ro P N ops Q T n ⟨dst, op, ty, pos, af, some (j, c)⟩ r ρ A := by
  by_cases hp : p
  · exact WDP.yes hy ht hp (k1 hp)
  · exact WDP.nay hy ht hp (k2 hp)
end
def BkI (b : Nat) (t : TypeId) (cs : List Value) : Foot := [(b, .cells cs.toArray t (0, 0))]
class InI (I : Foot) (b : Nat) (t : outParam TypeId) (cs : outParam (List Value)) : Prop where
  out : (b, .cells cs.toArray t (0, 0)) ∈ I
instance {I : Foot} {b : Nat} {t : TypeId} {cs : List Value} : InI (BkI b t cs ++ I) b t cs := ⟨List.mem_append_left _ (List.mem_singleton.2 rfl)⟩
instance (priority := 900) {R I : Foot} {b : Nat} {t : TypeId} {cs : List Value} [h : InI I b t cs] : InI (R ++ I) b t cs := ⟨List.mem_append_right _ h.out⟩
instance (priority := 900) {x : Operand} {t t' : TypeId} {b i : Nat} {cs : List Value} {v : Value} [hx : Ev ρ x (.pointer (some ⟨b, i, none⟩))] [ht : One P t] [hA : InSL A w0 I L] [hb : InI I b t' cs] [hg : GetL cs i v] :
    OpM P ρ A (.load t x) ty v True := ⟨fun _ => P_load ht.out hx.out fun w hw => cell_of_heap ((hA.out w hw).mem _ _ hb.out) (by simpa using hg.out)⟩
theorem SL.unI {R I : Foot} {L : List HP} {w : World} (h : SL w0 (R ++ I) L w) : SL w0 I L w := h.sub fun _ hx => List.mem_append_right _ hx
def BytesH (e : TypeId) : List SV → List ByteArray → HP
  | s :: ss, t :: ts => star (OwnS e s (bytesK t)) (BytesH e ss ts)
  | _, _ => fun R => R = []
theorem Ent.intro1 {p : HP} (h : p []) : Ent L (p :: L) := fun Rs hf => ⟨[] :: Rs, [], ⟨h, hf⟩, by simp⟩
theorem BytesH.split {e : TypeId} : ∀ {s1 s2 : List SV} {t1 t2 : List ByteArray} {L : List HP}, s1.length = t1.length → Ent (BytesH e (s1 ++ s2) (t1 ++ t2) :: L) (BytesH e s1 t1 :: BytesH e s2 t2 :: L)
  | [], s2, [], t2, L, _ => Ent.intro1 rfl
  | s :: s1, s2, t :: t1, t2, L, h => by
    simp only [List.cons_append, BytesH]
    refine Ent.unstar.trans ?_
    refine (Ent.cons (BytesH.split (by simpa using h))).trans ?_
    exact Ent.star Ent.refl
  | [], s2, t :: t1, t2, L, h => by simp at h
  | s :: s1, s2, [], t2, L, h => by simp at h
theorem BytesH.join {e : TypeId} : ∀ {s1 s2 : List SV} {t1 t2 : List ByteArray} {L : List HP}, s1.length = t1.length → Ent (BytesH e s1 t1 :: BytesH e s2 t2 :: L) (BytesH e (s1 ++ s2) (t1 ++ t2) :: L)
  | [], s2, [], t2, L, _ => Ent.drop1
  | s :: s1, s2, t :: t1, t2, L, h => by
    simp only [List.cons_append, BytesH]
    refine Ent.unstar.trans ?_
    exact (Ent.cons (BytesH.join (by simpa using h))).trans (Ent.star Ent.refl)
  | [], s2, t :: t1, t2, L, h => by simp at h
  | s :: s1, s2, [], t2, L, h => by simp at h
def BytesX (e : TypeId) (i : Nat) (ss : List SV) (ts : List ByteArray) : HP := star (BytesH e (ss.take i) (ts.take i)) (BytesH e (ss.drop (i + 1)) (ts.drop (i + 1)))
theorem BytesH.focus {e : TypeId} {ss : List SV} {ts : List ByteArray} (i : Nat) (hi : i < ss.length) (hl : ss.length = ts.length) :
    Ent (BytesH e ss ts :: L) (OwnS e (ss[i]) (bytesK (ts[i]'(by omega))) :: BytesX e i ss ts :: L) := by
  have e1 : ss = ss.take i ++ ss[i] :: ss.drop (i + 1) := by rw [List.getElem_cons_drop, List.take_append_drop]
  have e2 : ts = ts.take i ++ ts[i] :: ts.drop (i + 1) := by rw [List.getElem_cons_drop, List.take_append_drop]
  have h0 : Ent (BytesH e ss ts :: L) (BytesH e (ss.take i ++ ss[i] :: ss.drop (i + 1)) (ts.take i ++ ts[i] :: ts.drop (i + 1)) :: L) := by rw [← e1, ← e2]; exact Ent.refl
  refine h0.trans ((BytesH.split (by simp; omega)).trans ?_)
  refine (Ent.cons (Ent.unstar)).trans (Ent.swap.trans (Ent.cons ?_))
  exact Ent.star Ent.refl
theorem BytesH.back {e : TypeId} {ss : List SV} {ts : List ByteArray} {s : SV} {t : ByteArray} (i : Nat) (hi : i < ss.length) (hl : ss.length = ts.length) :
    Ent (OwnS e s (bytesK t) :: BytesX e i ss ts :: L) (BytesH e (ss.set i s) (ts.set i t) :: L) := by
  have e1 : ss.set i s = ss.take i ++ s :: ss.drop (i + 1) := by rw [List.set_eq_take_append_cons_drop, if_pos hi]
  have e2 : ts.set i t = ts.take i ++ t :: ts.drop (i + 1) := by rw [List.set_eq_take_append_cons_drop, if_pos (by omega)]
  rw [e1, e2]
  refine (Ent.cons Ent.unstar).trans (Ent.swap.trans ?_)
  refine (Ent.cons (Ent.star (q := BytesH e (ss.drop (i + 1)) (ts.drop (i + 1))) Ent.refl : Ent (OwnS e s (bytesK t) :: BytesH e (ss.drop (i + 1)) (ts.drop (i + 1)) :: L) (BytesH e (s :: ss.drop (i + 1)) (t :: ts.drop (i + 1)) :: L))).trans ?_
  exact BytesH.join (L := L) (s1 := ss.take i) (t1 := ts.take i) (s2 := s :: ss.drop (i + 1)) (t2 := t :: ts.drop (i + 1)) (by rw [List.length_take, List.length_take]; omega)
theorem BytesH.pad {e : TypeId} {ss : List SV} {ts : List ByteArray} {L : List HP} (h : ss.length = ts.length) : Ent (BytesH e ss ts :: L) (BytesH e (ss ++ [SV.nil]) (ts ++ [⟨#[]⟩]) :: L) :=
  (Ent.cons (Ent.intro1 (p := BytesH e [SV.nil] [⟨#[]⟩]) ⟨[], [], OwnR.nil _ _, rfl, rfl⟩)).trans (BytesH.join h)
end
class Stp (A : Prop) (B : outParam Prop) : Prop where
  out : B → A
theorem Stp.go {A B : Prop} [h : Stp A B] (k : B) : A := h.out k
section
variable {ro : Option Nat} {P : Program} {n N : Nat} {ops : Array Oper} {Q : Hnd} {ρ : Env} {A : World → Prop}
instance {x y : Code} : Stp (WPA ro P n (.seq x y) Q ρ A) (WPA ro P n x (seqQ ro P n y Q) ρ A) := ⟨WPA.seq⟩
instance {y : Code} : Stp (QQ (seqQ ro P n y Q) .normal ρ A) (WPA ro P n y Q ρ A) := ⟨QQ.seq_normal⟩
instance {y : Code} : Stp (QQ (seqQ ro P n y Q) .ret ρ A) (QQ Q .ret ρ A) := ⟨QQ.seq_ret⟩
instance {y : Code} {id : Nat} : Stp (QQ (seqQ ro P n y Q) (.exit id) ρ A) (QQ Q (.exit id) ρ A) := ⟨QQ.seq_exit⟩
instance {id : Nat} : Stp (QQ (blockQ id Q) .normal ρ A) (QQ Q .normal ρ A) := ⟨QQ.block_normal⟩
instance {id : Nat} : Stp (QQ (blockQ id Q) .ret ρ A) (QQ Q .ret ρ A) := ⟨QQ.block_ret⟩
instance (priority := 1100) {id : Nat} : Stp (QQ (blockQ id Q) (.exit id) ρ A) (QQ Q .normal ρ A) := ⟨QQ.block_hit⟩
instance {id id' : Nat} [hn : IsB (Nat.beq id' id) false] : Stp (QQ (blockQ id Q) (.exit id') ρ A) (QQ Q (.exit id') ρ A) := ⟨QQ.block_miss hn.out⟩
instance {σ : Type} {C : σ → Env → Prop} {B : σ → World → Prop} {m : σ → Nat} {x : σ} : Stp (QQ (loopQ C B m x Q) .ret ρ A) (QQ Q .ret ρ A) := ⟨QQ.loop_ret⟩
instance {σ : Type} {C : σ → Env → Prop} {B : σ → World → Prop} {m : σ → Nat} {x : σ} {id : Nat} : Stp (QQ (loopQ C B m x Q) (.exit id) ρ A) (QQ Q (.exit id) ρ A) := ⟨QQ.loop_exit⟩
instance : Stp (WPA ro P n .skip Q ρ A) (QQ Q .normal ρ A) := ⟨WPA.skip⟩
instance : Stp (WPA ro P n .ret Q ρ A) (QQ Q .ret ρ A) := ⟨WPA.ret⟩
instance {id : Nat} : Stp (WPA ro P n (.exit id) Q ρ A) (QQ Q (.exit id) ρ A) := ⟨WPA.exit⟩
instance {id : Nat} {c : Code} : Stp (WPA ro P n (.block id c) Q ρ A) (WPA ro P n c (blockQ id Q) ρ A) := ⟨WPA.block⟩
instance {id : Nat} {l : List Oper} : Stp (WPA ro P n (.region id l.toArray false) Q ρ A) (WLA ro P n l.toArray Q l ρ A) := ⟨WPA.region⟩
instance : Stp (WLA ro P n ops Q [] ρ A) (QQ Q .normal ρ A) := ⟨WLA.nil⟩
theorem WPA.dec {c : Operand} {x y : Code} {p : Prop} [hp' : Decidable p] [hc : Ev ρ c (.bool (decide p))] (h : p ∧ WPA ro P n x Q ρ A ∨ ¬ p ∧ WPA ro P n y Q ρ A) : WPA ro P n (.cond c x y) Q ρ A :=
  h.elim (fun h => WPA.ifYes h.1 h.2) fun h => WPA.ifNo h.1 h.2
variable {rest : List Oper} {op : Op} {ty : TypeId} {pos : String} {af : Array Edge} {dst : Option Tmp} {j : Nat} {t : Tmp} {bc : Bool} {d : Tmp} {g : Option (Nat × Bool)} {T : World → Prop} {r : Plan} {v : Value} {p : Prop} [hp' : Decidable p]
theorem WLA.dec (hy : yieldedE n ops ρ j = some (decide p)) (ht : (ops[j]?).bind (·.dst) = some t) (h : p ∧ WLA ro P n ops Q (⟨dst, op, ty, pos, af, some (j, bc)⟩ :: rest) (put1 ρ t (.bool true)) A ∨ ¬ p ∧ WLA ro P n ops Q (⟨dst, op, ty, pos, af, some (j, bc)⟩ :: rest) (put1 ρ t (.bool false)) A) : WLA ro P n ops Q (⟨dst, op, ty, pos, af, some (j, bc)⟩ :: rest) ρ A :=
  h.elim (fun h => WLA.yes hy ht h.1 h.2) fun h => WLA.nay hy ht h.1 h.2
theorem WLA.pk {a b : Operand} [hc : Ev ρ (.tmp t) (.bool (decide p))] (h : p ∧ WLA ro P n ops Q (⟨some d, .pick (.tmp t) a b, ty, pos, af, g⟩ :: rest) (put1 ρ t (.bool true)) A ∨ ¬ p ∧ WLA ro P n ops Q (⟨some d, .pick (.tmp t) a b, ty, pos, af, g⟩ :: rest) (put1 ρ t (.bool false)) A) : WLA ro P n ops Q (⟨some d, .pick (.tmp t) a b, ty, pos, af, g⟩ :: rest) ρ A :=
  h.elim (fun h => WLA.pickT h.1 h.2) fun h => WLA.pickF h.1 h.2
theorem WDQ.dec {m : Nat} (hy : yieldedE N ops ρ j = some (decide p)) (ht : (ops[j]?).bind (·.dst) = some t) (h : p ∧ WDQ ro P N ops Q T m ⟨dst, op, ty, pos, af, some (j, bc)⟩ r (put1 ρ t (.bool true)) A ∨ ¬ p ∧ WDQ ro P N ops Q T m ⟨dst, op, ty, pos, af, some (j, bc)⟩ r (put1 ρ t (.bool false)) A) : WDQ ro P N ops Q T m ⟨dst, op, ty, pos, af, some (j, bc)⟩ r ρ A :=
  h.elim (fun h => WDQ.yes hy ht h.1 h.2) fun h => WDQ.nay hy ht h.1 h.2
theorem WDP.dec {m : Nat} (hy : yieldedE N ops ρ j = some (decide p)) (ht : (ops[j]?).bind (·.dst) = some t) (h : p ∧ WDP ro P N ops Q T m ⟨dst, op, ty, pos, af, some (j, bc)⟩ r (put1 ρ t (.bool true)) A ∨ ¬ p ∧ WDP ro P N ops Q T m ⟨dst, op, ty, pos, af, some (j, bc)⟩ r (put1 ρ t (.bool false)) A) : WDP ro P N ops Q T m ⟨dst, op, ty, pos, af, some (j, bc)⟩ r ρ A :=
  h.elim (fun h => WDP.yes hy ht h.1 h.2) fun h => WDP.nay hy ht h.1 h.2
end
end Go.Fw
namespace Go.Fw
open Go Go.RowKit
set_option linter.unusedVariables false
set_option linter.unusedSimpArgs false
section
variable {P : Program} {w0 : World} {I : Foot} {L L' : List HP} {A : World → Prop} {rc : LoopState → Option Code → Obj}
theorem WLA.pure {ro : Option Nat} {n : Nat} {Q : Hnd} {ops : Array Oper} {l : List Oper} {ρ : Env} {p : Prop} (k : p → WLA ro P n ops Q l ρ A) : WLA ro P n ops Q l ρ (fun w => p ∧ A w) := fun m a w ha hA => k hA.1 m a w ha hA.2
theorem QQ.midS {l N : Nat} {bd : Code} {Q : Hnd} {ρ : Env} [hA : InSL A w0 I L] [he : FindK L Ob l (rc .ready none) L'] (h : WPA (some l) P N bd Q ρ (SL w0 I (Ob l (rc .busy none) :: L'))) :
    QQ (midQ P l N rc bd Q) .normal ρ A := fun w hw => by
  obtain ⟨h1, h2⟩ := (he.out.sl (hA.out w hw)).mark (o' := rc .busy none)
  exact ⟨h1, fun m a u ha hu => h m a u ha (hu ▸ h2)⟩
theorem QQ.rndN {l : Nat} {R : Bool → World → Prop} {ρ : Env} [hA : InSL A w0 I L] [he : FindK L Ob l (rc .busy none) L'] (h : ∀ w, SL w0 I (Ob l (rc .ready none) :: L') w → R true w) :
    QQ (rndQ l rc R) .normal ρ A := fun w hw => by
  obtain ⟨h1, h2⟩ := (he.out.sl (hA.out w hw)).mark (o' := rc .ready none)
  exact ⟨h1, h _ h2⟩
theorem QQ.rndX {l id : Nat} {R : Bool → World → Prop} {ρ : Env} [hA : InSL A w0 I L] [he : FindK L Ob l (rc .busy none) L'] (h : ∀ w, SL w0 I (Ob l (rc .done (some (.exit id))) :: L') w → R false w) :
    QQ (rndQ l rc R) (.exit id) ρ A := fun w hw => by
  obtain ⟨h1, h2⟩ := (he.out.sl (hA.out w hw)).mark (o' := rc .done (some (.exit id)))
  exact ⟨h1, h _ h2⟩
instance {ρ : Env} {ms : List Nat} {t : Tmp} {v : Value} [h : EvT ρ t v] : EvT ⟨ρ.f, ms⟩ t v := ⟨h.out⟩
theorem agreeP {N : Nat} {ρ : Env} {p : Nat} {v : Value} (hp : Nat.blt p N = true) (tmps : Array Value) (hs : tmps.size = N) (hag : ∀ i, tmps.getD i undef = ρ.f i) :
    Agree N (put1 ⟨ρ.f, []⟩ p v) { tmps := (#[p].zip #[v]).foldl (fun t (p, v) => t.setIfInBounds p v) tmps, defers := [] } := by
  rw [← upd_put1 hp]; exact agree1 tmps hs hag
theorem YTr.ofS {l N : Nat} {ps : Array Tmp} {as_ bd : Code} {D : Nat} {args : Array Value} {ρ ρ1 : Env} {τ : Type} {B : τ → World → Prop} {val : τ → Bool} (hrc : IsRec rc N ρ ps as_ bd D)
    (hag : ∀ tmps : Array Value, tmps.size = N → (∀ i, tmps.getD i undef = ρ.f i) → Agree N ρ1 { tmps := (ps.zip args).foldl (fun t (p, v) => t.setIfInBounds p v) tmps, defers := [] }) (hps : args.size = ps.size)
    [he : FindK L Ob l (rc .ready none) L']
    (h : WPA (some l) P N as_ (midQ P l N rc bd (rndQ l rc fun b w => ∃ x, val x = b ∧ B x w)) ρ1 (SL w0 I L)) :
    YTr P l args (SL w0 I L) (fun x => .bool (val x)) B := by
  obtain ⟨fn, tmps, hs, hg, rfl⟩ := hrc
  intro w hw
  have hl := ((he.out.sl hw).mark (o' := .deferred none)).1
  refine ⟨fn, _, as_, bd, run_yield hl hps, roundIn_of_wpIn (F := Fence.wide) trivial ?_⟩
  refine wpIn_mono (h 0 _ w (hag tmps hs hg) hw) ?_
  intro e a w1 hq
  cases e with
  | normal =>
    obtain ⟨ρ1, ha1, hl1, hb⟩ := hq
    refine ⟨_, run_beginRound hl1 rfl, wpIn_mono (hb 0 a _ ha1 rfl) ?_⟩
    intro e a2 w2 hq2
    cases e with
    | normal =>
      obtain ⟨_, _, hr, x, hx, hB⟩ := hq2
      exact ⟨_, _, run_endRound none hr, x, (by show _ = Ending.returned (.bool (val x)); rw [hx]; rfl), hB⟩
    | ret =>
      obtain ⟨_, _, hr, x, hx, hB⟩ := hq2
      exact ⟨_, _, run_endRound (some .ret) hr, x, (by show _ = Ending.returned (.bool (val x)); rw [hx]; rfl), hB⟩
    | exit id =>
      obtain ⟨_, _, hr, x, hx, hB⟩ := hq2
      exact ⟨_, _, run_endRound (some (.exit id)) hr, x, (by show _ = Ending.returned (.bool (val x)); rw [hx]; rfl), hB⟩
    | goto t => obtain ⟨_, _, hf⟩ := hq2; exact hf.elim
    | panic c => exact hq2.elim
    | outgrown => exact hq2.elim
  | ret => obtain ⟨_, _, hf⟩ := hq; exact hf.elim
  | exit id => obtain ⟨_, _, hf⟩ := hq; exact hf.elim
  | goto t => obtain ⟨_, _, hf⟩ := hq; exact hf.elim
  | panic c => exact hq.elim
  | outgrown => exact hq.elim
theorem YTr.ent {l : Nat} {args : Array Value} {τ : Type} {val : τ → Value} {B : τ → World → Prop} (h : YTr P l args (SL w0 I L') val B) [e : EntC L L'] : YTr P l args (SL w0 I L) val B :=
  h.conv (fun _ hw => hw.to) fun x w hb => ⟨x, rfl, hb⟩
theorem WPA.rangeS {N : Nat} {g : Operand} {ps : Array Tmp} {as_ bd : Code} {Q : Hnd} {ρ : Env} {gf : FuncId} {caps : List Value} [hA : InSL A w0 I L] [hg : Ev ρ g (.func (.func gf) #[] caps.toArray)] [hf : Callb P gf]
    (h : ∀ (D : Nat) (rc : LoopState → Option Code → Obj), IsRec rc N ρ ps as_ bd D →
      ∃ (τ : Type) (val : τ → Value) (st : τ → LoopState) (jump : τ → Option Code) (L' : τ → List HP),
        Tr P gf (List.toArray (.func (.yield (D + 1)) #[] #[] :: caps)) (SL w0 I (Ob (D + 1) (rc .ready none) :: Ob D (.deferred (some [])) :: L)) val
          (fun x => SL w0 I (Ob (D + 1) (rc (st x) (jump x)) :: L' x)) ∧
        ∀ x, st x ≠ .busy ∧ jumpQ Q ⟨ρ.f, D :: ρ.ms⟩ (SL w0 I (L' x)) (jump x)) :
    WPA none P N (.rangeFunc g ps as_ bd) Q ρ A := by
  intro m a w ha hw
  replace hw := hA.out w hw
  refine wpIn_rangeFunc fun fn _ => ?_
  obtain ⟨τ, val, st, jump, L', hT, hk⟩ := h w.heap.size _ ⟨fn, a.tmps, ha.sz, ha.get, rfl⟩
  have hw1 := (hw.push (.deferred (some [])) (Ob w.heap.size (.deferred (some []))) rfl).push (.loop ⟨.ready, none, fn, a.tmps, ps, as_, bd, w.heap.size⟩) (Ob (w.heap.size + 1) (.loop ⟨.ready, none, fn, a.tmps, ps, as_, bd, w.heap.size⟩)) (by simp [Ob])
  have hen := run_enterLoop_outer (P := P) (w := w) fn a.tmps ps as_ bd
  have hw1' : SL w0 I (Ob (w.heap.size + 1) (.loop ⟨.ready, none, fn, a.tmps, ps, as_, bd, w.heap.size⟩) :: Ob w.heap.size (.deferred (some [])) :: L) ((w.alloc (.deferred (some []))).alloc (.loop ⟨.ready, none, fn, a.tmps, ps, as_, bd, w.heap.size⟩)) := hw1
  generalize (w.alloc (.deferred (some []))).alloc (.loop ⟨.ready, none, fn, a.tmps, ps, as_, bd, w.heap.size⟩) = W1 at hen hw1'
  have hg' : a.eval g = .func (.func gf) #[] caps.toArray := by rw [ha.eval]; exact hg.out
  refine ⟨w.heap.size + 1, [{ target := .collected w.heap.size, args := #[] }], W1, { target := .fn (.func gf) caps.toArray, args := #[.func (.yield (w.heap.size + 1)) #[] #[]] }, W1, gf,
    #[.func (.yield (w.heap.size + 1)) #[] #[]] ++ caps.toArray, W1, hen, ?_, fun _ _ => trivial, ?_, fun h => (by cases h), ?_⟩
  · simp only [resolve, hg']
    simp [go_sem, Deferred.ofValue]
  · simp [invoke, go_sem, run_callFunc hf.out]
  · have e : (#[.func (.yield (w.heap.size + 1)) #[] #[]] ++ caps.toArray : Array Value) = List.toArray (.func (.yield (w.heap.size + 1)) #[] #[] :: caps) := by simp
    rw [e]
    have hc : CallsIn (FR none) (m - 1) P gf _ _ _ := callsIn_wide.2 (hT _ hw1')
    refine hc.mono ?_
    rintro e w3 ⟨x, rfl, hB⟩
    obtain ⟨hst, hj⟩ := hk x
    obtain ⟨hl, hB1⟩ := hB.mark (o' := .loop { (⟨st x, jump x, fn, a.tmps, ps, as_, bd, w.heap.size⟩ : Loop) with state := .exhausted })
    refine ⟨_, _, run_endLoop hl hst, ?_⟩
    have hB2 := Ent.drop1.sl hB1
    have ha2 : Agree N ⟨ρ.f, w.heap.size :: ρ.ms⟩ { a with defers := [{ target := .collected w.heap.size, args := #[] }] ++ a.defers } := ⟨ha.sz, ha.get, by show _ :: a.defers = _; rw [ha.df]; rfl⟩
    generalize jump x = j at hj hB2 hB hl ⊢
    unfold jumpQ at hj
    split at hj
    · exact ⟨_, ha2, hj _ hB2⟩
    · exact wpIn_ret ⟨_, ha2, hj _ hB2⟩
    · exact wpIn_exit ⟨_, ha2, hj _ hB2⟩
    · exact hj.elim
end
end Go.Fw
namespace Go.Fw
open Go Go.RowKit
set_option linter.unusedVariables false
set_option linter.unusedSimpArgs false
class EncI (α : Type) [Enc α] : Prop where
  inj : ∀ x y : α, Enc.cells x = Enc.cells y → x = y
instance : EncI Int := ⟨fun x y h => by injection h with h _; injection h⟩
instance : EncI Bool := ⟨fun x y h => by injection h with h _; injection h⟩
instance : EncI ByteArray := ⟨fun x y h => by injection h with h _; injection h⟩
instance : EncI SV := ⟨fun x y h => by
  injection h with h _; injection h with h1 h2 h3
  cases x; cases y; simp only at h1 h2 h3; rw [h1, h2, h3]⟩
instance {α β : Type} [Enc α] [Enc β] [EncI α] [EncI β] : EncI (α × β) := ⟨fun x y h => by
  have h : Enc.cells x.1 ++ Enc.cells x.2 = Enc.cells y.1 ++ Enc.cells y.2 := h
  have h' := List.append_inj h (by rw [Enc.len, Enc.len])
  exact Prod.ext (EncI.inj _ _ h'.1) (EncI.inj _ _ h'.2)⟩
theorem RdW.det {α : Type} [Enc α] [EncI α] {w : World} {s : SV} {xs ys : List α} (h : RdW w s xs) (k : RdW w s ys) : xs = ys := by
  have hx := h.len
  have hy := k.len
  refine List.ext_getElem (by omega) fun i h1 h2 => EncI.inj _ _ ?_
  have e1 : xs.getD i Enc.dflt = xs[i] := by simp [List.getD_eq_getElem?_getD, h1]
  have e2 : ys.getD i Enc.dflt = ys[i] := by simp [List.getD_eq_getElem?_getD, h2]
  refine List.ext_getElem (by rw [Enc.len, Enc.len]) fun q h3 h4 => ?_
  have a := h.cells i q _ h1 (by rw [e1]; exact List.getElem?_eq_getElem h3)
  have b := k.cells i q _ h2 (by rw [e2]; exact List.getElem?_eq_getElem h4)
  rw [a] at b
  injection b
open Classical in
noncomputable def rd (α : Type) [e : Enc α] (I : Foot) (s : SV) : List α := if h : ∃ xs : List α, SlI I s α e xs then h.choose else []
theorem SlI.rd {α : Type} [e : Enc α] {I : Foot} {s : SV} {xs : List α} (h : SlI I s α e xs) : SlI I s α e (Go.Fw.rd α I s) := by
  unfold Go.Fw.rd
  have hx : ∃ xs : List α, SlI I s α e xs := ⟨xs, h⟩
  rw [dif_pos hx]
  exact hx.choose_spec
theorem SlI.det {α : Type} [e : Enc α] [EncI α] {I : Foot} {s : SV} {xs ys : List α} (h : SlI I s α e xs) (k : SlI I s α e ys) {w0 : World} {L : List HP} {w : World} (hw : SL w0 I L w) : xs = ys :=
  (h.out w fun b o hb => hw.mem b o hb).det (k.out w fun b o hb => hw.mem b o hb)
theorem SlI.sub {α : Type} [e : Enc α] {I I' : Foot} {s : SV} {xs : List α} (h : SlI I s α e xs) [hs : SubI I' I] : SlI I' s α e xs := ⟨fun w hw => h.out w fun b o hb => hw b o (hs.out hb)⟩
section
variable {ro : Option Nat} {P : Program} {n : Nat} {Q : Hnd} {ρ : Env} {ops : Array Oper} {w0 : World} {I : Foot} {L : List HP}
theorem WPA.rd {c : Code} {α : Type} {e : Enc α} [EncI α] {s : SV} {xs : List α} (h : SlI I s α e xs) (k : Go.Fw.rd α I s = xs → WPA ro P n c Q ρ (SL w0 I L)) : WPA ro P n c Q ρ (SL w0 I L) := fun m a w ha hA => k (h.rd.det h hA) m a w ha hA
theorem WLA.rd {l : List Oper} {α : Type} {e : Enc α} [EncI α] {s : SV} {xs : List α} (h : SlI I s α e xs) (k : Go.Fw.rd α I s = xs → WLA ro P n ops Q l ρ (SL w0 I L)) : WLA ro P n ops Q l ρ (SL w0 I L) := fun m a w ha hA => k (h.rd.det h hA) m a w ha hA
end
theorem SlI.ofLit {α : Type} [e : Enc α] {t : TypeId} {s : SV} {xs : List α} {R : Foot} (h : LitS t s xs R) : SlI R s α e xs := ⟨fun w hw => OwnR.rdW h hw⟩
def RowH {α : Type} [Enc α] (e : TypeId) : List SV → List (List α) → HP
  | s :: ss, t :: ts => star (OwnS e s t) (RowH e ss ts)
  | _, _ => fun R => R = []
theorem RowH.nil {α : Type} [Enc α] {e : TypeId} {L : List HP} : Ent L (RowH e [] ([] : List (List α)) :: L) := Ent.intro1 rfl
theorem RowH.snoc {α : Type} [Enc α] {e : TypeId} {s : SV} {t : List α} : ∀ {ss : List SV} {ts : List (List α)} {L : List HP}, ss.length = ts.length → Ent (OwnS e s t :: RowH e ss ts :: L) (RowH e (ss ++ [s]) (ts ++ [t]) :: L)
  | [], [], L, _ => Ent.star (Ent.cons Ent.drop1 |>.trans (Ent.cons (Ent.intro1 (p := RowH e [] ([] : List (List α))) rfl)))
  | s1 :: ss, t1 :: ts, L, h => by
    simp only [List.cons_append, RowH]
    refine (Ent.cons Ent.unstar).trans (Ent.swap.trans ?_)
    refine (Ent.cons (RowH.snoc (by simpa using h))).trans ?_
    exact Ent.star Ent.refl
  | [], t1 :: ts, L, h => by simp at h
  | s1 :: ss, [], L, h => by simp at h
theorem RowH.frozen {α : Type} [en : Enc α] {e : TypeId} : ∀ {ss : List SV} {ts : List (List α)} {R : Foot}, RowH e ss ts R → ∀ i, i < ss.length → i < ts.length → SlI R (ss.getD i SV.nil) α en (ts.getD i [])
  | s :: ss, t :: ts, R, h, 0, _, _ => by
    obtain ⟨R1, R2, h1, h2, rfl⟩ := h
    have := SlI.ofOwn h1
    simp only [List.getD_cons_zero]
    exact SlI.left
  | s :: ss, t :: ts, R, h, i + 1, hi, hj => by
    obtain ⟨R1, R2, h1, h2, rfl⟩ := h
    have := RowH.frozen h2 i (by simpa using hi) (by simpa using hj)
    simp only [List.getD_cons_succ]
    exact SlI.right
theorem RowH.rdW {α : Type} [en : Enc α] {e : TypeId} {ss : List SV} {ts : List (List α)} {i : Nat} (hi : i < ss.length) (hj : i < ts.length) {I w0 w} {L : List HP} (h : SL w0 I (RowH e ss ts :: L) w) : RdW w (ss.getD i SV.nil) (ts.getD i []) := by
  obtain ⟨R, hR, h1⟩ := h.freeze
  have := RowH.frozen hR i hi hj
  exact (SlI.left (I := I) : SlI (R ++ I) _ _ _ _).out w fun b o hb => h1.mem b o hb
class IsRow {α : Type} (ss : List SV) (ts : List (List α)) (s : SV) (xs : outParam (List α)) : Prop where
  out : ∃ i, i < ss.length ∧ i < ts.length ∧ ss.getD i SV.nil = s ∧ ts.getD i [] = xs
theorem IsRow.at {α : Type} {ss : List SV} {ts : List (List α)} {i : Int} (h0 : 0 ≤ i) (h1 : i < ss.length) (h2 : i < ts.length) : IsRow ss ts (at_ ss i) (ts.getD i.toNat []) := ⟨⟨i.toNat, by omega, by omega, rfl, rfl⟩⟩
instance OwnIn.row {α : Type} [e : Enc α] {L : List HP} {t : TypeId} {ss : List SV} {ts : List (List α)} {s : SV} {xs : List α} [h : IsRow ss ts s xs] : OwnIn (RowH t ss ts :: L) s α e xs := ⟨fun I w0 w hw => by
  obtain ⟨i, h1, h2, h3, h4⟩ := h.out
  have := RowH.rdW h1 h2 hw
  rw [h3, h4] at this; exact this⟩
section
variable {P : Program} {ρ : Env} {A : World → Prop} {ty : TypeId} {x y : Operand} {t u : TypeId} {k : IntKind} {a b : Int}
theorem convW {src dst : TypeId} {k' : IntKind} [h : Ev ρ x (.int k' a)] [hd : Und P dst (.int k)] [hs : Und P src (.int k')] : OpM P ρ A (.convert src dst x) ty (.int k (k.wrap a)) True := ⟨fun _ => P_convInt hs.out hd.out h.out⟩
end
end Go.Fw
namespace Go.Proofs.Ytbekjbgaenjbfaa
open Go Go.Fw
set_option linter.unusedSimpArgs false
theorem mixed : Try.prog.follows .mixedOrders = true := by kernel_rfl
instance : Callb Try.prog 2 := ⟨by kernel_rfl⟩
instance : Callb Try.prog 3 := ⟨by kernel_rfl⟩
instance : Callb Try.prog 4 := ⟨by kernel_rfl⟩
instance : Callb Try.prog 5 := ⟨by kernel_rfl⟩
instance : Callb Try.prog 6 := ⟨by kernel_rfl⟩
instance : Callb Try.prog 7 := ⟨by kernel_rfl⟩
instance : Callb Try.prog 8 := ⟨by kernel_rfl⟩
instance : Callb Try.prog 9 := ⟨by kernel_rfl⟩
instance : Callb Try.prog 10 := ⟨by kernel_rfl⟩
instance : Callb Try.prog 11 := ⟨by kernel_rfl⟩
instance : Callb Try.prog 12 := ⟨by kernel_rfl⟩
instance : Callb Try.prog 13 := ⟨by kernel_rfl⟩
instance : Callb Try.prog 14 := ⟨by kernel_rfl⟩
instance : Callb Try.prog 15 := ⟨by kernel_rfl⟩
instance : Callb Try.prog 16 := ⟨by kernel_rfl⟩
instance : Callb Try.prog 17 := ⟨by kernel_rfl⟩
instance : Callb Try.prog 18 := ⟨by kernel_rfl⟩
instance : Callb Try.prog 19 := ⟨by kernel_rfl⟩
instance : Callb Try.prog 20 := ⟨by kernel_rfl⟩
instance : Callb Try.prog 21 := ⟨by kernel_rfl⟩
instance : Callb Try.prog 22 := ⟨by kernel_rfl⟩
instance : Callb Try.prog 23 := ⟨by kernel_rfl⟩
instance : Callb Try.prog 24 := ⟨by kernel_rfl⟩
instance : Callb Try.prog 25 := ⟨by kernel_rfl⟩
instance : Callb Try.prog 26 := ⟨by kernel_rfl⟩
instance : Callb Try.prog 27 := ⟨by kernel_rfl⟩
instance : Callb Try.prog 28 := ⟨by kernel_rfl⟩
instance : Callb Try.prog 29 := ⟨by kernel_rfl⟩
instance : Callb Try.prog 30 := ⟨by kernel_rfl⟩
instance : Callb Try.prog 31 := ⟨by kernel_rfl⟩
instance : Callb Try.prog 32 := ⟨by kernel_rfl⟩
instance : Callb Try.prog 33 := ⟨by kernel_rfl⟩
instance : Callb Try.prog 34 := ⟨by kernel_rfl⟩
instance : Callb Try.prog 35 := ⟨by kernel_rfl⟩
instance : Callb Try.prog 36 := ⟨by kernel_rfl⟩
instance : Callb Try.prog 37 := ⟨by kernel_rfl⟩
instance : Callb Try.prog 38 := ⟨by kernel_rfl⟩
instance : Callb Try.prog 39 := ⟨by kernel_rfl⟩
instance : Callb Try.prog 40 := ⟨by kernel_rfl⟩
instance : Callb Try.prog 41 := ⟨by kernel_rfl⟩
instance : Callb Try.prog 42 := ⟨by kernel_rfl⟩
instance : Callb Try.prog 43 := ⟨by kernel_rfl⟩
instance : Callb Try.prog 44 := ⟨by kernel_rfl⟩
instance : Callb Try.prog 45 := ⟨by kernel_rfl⟩
instance : Callb Try.prog 46 := ⟨by kernel_rfl⟩
instance : Callb Try.prog 47 := ⟨by kernel_rfl⟩
instance : Callb Try.prog 48 := ⟨by kernel_rfl⟩
instance : Callb Try.prog 49 := ⟨by kernel_rfl⟩
instance : Callb Try.prog 50 := ⟨by kernel_rfl⟩
instance : Callb Try.prog 51 := ⟨by kernel_rfl⟩
instance : Callb Try.prog 52 := ⟨by kernel_rfl⟩
instance : Callb Try.prog 53 := ⟨by kernel_rfl⟩
instance : Callb Try.prog 54 := ⟨by kernel_rfl⟩
instance : Callb Try.prog 55 := ⟨by kernel_rfl⟩
instance : Callb Try.prog 56 := ⟨by kernel_rfl⟩
instance : Callb Try.prog 57 := ⟨by kernel_rfl⟩
instance : Callb Try.prog 58 := ⟨by kernel_rfl⟩
instance : Callb Try.prog 59 := ⟨by kernel_rfl⟩
instance : Callb Try.prog 60 := ⟨by kernel_rfl⟩
instance : Callb Try.prog 61 := ⟨by kernel_rfl⟩
instance : Callb Try.prog 62 := ⟨by kernel_rfl⟩
instance : Callb Try.prog 63 := ⟨by kernel_rfl⟩
instance : Callb Try.prog 64 := ⟨by kernel_rfl⟩
instance : Callb Try.prog 65 := ⟨by kernel_rfl⟩
instance : Callb Try.prog 66 := ⟨by kernel_rfl⟩
instance : Callb Try.prog 67 := ⟨by kernel_rfl⟩
instance : Callb Try.prog 68 := ⟨by kernel_rfl⟩
instance : Callb Try.prog 69 := ⟨by kernel_rfl⟩
instance : Callb Try.prog 70 := ⟨by kernel_rfl⟩
instance : Callb Try.prog 71 := ⟨by kernel_rfl⟩
instance : Callb Try.prog 72 := ⟨by kernel_rfl⟩
instance : Callb Try.prog 73 := ⟨by kernel_rfl⟩
instance : Callb Try.prog 74 := ⟨by kernel_rfl⟩
instance : Callb Try.prog 75 := ⟨by kernel_rfl⟩
instance : Callb Try.prog 76 := ⟨by kernel_rfl⟩
instance : Callb Try.prog 77 := ⟨by kernel_rfl⟩
instance : Callb Try.prog 78 := ⟨by kernel_rfl⟩
instance : Callb Try.prog 80 := ⟨by kernel_rfl⟩
instance : Callb Try.prog 81 := ⟨by kernel_rfl⟩
instance : Callb Try.prog 82 := ⟨by kernel_rfl⟩
instance : Callb Try.prog 83 := ⟨by kernel_rfl⟩
instance : Callb Try.prog 84 := ⟨by kernel_rfl⟩
instance : Callb Try.prog 85 := ⟨by kernel_rfl⟩
instance : Callb Try.prog 86 := ⟨by kernel_rfl⟩
instance : Callb Try.prog 87 := ⟨by kernel_rfl⟩
instance : Callb Try.prog 88 := ⟨by kernel_rfl⟩
instance : Callb Try.prog 89 := ⟨by kernel_rfl⟩
instance : Callb Try.prog 90 := ⟨by kernel_rfl⟩
instance : Callb Try.prog 91 := ⟨by kernel_rfl⟩
instance : Callb Try.prog 92 := ⟨by kernel_rfl⟩
instance : Callb Try.prog 93 := ⟨by kernel_rfl⟩
instance : Callb Try.prog 94 := ⟨by kernel_rfl⟩
instance : Callb Try.prog 95 := ⟨by kernel_rfl⟩
instance : Callb Try.prog 96 := ⟨by kernel_rfl⟩
instance : Callb Try.prog 97 := ⟨by kernel_rfl⟩
instance : Callb Try.prog 98 := ⟨by kernel_rfl⟩
instance : Und Try.prog 3 (.int .i64) := ⟨Try.underlying3⟩
instance : Inf Try.prog 3 [.int .i64 0] 1 8 := ⟨by kernel_rfl⟩
instance : One Try.prog 3 := ⟨by kernel_rfl⟩
instance : Phys Try.prog 3 Int inferInstance := ⟨trivial⟩
instance : Und Try.prog 4 (.bool) := ⟨Try.underlying4⟩
instance : Inf Try.prog 4 [.bool false] 1 1 := ⟨by kernel_rfl⟩
instance : One Try.prog 4 := ⟨by kernel_rfl⟩
instance : Phys Try.prog 4 Bool inferInstance := ⟨trivial⟩
instance : Und Try.prog 5 (.int .u8) := ⟨Try.underlying5⟩
instance : Inf Try.prog 5 [.int .u8 0] 1 1 := ⟨by kernel_rfl⟩
instance : One Try.prog 5 := ⟨by kernel_rfl⟩
instance : Phys Try.prog 5 (KInt .u8) inferInstance := ⟨trivial⟩
instance : Und Try.prog 9 (.string) := ⟨Try.underlying9⟩
instance : Inf Try.prog 9 [.string ⟨#[]⟩] 1 16 := ⟨by kernel_rfl⟩
instance : One Try.prog 9 := ⟨by kernel_rfl⟩
instance : Phys Try.prog 9 ByteArray inferInstance := ⟨trivial⟩
instance : Und Try.prog 22 (.slice 9) := ⟨Try.underlying22⟩
instance : Inf Try.prog 22 [.slice none 0 0] 1 24 := ⟨by kernel_rfl⟩
instance : One Try.prog 22 := ⟨by kernel_rfl⟩
instance : Phys Try.prog 22 SV inferInstance := ⟨trivial⟩
instance : Und Try.prog 23 (.slice 3) := ⟨Try.underlying23⟩
instance : Inf Try.prog 23 [.slice none 0 0] 1 24 := ⟨by kernel_rfl⟩
instance : One Try.prog 23 := ⟨by kernel_rfl⟩
instance : Phys Try.prog 23 SV inferInstance := ⟨trivial⟩
instance : Inf Try.prog 25 [.int .i64 0, .int .i64 0, .slice none 0 0] 3 40 := ⟨by kernel_rfl⟩
instance : Agg Try.prog 25 3 := ⟨by kernel_rfl⟩
instance : Phys Try.prog 25 (Int × Int × SV) inferInstance := ⟨trivial⟩
instance : Und Try.prog 27 (.pointer 74) := ⟨Try.underlying27⟩
instance : Inf Try.prog 27 [.pointer none] 1 8 := ⟨by kernel_rfl⟩
instance : One Try.prog 27 := ⟨by kernel_rfl⟩
instance : Phys Try.prog 27 (Option Addr) inferInstance := ⟨trivial⟩
instance : Und Try.prog 28 (.int .i64) := ⟨Try.underlying28⟩
instance : Inf Try.prog 28 [.int .i64 0] 1 8 := ⟨by kernel_rfl⟩
instance : One Try.prog 28 := ⟨by kernel_rfl⟩
instance : Phys Try.prog 28 Int inferInstance := ⟨trivial⟩
instance : Und Try.prog 31 (.pointer 34) := ⟨Try.underlying31⟩
instance : Inf Try.prog 31 [.pointer none] 1 8 := ⟨by kernel_rfl⟩
instance : One Try.prog 31 := ⟨by kernel_rfl⟩
instance : Phys Try.prog 31 (Option Addr) inferInstance := ⟨trivial⟩
instance : Und Try.prog 32 (.slice 4) := ⟨Try.underlying32⟩
instance : Inf Try.prog 32 [.slice none 0 0] 1 24 := ⟨by kernel_rfl⟩
instance : One Try.prog 32 := ⟨by kernel_rfl⟩
instance : Phys Try.prog 32 SV inferInstance := ⟨trivial⟩
instance : Inf Try.prog 34 [.int .i64 0, .int .i64 0, .slice none 0 0, .slice none 0 0, .int .i64 0] 5 72 := ⟨by kernel_rfl⟩
instance : Agg Try.prog 34 5 := ⟨by kernel_rfl⟩
instance : Phys Try.prog 34 (Int × Int × SV × SV × Int) inferInstance := ⟨trivial⟩
instance : Und Try.prog 41 (.slice 67) := ⟨Try.underlying41⟩
instance : Inf Try.prog 41 [.slice none 0 0] 1 24 := ⟨by kernel_rfl⟩
instance : One Try.prog 41 := ⟨by kernel_rfl⟩
instance : Phys Try.prog 41 SV inferInstance := ⟨trivial⟩
instance : Inf Try.prog 50 [.int .i64 0, .int .i64 0, .int .i64 0] 3 24 := ⟨by kernel_rfl⟩
instance : Agg Try.prog 50 3 := ⟨by kernel_rfl⟩
instance : Inf Try.prog 67 [.slice none 0 0, .int .i64 0] 2 32 := ⟨by kernel_rfl⟩
instance : Agg Try.prog 67 2 := ⟨by kernel_rfl⟩
instance : Phys Try.prog 67 (SV × Int) inferInstance := ⟨trivial⟩
instance : Und Try.prog 69 (.func #[112] #[] false) := ⟨Try.underlying69⟩
instance : Inf Try.prog 69 [.nilFunc] 1 8 := ⟨by kernel_rfl⟩
instance : One Try.prog 69 := ⟨by kernel_rfl⟩
instance : Phys Try.prog 69 Any inferInstance := ⟨trivial⟩
instance : Und Try.prog 72 (.slice 77) := ⟨Try.underlying72⟩
instance : Inf Try.prog 72 [.slice none 0 0] 1 24 := ⟨by kernel_rfl⟩
instance : One Try.prog 72 := ⟨by kernel_rfl⟩
instance : Phys Try.prog 72 SV inferInstance := ⟨trivial⟩
instance : Inf Try.prog 74 [.int .i64 0, .int .i64 0, .slice none 0 0, .int .i64 0, .int .i64 0, .int .i64 0] 6 64 := ⟨by kernel_rfl⟩
instance : Agg Try.prog 74 6 := ⟨by kernel_rfl⟩
instance : Phys Try.prog 74 (Int × Int × SV × Int × Int × Int) inferInstance := ⟨trivial⟩
instance : Und Try.prog 75 (.slice 5) := ⟨Try.underlying75⟩
instance : Inf Try.prog 75 [.slice none 0 0] 1 24 := ⟨by kernel_rfl⟩
instance : One Try.prog 75 := ⟨by kernel_rfl⟩
instance : Phys Try.prog 75 SV inferInstance := ⟨trivial⟩
instance : Inf Try.prog 77 [.slice none 0 0, .bool false] 2 32 := ⟨by kernel_rfl⟩
instance : Agg Try.prog 77 2 := ⟨by kernel_rfl⟩
instance : Phys Try.prog 77 (SV × Bool) inferInstance := ⟨trivial⟩
instance : Und Try.prog 82 (.pointer 121) := ⟨Try.underlying82⟩
instance : Inf Try.prog 82 [.pointer none] 1 8 := ⟨by kernel_rfl⟩
instance : One Try.prog 82 := ⟨by kernel_rfl⟩
instance : Phys Try.prog 82 (Option Addr) inferInstance := ⟨trivial⟩
instance : Und Try.prog 89 (.pointer 91) := ⟨Try.underlying89⟩
instance : Inf Try.prog 89 [.pointer none] 1 8 := ⟨by kernel_rfl⟩
instance : One Try.prog 89 := ⟨by kernel_rfl⟩
instance : Phys Try.prog 89 (Option Addr) inferInstance := ⟨trivial⟩
instance : Inf Try.prog 91 [.string ⟨#[]⟩, .int .i64 0] 2 24 := ⟨by kernel_rfl⟩
instance : Agg Try.prog 91 2 := ⟨by kernel_rfl⟩
instance : Phys Try.prog 91 (ByteArray × Int) inferInstance := ⟨trivial⟩
instance : Und Try.prog 94 (.pointer 96) := ⟨Try.underlying94⟩
instance : Inf Try.prog 94 [.pointer none] 1 8 := ⟨by kernel_rfl⟩
instance : One Try.prog 94 := ⟨by kernel_rfl⟩
instance : Phys Try.prog 94 (Option Addr) inferInstance := ⟨trivial⟩
instance : Inf Try.prog 96 [.slice none 0 0] 1 24 := ⟨by kernel_rfl⟩
instance : Agg Try.prog 96 1 := ⟨by kernel_rfl⟩
instance : Phys Try.prog 96 (SV) inferInstance := ⟨trivial⟩
instance : Und Try.prog 100 (.int .u64) := ⟨Try.underlying100⟩
instance : Inf Try.prog 100 [.int .u64 0] 1 8 := ⟨by kernel_rfl⟩
instance : One Try.prog 100 := ⟨by kernel_rfl⟩
instance : Phys Try.prog 100 (KInt .u64) inferInstance := ⟨trivial⟩
instance : Und Try.prog 110 (.func #[78] #[] false) := ⟨Try.underlying110⟩
instance : Inf Try.prog 110 [.nilFunc] 1 8 := ⟨by kernel_rfl⟩
instance : One Try.prog 110 := ⟨by kernel_rfl⟩
instance : Phys Try.prog 110 Any inferInstance := ⟨trivial⟩
instance : Und Try.prog 113 (.pointer 115) := ⟨Try.underlying113⟩
instance : Inf Try.prog 113 [.pointer none] 1 8 := ⟨by kernel_rfl⟩
instance : One Try.prog 113 := ⟨by kernel_rfl⟩
instance : Phys Try.prog 113 (Option Addr) inferInstance := ⟨trivial⟩
instance : Inf Try.prog 115 [.pointer none, .slice none 0 0] 2 32 := ⟨by kernel_rfl⟩
instance : Agg Try.prog 115 2 := ⟨by kernel_rfl⟩
instance : Phys Try.prog 115 ((Option Addr) × SV) inferInstance := ⟨trivial⟩
instance : Inf Try.prog 121 [.string ⟨#[]⟩, .int .i64 0, .int .i64 0] 3 32 := ⟨by kernel_rfl⟩
instance : Agg Try.prog 121 3 := ⟨by kernel_rfl⟩
instance : Phys Try.prog 121 (ByteArray × Int × Int) inferInstance := ⟨trivial⟩
instance : Und Try.prog 127 (.int .u64) := ⟨Try.underlying127⟩
instance : Inf Try.prog 127 [.int .u64 0] 1 8 := ⟨by kernel_rfl⟩
instance : One Try.prog 127 := ⟨by kernel_rfl⟩
instance : Phys Try.prog 127 (KInt .u64) inferInstance := ⟨trivial⟩
instance : Und Try.prog 129 (.pointer 5) := ⟨Try.underlying129⟩
instance : Inf Try.prog 129 [.pointer none] 1 8 := ⟨by kernel_rfl⟩
instance : One Try.prog 129 := ⟨by kernel_rfl⟩
instance : Phys Try.prog 129 (Option Addr) inferInstance := ⟨trivial⟩
instance : Und Try.prog 131 (.func #[9] #[3, 28] false) := ⟨Try.underlying131⟩
instance : Inf Try.prog 131 [.nilFunc] 1 8 := ⟨by kernel_rfl⟩
instance : One Try.prog 131 := ⟨by kernel_rfl⟩
instance : Phys Try.prog 131 Any inferInstance := ⟨trivial⟩
instance : Und Try.prog 141 (.int .i64) := ⟨Try.underlying141⟩
instance : Inf Try.prog 141 [.int .i64 0] 1 8 := ⟨by kernel_rfl⟩
instance : One Try.prog 141 := ⟨by kernel_rfl⟩
instance : Phys Try.prog 141 Int inferInstance := ⟨trivial⟩
instance : Und Try.prog 150 (.int .u32) := ⟨Try.underlying150⟩
instance : Inf Try.prog 150 [.int .u32 0] 1 4 := ⟨by kernel_rfl⟩
instance : One Try.prog 150 := ⟨by kernel_rfl⟩
instance : Phys Try.prog 150 (KInt .u32) inferInstance := ⟨trivial⟩
instance : Und Try.prog 152 (.int .u64) := ⟨Try.underlying152⟩
instance : Inf Try.prog 152 [.int .u64 0] 1 8 := ⟨by kernel_rfl⟩
instance : One Try.prog 152 := ⟨by kernel_rfl⟩
instance : Phys Try.prog 152 (KInt .u64) inferInstance := ⟨trivial⟩
instance : Und Try.prog 156 (.pointer 3) := ⟨Try.underlying156⟩
instance : Inf Try.prog 156 [.pointer none] 1 8 := ⟨by kernel_rfl⟩
instance : One Try.prog 156 := ⟨by kernel_rfl⟩
instance : Phys Try.prog 156 (Option Addr) inferInstance := ⟨trivial⟩
instance : StructT Try.prog 25 [3, 3, 23] := ⟨by kernel_rfl⟩
instance : StructT Try.prog 34 [3, 3, 22, 32, 3] := ⟨by kernel_rfl⟩
instance : StructT Try.prog 67 [23, 3] := ⟨by kernel_rfl⟩
instance : StructT Try.prog 74 [3, 3, 72, 3, 3, 3] := ⟨by kernel_rfl⟩
instance : StructT Try.prog 77 [75, 4] := ⟨by kernel_rfl⟩
instance : StructT Try.prog 91 [9, 3] := ⟨by kernel_rfl⟩
instance : StructT Try.prog 96 [75] := ⟨by kernel_rfl⟩
instance : StructT Try.prog 115 [113, 75] := ⟨by kernel_rfl⟩
instance : StructT Try.prog 121 [9, 3, 28] := ⟨by kernel_rfl⟩
instance : FieldO Try.prog 25 0 0 := ⟨by kernel_rfl⟩
instance : FieldO Try.prog 25 1 1 := ⟨by kernel_rfl⟩
instance : FieldO Try.prog 25 2 2 := ⟨by kernel_rfl⟩
instance : FieldO Try.prog 34 0 0 := ⟨by kernel_rfl⟩
instance : FieldO Try.prog 34 1 1 := ⟨by kernel_rfl⟩
instance : FieldO Try.prog 34 2 2 := ⟨by kernel_rfl⟩
instance : FieldO Try.prog 34 3 3 := ⟨by kernel_rfl⟩
instance : FieldO Try.prog 34 4 4 := ⟨by kernel_rfl⟩
instance : FieldO Try.prog 67 0 0 := ⟨by kernel_rfl⟩
instance : FieldO Try.prog 67 1 1 := ⟨by kernel_rfl⟩
instance : FieldO Try.prog 74 0 0 := ⟨by kernel_rfl⟩
instance : FieldO Try.prog 74 1 1 := ⟨by kernel_rfl⟩
instance : FieldO Try.prog 74 2 2 := ⟨by kernel_rfl⟩
instance : FieldO Try.prog 74 3 3 := ⟨by kernel_rfl⟩
instance : FieldO Try.prog 74 4 4 := ⟨by kernel_rfl⟩
instance : FieldO Try.prog 74 5 5 := ⟨by kernel_rfl⟩
instance : FieldO Try.prog 77 0 0 := ⟨by kernel_rfl⟩
instance : FieldO Try.prog 77 1 1 := ⟨by kernel_rfl⟩
instance : FieldO Try.prog 91 0 0 := ⟨by kernel_rfl⟩
instance : FieldO Try.prog 91 1 1 := ⟨by kernel_rfl⟩
instance : FieldO Try.prog 96 0 0 := ⟨by kernel_rfl⟩
instance : FieldO Try.prog 115 0 0 := ⟨by kernel_rfl⟩
instance : FieldO Try.prog 115 1 1 := ⟨by kernel_rfl⟩
instance : FieldO Try.prog 121 0 0 := ⟨by kernel_rfl⟩
instance : FieldO Try.prog 121 1 1 := ⟨by kernel_rfl⟩
instance : FieldO Try.prog 121 2 2 := ⟨by kernel_rfl⟩
instance : BInfo Try.prog 25 [.int .i64 0, .int .i64 0, .slice none 0 0] [(0, 1), (1, 1), (2, 1)] := ⟨by kernel_rfl⟩
instance : BInfo Try.prog 34 [.int .i64 0, .int .i64 0, .slice none 0 0, .slice none 0 0, .int .i64 0] [(0, 1), (1, 1), (2, 1), (3, 1), (4, 1)] := ⟨by kernel_rfl⟩
instance : BInfo Try.prog 67 [.slice none 0 0, .int .i64 0] [(0, 1), (1, 1)] := ⟨by kernel_rfl⟩
instance : BInfo Try.prog 74 [.int .i64 0, .int .i64 0, .slice none 0 0, .int .i64 0, .int .i64 0, .int .i64 0] [(0, 1), (1, 1), (2, 1), (3, 1), (4, 1), (5, 1)] := ⟨by kernel_rfl⟩
instance : BInfo Try.prog 77 [.slice none 0 0, .bool false] [(0, 1), (1, 1)] := ⟨by kernel_rfl⟩
instance : BInfo Try.prog 91 [.string ⟨#[]⟩, .int .i64 0] [(0, 1), (1, 1)] := ⟨by kernel_rfl⟩
instance : BInfo Try.prog 96 [.slice none 0 0] [(0, 1)] := ⟨by kernel_rfl⟩
instance : BInfo Try.prog 121 [.string ⟨#[]⟩, .int .i64 0, .int .i64 0] [(0, 1), (1, 1), (2, 1)] := ⟨by kernel_rfl⟩
end Go.Proofs.Ytbekjbgaenjbfaa
namespace Go.Proofs.Ytbekjbgaenjbfaa
open Go Go.Fw Go.RowKit
set_option linter.unusedVariables false
set_option linter.unusedSimpArgs false
set_option maxRecDepth 100000
set_option maxHeartbeats 16000000
set_option synthInstance.maxHeartbeats 200000
set_option synthInstance.maxSize 100000
attribute [local irreducible] WPA WLA WDA WDQ WDE QQ seqQ blockQ loopQ fnQ OpP OpT Tr TrP SL SLd OwnS LitS Bk BkE Ob
section
variable {L : List HP} {w0 : World} {I : Foot}
theorem Ints_tr {a b : SV} {xs ys : List Int} [ha : RdS I L a Int inferInstance xs] [hb : RdS I L b Int inferInstance ys] (hn : xs.length ≤ 1000000000) : TrP Try.prog 27 #[.slice a.a a.n a.cap, .slice b.a b.n b.cap] (SL w0 I L) (.bool (decide (xs = ys))) := by
  refine TrP.ofD fun u => Tr.intro Try.func27 rfl Try.ntmps27 rfl ?_
  by_cases hl : xs.length = ys.length
  · have hl' : ¬ (xs.length : Int) ≠ ys.length := by omega
    repeat' (first | ((first | refine WLA.m rfl rfl ?_ ?_ | refine WLA.st rfl ?_ ?_ | refine WLA.x rfl rfl ?_ (fun x => ?_) | refine WLA.x0 rfl ?_ (fun x => ?_)); first | exact trivial | exact rfl | assumption | omega | (refine ⟨?_, ?_⟩ <;> omega) | (simp only [Room, List.length_set, List.length_append, List.length_cons, List.length_nil, List.length_replicate]; omega) | decide | skip) | (refine Stp.go ?_) | (refine WPA.ifT ?_) | (refine WPA.ifF ?_) | ((first | refine WPA.dec ?_); first | refine .inl ⟨by first | assumption | omega | with_reducible rfl | (refine fun h => h ?_; first | assumption | with_reducible rfl) | (simp only [List.length_append, List.length_cons, List.length_nil, List.length_set] <;> omega) | decide, ?_⟩ | refine .inr ⟨by first | assumption | omega | with_reducible rfl | (refine fun h => h ?_; first | assumption | with_reducible rfl) | (simp only [List.length_append, List.length_cons, List.length_nil, List.length_set] <;> omega) | decide, ?_⟩) | ((first | refine WPA.ifBt ?_ ?_ | refine WPA.ifBnf ?_ ?_); assumption) | ((first | refine WPA.ifBnt ?_ ?_ | refine WPA.ifBf ?_ ?_); assumption) | ((first | refine WPA.ifs ?_ ?_ | refine WPA.ifB ?_ ?_) <;> intro hc))
    refine WPA.loopS (σ := Nat) (fun i => [(0, .slice a.a a.n a.cap), (1, .slice b.a b.n b.cap), (5, .int .i64 i)]) (fun i => i ≤ xs.length ∧ xs.take i = ys.take i)
      (fun i => SLd w0 I L u) (fun i => xs.length - i) 0 ⟨rfl, rfl, rfl, trivial⟩ ⟨Nat.zero_le _, by simp⟩ (fun w h => h) ?_
    rintro i ρ ⟨hi, he⟩
    by_cases hlt : i < xs.length
    · have hlt' : (i : Int) < xs.length := by omega
      have hx := at_nat xs i hlt
      have hy := at_nat ys i (by omega)
      by_cases hxy : at_ xs (i : Int) = at_ ys (i : Int)
      · have hxy' : ¬ at_ xs (i : Int) ≠ at_ ys (i : Int) := fun h => h hxy
        repeat' (first | ((first | refine WLA.m rfl rfl ?_ ?_ | refine WDQ.m rfl rfl ?_ ?_ | refine WLA.st rfl ?_ ?_ | refine WLA.x rfl rfl ?_ (fun x => ?_) | refine WLA.x0 rfl ?_ (fun x => ?_)); first | exact trivial | exact rfl | assumption | omega | (refine ⟨?_, ?_⟩ <;> omega) | (simp only [Room, List.length_set, List.length_append, List.length_cons, List.length_nil, List.length_replicate]; omega) | decide | skip) | (refine Stp.go ?_) | (refine WPA.ifT ?_) | (refine WPA.ifF ?_) | ((first | refine WPA.dec ?_); first | refine .inl ⟨by first | assumption | omega | with_reducible rfl | (refine fun h => h ?_; first | assumption | with_reducible rfl) | (simp only [List.length_append, List.length_cons, List.length_nil, List.length_set] <;> omega) | decide, ?_⟩ | refine .inr ⟨by first | assumption | omega | with_reducible rfl | (refine fun h => h ?_; first | assumption | with_reducible rfl) | (simp only [List.length_append, List.length_cons, List.length_nil, List.length_set] <;> omega) | decide, ?_⟩) | ((first | refine WPA.ifBt ?_ ?_ | refine WPA.ifBnf ?_ ?_); assumption) | ((first | refine WPA.ifBnt ?_ ?_ | refine WPA.ifBf ?_ ?_); assumption) | ((first | refine WPA.ifs ?_ ?_ | refine WPA.ifB ?_ ?_) <;> intro hc) | (guard_target =~ WPA _ _ _ (.region 6 _ true) _ _ _; refine WPA.drawT 8 (.q 0 (.q 1 (.q 2 (.q 3 (.q 4 (.q 5 (.q 6 (.q 7 .fin)))))))) mixed ?_ ?_; kernel_rfl) | (refine WDA.finish (tl := [⟨_, _, _, _, _, _⟩]) rfl ?_) | (refine WDQ.see rfl ?_))
        refine QQ.loopS (i + 1) ⟨rfl, rfl, rfl, trivial⟩ ⟨hlt, ?_⟩ (by omega) (fun w h => h)
        rw [List.take_add_one, List.take_add_one, he, List.getElem?_eq_getElem hlt, List.getElem?_eq_getElem (by omega), ← hx, ← hy, hxy]
      · have hxy' : at_ xs (i : Int) ≠ at_ ys (i : Int) := hxy
        repeat' (first | ((first | refine WLA.m rfl rfl ?_ ?_ | refine WDQ.m rfl rfl ?_ ?_ | refine WLA.st rfl ?_ ?_ | refine WLA.x rfl rfl ?_ (fun x => ?_) | refine WLA.x0 rfl ?_ (fun x => ?_)); first | exact trivial | exact rfl | assumption | omega | (refine ⟨?_, ?_⟩ <;> omega) | (simp only [Room, List.length_set, List.length_append, List.length_cons, List.length_nil, List.length_replicate]; omega) | decide | skip) | (refine Stp.go ?_) | (refine WPA.ifT ?_) | (refine WPA.ifF ?_) | ((first | refine WPA.dec ?_); first | refine .inl ⟨by first | assumption | omega | with_reducible rfl | (refine fun h => h ?_; first | assumption | with_reducible rfl) | (simp only [List.length_append, List.length_cons, List.length_nil, List.length_set] <;> omega) | decide, ?_⟩ | refine .inr ⟨by first | assumption | omega | with_reducible rfl | (refine fun h => h ?_; first | assumption | with_reducible rfl) | (simp only [List.length_append, List.length_cons, List.length_nil, List.length_set] <;> omega) | decide, ?_⟩) | ((first | refine WPA.ifBt ?_ ?_ | refine WPA.ifBnf ?_ ?_); assumption) | ((first | refine WPA.ifBnt ?_ ?_ | refine WPA.ifBf ?_ ?_); assumption) | ((first | refine WPA.ifs ?_ ?_ | refine WPA.ifB ?_ ?_) <;> intro hc) | (guard_target =~ WPA _ _ _ (.region 6 _ true) _ _ _; refine WPA.drawT 8 (.q 0 (.q 1 (.q 2 (.q 3 (.q 4 (.q 5 (.q 6 (.q 7 .fin)))))))) mixed ?_ ?_; kernel_rfl) | (refine WDA.finish (tl := [⟨_, _, _, _, _, _⟩]) rfl ?_) | (refine WDQ.see rfl ?_))
        refine QQ.end_ rfl () (congrArg Value.bool (decide_eq_false fun e => hxy ?_).symm) fun w h => h
        subst e; rfl
    · have hlt' : ¬ (i : Int) < xs.length := by omega
      repeat' (first | ((first | refine WLA.m rfl rfl ?_ ?_ | refine WDQ.m rfl rfl ?_ ?_ | refine WLA.st rfl ?_ ?_ | refine WLA.x rfl rfl ?_ (fun x => ?_) | refine WLA.x0 rfl ?_ (fun x => ?_)); first | exact trivial | exact rfl | assumption | omega | (refine ⟨?_, ?_⟩ <;> omega) | (simp only [Room, List.length_set, List.length_append, List.length_cons, List.length_nil, List.length_replicate]; omega) | decide | skip) | (refine Stp.go ?_) | (refine WPA.ifT ?_) | (refine WPA.ifF ?_) | ((first | refine WPA.dec ?_); first | refine .inl ⟨by first | assumption | omega | with_reducible rfl | (refine fun h => h ?_; first | assumption | with_reducible rfl) | (simp only [List.length_append, List.length_cons, List.length_nil, List.length_set] <;> omega) | decide, ?_⟩ | refine .inr ⟨by first | assumption | omega | with_reducible rfl | (refine fun h => h ?_; first | assumption | with_reducible rfl) | (simp only [List.length_append, List.length_cons, List.length_nil, List.length_set] <;> omega) | decide, ?_⟩) | ((first | refine WPA.ifBt ?_ ?_ | refine WPA.ifBnf ?_ ?_); assumption) | ((first | refine WPA.ifBnt ?_ ?_ | refine WPA.ifBf ?_ ?_); assumption) | ((first | refine WPA.ifs ?_ ?_ | refine WPA.ifB ?_ ?_) <;> intro hc) | (guard_target =~ WPA _ _ _ (.region 6 _ true) _ _ _; refine WPA.drawT 8 (.q 0 (.q 1 (.q 2 (.q 3 (.q 4 (.q 5 (.q 6 (.q 7 .fin)))))))) mixed ?_ ?_; kernel_rfl) | (refine WDA.finish (tl := [⟨_, _, _, _, _, _⟩]) rfl ?_) | (refine WDQ.see rfl ?_))
      refine QQ.end_ rfl () (congrArg Value.bool (decide_eq_true ?_).symm) fun w h => h
      rw [List.take_of_length_le (by omega), List.take_of_length_le (by omega)] at he
      exact he
  · have hl' : (xs.length : Int) ≠ ys.length := by omega
    repeat' (first | ((first | refine WLA.m rfl rfl ?_ ?_ | refine WLA.st rfl ?_ ?_ | refine WLA.x rfl rfl ?_ (fun x => ?_) | refine WLA.x0 rfl ?_ (fun x => ?_)); first | exact trivial | exact rfl | assumption | omega | (refine ⟨?_, ?_⟩ <;> omega) | (simp only [Room, List.length_set, List.length_append, List.length_cons, List.length_nil, List.length_replicate]; omega) | decide | skip) | (refine Stp.go ?_) | (refine WPA.ifT ?_) | (refine WPA.ifF ?_) | ((first | refine WPA.dec ?_); first | refine .inl ⟨by first | assumption | omega | with_reducible rfl | (refine fun h => h ?_; first | assumption | with_reducible rfl) | (simp only [List.length_append, List.length_cons, List.length_nil, List.length_set] <;> omega) | decide, ?_⟩ | refine .inr ⟨by first | assumption | omega | with_reducible rfl | (refine fun h => h ?_; first | assumption | with_reducible rfl) | (simp only [List.length_append, List.length_cons, List.length_nil, List.length_set] <;> omega) | decide, ?_⟩) | ((first | refine WPA.ifBt ?_ ?_ | refine WPA.ifBnf ?_ ?_); assumption) | ((first | refine WPA.ifBnt ?_ ?_ | refine WPA.ifBf ?_ ?_); assumption) | ((first | refine WPA.ifs ?_ ?_ | refine WPA.ifB ?_ ?_) <;> intro hc))
    exact QQ.end_ rfl () (congrArg Value.bool (decide_eq_false fun e => hl (by rw [e])).symm) fun w h => h
end
end Go.Proofs.Ytbekjbgaenjbfaa
namespace Go.Proofs.Ytbekjbgaenjbfaa
open Go Go.Fw Go.RowKit
set_option linter.unusedVariables false
set_option linter.unusedSimpArgs false
set_option maxRecDepth 100000
set_option maxHeartbeats 16000000
set_option synthInstance.maxHeartbeats 200000
set_option synthInstance.maxSize 100000
attribute [local irreducible] WPA WLA WDA WDQ WDE QQ seqQ blockQ loopQ fnQ OpP OpT Tr TrP SL SLd OwnS LitS Bk BkE Ob
theorem Clone_tr {a : SV} {xs : List Int} {L : List HP} {w0 : World} {I : Foot} [ha : RdS I L a Int inferInstance xs] (hn : xs.length ≤ 1000000) : Tr Try.prog 36 #[.slice a.a a.n a.cap] (SL w0 I L) (fun r : SV => .slice r.a r.n r.cap) (fun r => SL w0 I (OwnS 3 r xs :: L)) := by
  refine Tr.intro Try.func36 rfl Try.ntmps36 rfl ?_
  repeat' (first | ((first | refine WLA.m rfl rfl ?_ ?_ | refine WLA.st rfl ?_ ?_ | refine WLA.x rfl rfl ?_ (fun x => ?_) | refine WLA.x0 rfl ?_ (fun x => ?_)); first | exact trivial | exact rfl | assumption | omega | (refine ⟨?_, ?_⟩ <;> omega) | (simp only [Room, List.length_set, List.length_append, List.length_cons, List.length_nil, List.length_replicate]; omega) | decide | skip) | (refine Stp.go ?_) | (refine WPA.ifT ?_) | (refine WPA.ifF ?_) | ((first | refine WPA.dec ?_); first | refine .inl ⟨by first | assumption | omega | with_reducible rfl | (refine fun h => h ?_; first | assumption | with_reducible rfl) | (simp only [List.length_append, List.length_cons, List.length_nil, List.length_set] <;> omega) | decide, ?_⟩ | refine .inr ⟨by first | assumption | omega | with_reducible rfl | (refine fun h => h ?_; first | assumption | with_reducible rfl) | (simp only [List.length_append, List.length_cons, List.length_nil, List.length_set] <;> omega) | decide, ?_⟩) | ((first | refine WPA.ifBt ?_ ?_ | refine WPA.ifBnf ?_ ?_); assumption) | ((first | refine WPA.ifBnt ?_ ?_ | refine WPA.ifBf ?_ ?_); assumption) | ((first | refine WPA.ifs ?_ ?_ | refine WPA.ifB ?_ ?_) <;> intro hc))
  · refine QQ.end_ rfl SV.nil rfl fun w h => ?_
    have hr := ha.out w0 w h
    have h0 : xs = [] := by
      have hn := hr.len
      rcases hr.plain with h0 | ⟨b, o, e⟩
      · exact List.eq_nil_of_length_eq_zero (by omega)
      · rw [e] at hc; cases hc
    rw [h0]
    exact h.to
  · exact QQ.end_ rfl x rfl fun w h => h.to
end Go.Proofs.Ytbekjbgaenjbfaa
