/- Bytes: copy, clear, text out of bytes; a row of slices. Conditions: none. -/
import Derived.Test.YtfhelnalegochaaSlRes
import Derived.Laws.IdiomStrings
namespace Go.Fw
open Go Go.RowKit
set_option linter.unusedVariables false
set_option linter.unusedSimpArgs false

/-- The bytes of a text, as elements. -/
def kb (b : UInt8) : KInt .u8 := (b.toNat : Int)
theorem kb_cells (b : UInt8) : Enc.cells (kb b) = [.int .u8 b.toNat] := rfl
def bytesK (t : ByteArray) : List (KInt .u8) := t.data.toList.map kb
theorem bytesK_len (t : ByteArray) : (bytesK t).length = t.size := (List.length_map _).trans Array.length_toList
class IsBytes (xs : List (KInt .u8)) (t : outParam ByteArray) : Prop where
  out : xs = bytesK t
instance {t : ByteArray} : IsBytes (bytesK t) t := ⟨rfl⟩
theorem flat_bytes : ∀ l : List UInt8, flat (l.map kb) = l.map fun b => Value.int .u8 (b.toNat : Int)
  | [] => rfl
  | b :: l => by
    have := flat_bytes l
    unfold flat at this ⊢
    rw [List.map_cons, List.flatMap_cons, this, List.map_cons, kb_cells]; rfl
theorem flat_bytesK (t : ByteArray) : flat (bytesK t) = t.data.toList.map fun b => Value.int .u8 (b.toNat : Int) := flat_bytes _
def SV.upto (s : SV) (h : Int) : SV := ⟨s.a, h.toNat, s.cap⟩
/-- A slice held alone; what lies in it is not told. -/
def OwnC (e : TypeId) (sz : Nat) (s : SV) : HP := fun R => s.n ≤ s.cap ∧ ∃ xs, OwnR e sz (.slice s.a s.n s.cap) s.n xs R
section
variable {P : Program} {ρ : Env} {A : World → Prop} {ty : TypeId} {w0 : World} {I : Foot} {L L' : List HP}
theorem own_c {α : Type} [Enc α] {e : TypeId} {s : SV} {xs : List α} {R : Foot} (h : OwnS e s xs R) : s.n = xs.length ∧ OwnC e (Enc.sz α) s R := by
  refine ⟨OwnR.len h, ?_, _, h⟩
  rcases h.2 with ⟨h1, h2, h3⟩ | ⟨g, cap, cur, h1, h2, h3, h4, h5, h6⟩
  · cases s; cases h1; exact Nat.le_refl _
  · cases s; cases h1; exact h2
theorem Ent.ownC {α : Type} [Enc α] {e : TypeId} {s : SV} {xs : List α} : Ent (OwnS e s xs :: L) (OwnC e (Enc.sz α) s :: L) := Ent.of fun R h => (own_c h).2
theorem SL.facts {α : Type} [Enc α] {e : TypeId} {s : SV} {xs : List α} {w : World} (h : SL w0 I (OwnS e s xs :: L) w) : s.n = xs.length ∧ s.n ≤ s.cap := by
  obtain ⟨H, R, Rs, h1, h2, h3, h4⟩ := h.uncons
  exact ⟨(own_c h2).1, (own_c h2).2.1⟩
theorem WPA.facts {ro : Option Nat} {n : Nat} {Q : Hnd} {c : Code} {α : Type} {en : Enc α} {e : TypeId} {s : SV} {xs : List α} [hA : InSL A w0 I L] (ho : Ent L (OwnS e s xs :: L')) (k : s.n = xs.length ∧ s.n ≤ s.cap → WPA ro P n c Q ρ A) : WPA ro P n c Q ρ A := fun m a w ha hw => k (ho.sl (hA.out w hw)).facts m a w ha hw
theorem WLA.facts {ro : Option Nat} {n : Nat} {Q : Hnd} {ops : Array Oper} {l : List Oper} {α : Type} {en : Enc α} {e : TypeId} {s : SV} {xs : List α} [hA : InSL A w0 I L] (ho : Ent L (OwnS e s xs :: L')) (k : s.n = xs.length ∧ s.n ≤ s.cap → WLA ro P n ops Q l ρ A) : WLA ro P n ops Q l ρ A := fun m a w ha hw => k (ho.sl (hA.out w hw)).facts m a w ha hw
/-- Another length, within the room. -/
theorem Ent.cResize {e : TypeId} {sz : Nat} {s : SV} {n : Nat} (h : n ≤ s.cap) : Ent (OwnC e sz s :: L) (OwnC e sz ⟨s.a, n, s.cap⟩ :: L) := Ent.of fun R hR => by
  obtain ⟨hc, xs, hl, hr⟩ := hR
  refine ⟨h, ?_⟩
  rcases hr with ⟨h1, h2, h3⟩ | ⟨g, cap, cur, h1, h2, h3, h4, h5, h6⟩
  · cases s with
    | mk a k c =>
      cases h1
      have : n = 0 := by simp only at h; omega
      subst this
      exact ⟨[], by simp, .inl ⟨rfl, rfl, h3⟩⟩
  · cases s with
    | mk a k c =>
      cases h1
      have hle : n * sz ≤ c * sz := Nat.mul_le_mul_right _ h
      exact ⟨cur.toList.take (n * sz), by rw [List.length_take, Array.length_toList, h4]; exact Nat.min_eq_left hle, .inr ⟨g, c, cur, rfl, h, h3, h4, rfl, h6⟩⟩
theorem Ent.cUp {e : TypeId} {sz : Nat} {s : SV} {h : Int} (h0 : 0 ≤ h ∧ h ≤ s.cap) : Ent (OwnC e sz s :: L) (OwnC e sz (s.upto h) :: L) := Ent.cResize (n := h.toNat) (by omega)
theorem Ent.cNone {α : Type} [Enc α] {e : TypeId} {s : SV} (h : s.n = 0) : Ent (OwnC e (Enc.sz α) s :: L) (OwnS e s ([] : List α) :: L) := Ent.of fun R hR => by
  obtain ⟨hc, xs, hl, hr⟩ := hR
  have : xs = [] := by rw [h] at hl; simpa using hl
  subst this
  exact ⟨by simp [h, flat], hr⟩
class FindC (L : List HP) (s : SV) (e : outParam TypeId) (sz : outParam Nat) (L' : outParam (List HP)) : Prop where
  out : Ent L (OwnC e sz s :: L')
instance {s : SV} {e : TypeId} {sz : Nat} : FindC (OwnC e sz s :: L) s e sz L := ⟨Ent.refl⟩
instance (priority := 900) {p : HP} {s : SV} {e : TypeId} {sz : Nat} [h : FindC L s e sz L'] : FindC (p :: L) s e sz (p :: L') := ⟨(Ent.cons h.out).trans Ent.swap⟩
instance (priority := 800) {s : SV} {e : TypeId} {α : Type} {en : Enc α} {xs : List α} {sz : Nat} [h : FindOwn L s e α en xs L'] [hs : SzIs α sz] : FindC L s e sz L' := ⟨by
  have := h.out.trans (Ent.ownC (α := α))
  rw [hs.out] at this; exact this⟩
instance {x : Operand} {t t' e : TypeId} {s : SV} {xs : List (KInt .u8)} {b : ByteArray} [hx : Ev ρ x (.slice s.a s.n s.cap)] [ht : Und P t (.slice e)] [he : Und P e (.int .u8)] [hd : Und P t' .string] [hA : InSL A w0 I L] [hr : RdS I L s (KInt .u8) inferInstance xs] [hb : IsBytes xs b] :
    OpM P ρ A (.convert t t' x) ty (.string b) True := ⟨fun _ => OpP.at fun w hw => by
  have h := hr.out w0 w (hA.out w hw)
  have hn := h.len
  have hbn : xs.length = b.data.toList.length := by rw [hb.out, bytesK_len]; exact Array.length_toList.symm
  intro d pos af g w' hw'
  subst hw'
  have key : (convert t t' (.slice s.a s.n s.cap)).run P w' = .ok (.string b) w' := by
    cases hsa : s.a with
    | none =>
      have hz : s.n = 0 := by
        rcases h.plain with h0 | ⟨b', o, ha⟩
        · omega
        · rw [hsa] at ha; cases ha
      have hb0 : b = ⟨#[]⟩ := by
        have h0 : b.data.toList.length = 0 := by omega
        cases b with
        | mk d => cases d with
          | mk l => cases l with
            | nil => rfl
            | cons x l => simp at h0
      subst hb0
      rw [run_convert_bytes_string w' t t' e none s.n s.cap ht.out he.out hd.out]
      simp [Conv.bytesToString, go_sem]
      rfl
    | some a =>
      have e1 : s.n = b.data.toList.length := by omega
      rw [e1, run_convert_bytes_back w' t t' e a s.cap b.data.toList ht.out he.out hd.out]
      · intro j hj
        have hjx : j < xs.length := by omega
        have hc := h.cells j 0 (.int .u8 (b.data.toList[j].toNat : Int)) hjx (by
          have : xs.getD j Enc.dflt = kb b.data.toList[j] := by
            rw [hb.out]; unfold bytesK
            rw [List.getD_eq_getElem?_getD, List.getElem?_map, List.getElem?_eq_getElem hj]; rfl
          rw [this, kb_cells]; rfl)
        rcases h.plain with h0 | ⟨b', o, ha⟩
        · omega
        · rw [hsa] at ha; cases ha
          simp only [eAddr, hsa, Option.getD_some] at hc
          have ea : (⟨b', o, none⟩ : Addr).add j = ⟨b', o + (j : Int).toNat * Enc.sz (KInt .u8) + 0, none⟩ := by
            have hs : Enc.sz (KInt .u8) = 1 := rfl
            rw [hs]; unfold Addr.add; split <;> simp_all
          rw [ea]; exact hc
  simp only [execOp, hx.out, Sem.run_bind, key, Result.andThen_ok, Sem.run_pure]⟩
theorem extract_all (b : ByteArray) : (b.extract 0 b.size).data = b.data := by
  rw [ByteArray.data_extract]; simp
theorem T_copy {x y : Operand} {t t2 e : TypeId} {z : List Value} {bytes : Nat} {s : SV} {b : ByteArray} [hx : Ev ρ x (.slice s.a s.n s.cap)] [hy : Ev ρ y (.string b)] [ht : Und P t (.slice e)] [hz : Inf P e z 1 bytes] [hA : InSL A w0 I L] [hc : FindC L s e 1 L'] (hn : s.n = b.size) :
    OpT P ρ (.call { callee := .builtin .copy, args := #[x, y], argTypes := #[t, t2] }) ty A fun v w => ∃ u : Unit, v = .int .i64 s.n ∧ SL w0 I (OwnS e s (bytesK b) :: L') w := OpT.sl (val := fun _ : Unit => .int .i64 s.n) (B := fun _ => SL w0 I (OwnS e s (bytesK b) :: L')) fun w hw d pos af g => by
  obtain ⟨H, R, Rs, h1, ⟨h2, xs, hl, hr⟩, h3, h4⟩ := (hc.out.sl hw).uncons
  have hsz : (sizeOf e).run P w = .ok 1 w := by
    obtain ⟨i, hi, hi2⟩ := Option.map_eq_some_iff.1 hz.size
    simp [sizeOf, typeInfo, hi, hi2, go_sem]
  have hmin : Nat.min b.size s.n = b.size := by rw [hn]; exact Nat.min_self _
  have hcells : (((b.extract 0 b.size).data.map fun b => Value.int .u8 b.toNat) : Array Value).toList = flat (bytesK b) := by
    rw [extract_all, flat_bytesK, Array.toList_map]
  rcases hr with ⟨e1, e2, e3⟩ | ⟨gb, cap, cur, e1, e2, e3, e4, e5, e6⟩
  · have ea : s.a = none := by cases s; cases e1; rfl
    have key : (Builtin.copy_ #[t, t2] ty #[.slice s.a s.n s.cap, .string b]).run P w = .ok (.int .i64 s.n) w := by
      unfold Builtin.copy_
      simp only [List.getElem?_toArray, List.getElem?_cons_zero, List.getElem?_cons_succ, Sem.run_bind, run_underlying ht.out, Result.andThen_ok, Builtin.lenOf, Sem.run_pure, hsz, hmin, Builtin.firstCells, ea]
      rw [hn]; rfl
    refine OpU.mono (R := fun v w' => v = .int .i64 s.n ∧ w' = w) ?_ ?_
    · simp only [execOp, resolve, invoke, builtin, Sem.run_bind, Sem.run_pure, Result.andThen_ok, List.map_toArray, List.map_cons, List.map_nil, hx.out, hy.out, key]
      exact ⟨rfl, rfl⟩
    · rintro v w' ⟨rfl, rfl⟩
      refine ⟨(), rfl, SL.cons h1 (R := R) ?_ h3 h4⟩
      have hb0 : b.size = 0 := by omega
      have : bytesK b = [] := List.eq_nil_of_length_eq_zero (by rw [bytesK_len]; exact hb0)
      rw [this]
      exact ⟨by rw [e2]; rfl, .inl ⟨e1, e2, e3⟩⟩
  · cases s with
    | mk a n c =>
      cases e1
      subst e6
      simp only at hn h2 hl e2 hmin ⊢
      have hfl : (flat (bytesK b)).length = b.size := by rw [flat_len, bytesK_len]; exact Nat.mul_one _
      have e4' : cur.size = c := by rw [e4]; exact Nat.mul_one _
      have hle : (flat (bytesK b)).length ≤ cur.size := by omega
      obtain ⟨w', h5, h6⟩ := run_storeMany (P := P) (w := w) (j := 0) (flat (bytesK b)) cur 0 0 w _ h4 rfl (by omega) (flat_one' _)
      have key : (Builtin.copy_ #[t, t2] ty #[.slice (some ⟨gb, 0, none⟩) n c, .string b]).run P w = .ok (.int .i64 n) w' := by
        unfold Builtin.copy_
        simp only [List.getElem?_toArray, List.getElem?_cons_zero, List.getElem?_cons_succ, Sem.run_bind, run_underlying ht.out, Result.andThen_ok, Builtin.lenOf, Sem.run_pure, hsz, hmin, Builtin.firstCells, hcells, h5]
        rw [hn]; rfl
      refine OpU.mono (R := fun v u => v = .int .i64 n ∧ u = w') ?_ ?_
      · simp only [execOp, resolve, invoke, builtin, Sem.run_bind, Sem.run_pure, Result.andThen_ok, List.map_toArray, List.map_cons, List.map_nil, hx.out, hy.out, key]
        exact ⟨rfl, rfl⟩
      · rintro v u ⟨rfl, rfl⟩
        refine ⟨(), rfl, SL.cons h1 (R := [(gb, .cells _ e (0, 0))]) ?_ h3 h6⟩
        refine ⟨by rw [hfl, hn]; exact (Nat.mul_one _).symm, .inr ⟨gb, c, _, rfl, h2, e3, by rw [fold_size, e4]; rfl, ?_, rfl⟩⟩
        have hcur : cur = cur.toList.toArray := by simp
        rw [hcur, fold_put _ _ _ (by simpa using hle)]
        simp only [Nat.add_zero, List.take_zero, List.nil_append]
        show List.take (n * 1) (flat (bytesK b) ++ _) = _
        exact List.take_left' (by rw [hfl, hn, Nat.mul_one])
theorem OwnC.back {e : TypeId} {sz : Nat} {v : Value} {s : SV} {xs : List Value} {R : Foot} (hv : v = .slice s.a s.n s.cap) (hc : s.n ≤ s.cap) (h : OwnR e sz v s.n xs R) : OwnC e sz s R := ⟨hc, xs, hv ▸ h⟩
theorem T_clearC {x : Operand} {t e : TypeId} {z : Value} {sz bytes : Nat} {s : SV} [hx : Ev ρ x (.slice s.a s.n s.cap)] [ht : Und P t (.slice e)] (hi : (P.info? e).map (fun i => (i.zero, i.size, i.bytes)) = some (some z, sz, bytes)) (hzs : z.cells.size = sz) (hz1 : ∀ u ∈ (Builtin.zeroCells z.cells 1).toList, u.oneCell' = true) (hz2 : ∀ n, ∀ u ∈ (Builtin.zeroCells z.cells n).toList, u.oneCell' = true)
    [hA : InSL A w0 I L] [hc : FindC L s e sz L'] : OpT P ρ (.call { callee := .builtin .clear, args := #[x], argTypes := #[t] }) ty A fun v w => ∃ u : Unit, v = .tuple #[] ∧ SL w0 I (OwnC e sz s :: L') w := OpT.sl (val := fun _ : Unit => .tuple #[]) (B := fun _ => SL w0 I (OwnC e sz s :: L')) fun w hw d pos af g => by
  obtain ⟨H, R, Rs, h1, ⟨h2, xs, hr⟩, h3, h4⟩ := (hc.out.sl hw).uncons
  refine (T_clearR (P := P) (ρ := ρ) (ty := ty) ht.out hi hzs hz1 hz2 hr hx.out d pos af g w h4).mono fun v w' ⟨q, hv, ho, hs⟩ => ⟨(), hv, SL.cons h1 (R := q.2) ⟨h2, q.1, ho⟩ h3 hs⟩
section
variable {ro : Option Nat} {n : Nat} {Q : Hnd} {ops : Array Oper} {rest : List Oper} {pos : String} {af : Array Edge} {g : Option (Nat × Bool)} {d : Tmp}
theorem WLA.copy {x y : Operand} {t t2 e : TypeId} {z : List Value} {bytes : Nat} {s : SV} {b : ByteArray} [hx : Ev ρ x (.slice s.a s.n s.cap)] [hy : Ev ρ y (.string b)] [ht : Und P t (.slice e)] [hz : Inf P e z 1 bytes] [hA : InSL A w0 I L] [hc : FindC L s e 1 L'] (hn : s.n = b.size)
    (hw : Region.wanted ⟨some d, .call { callee := .builtin .copy, args := #[x, y], argTypes := #[t, t2] }, ty, pos, af, g⟩ (yieldedE n ops ρ) = true) (hd : Nat.blt d n = true) (k : WLA ro P n ops Q rest (put1 ρ d (.int .i64 s.n)) (SL w0 I (OwnS e s (bytesK b) :: L'))) :
    WLA ro P n ops Q (⟨some d, .call { callee := .builtin .copy, args := #[x, y], argTypes := #[t, t2] }, ty, pos, af, g⟩ :: rest) ρ A :=
  WLA.e hw (T_copy hn) (fun u => by rw [upd_put1 hd]; exact k)
theorem WLA.clear {x : Operand} {t e : TypeId} {z : Value} {sz bytes : Nat} {s : SV} [hx : Ev ρ x (.slice s.a s.n s.cap)] [ht : Und P t (.slice e)] (hi : (P.info? e).map (fun i => (i.zero, i.size, i.bytes)) = some (some z, sz, bytes)) (hzs : z.cells.size = sz) (hz1 : ∀ u ∈ (Builtin.zeroCells z.cells 1).toList, u.oneCell' = true) (hz2 : ∀ n, ∀ u ∈ (Builtin.zeroCells z.cells n).toList, u.oneCell' = true)
    [hA : InSL A w0 I L] [hc : FindC L s e sz L'] (hw : Region.wanted ⟨none, .call { callee := .builtin .clear, args := #[x], argTypes := #[t] }, ty, pos, af, g⟩ (yieldedE n ops ρ) = true) (k : WLA ro P n ops Q rest ρ (SL w0 I (OwnC e sz s :: L'))) :
    WLA ro P n ops Q (⟨none, .call { callee := .builtin .clear, args := #[x], argTypes := #[t] }, ty, pos, af, g⟩ :: rest) ρ A :=
  WLA.e0 hw (T_clearC hi hzs hz1 hz2) (fun u => k)
theorem WLA.reslice {x y : Operand} {t e : TypeId} {z : List Value} {sz bytes : Nat} {s : SV} {kd : IntKind} {h : Int} [hx : Ev ρ x (.slice s.a s.n s.cap)] [hy : Ev ρ y (.int kd h)] [ht : Und P t (.slice e)] [hz : Inf P e z sz bytes] (h0 : 0 ≤ h ∧ h ≤ s.cap)
    (hw : Region.wanted ⟨some d, .slice t x none (some y) none, ty, pos, af, g⟩ (yieldedE n ops ρ) = true) (hd : Nat.blt d n = true) (k : WLA ro P n ops Q rest (put1 ρ d (.slice (s.upto h).a (s.upto h).n (s.upto h).cap)) A) :
    WLA ro P n ops Q (⟨some d, .slice t x none (some y) none, ty, pos, af, g⟩ :: rest) ρ A :=
  WLA.q hw (P_sliceV_h ht.out hz.size hx.out hy.out h0.1 h0.2) (by rw [upd_put1 hd]; exact k)
end
section
variable {ro : Option Nat} {n : Nat} {Q : Hnd} {c : Operand} {x y : Code} {b : Bool} {ops : Array Oper} {rest : List Oper} {op : Op} {pos : String} {af : Array Edge} {dst : Option Tmp} {j : Nat} {t : Tmp} {bc : Bool}
theorem WPA.ifBt [hc : Ev ρ c (.bool b)] (hb : b = true) (h : WPA ro P n x Q ρ A) : WPA ro P n (.cond c x y) Q ρ A := WPA.ifB (fun _ => h) (fun h' => by rw [hb] at h'; cases h')
theorem WPA.ifBf [hc : Ev ρ c (.bool b)] (hb : b = false) (h : WPA ro P n y Q ρ A) : WPA ro P n (.cond c x y) Q ρ A := WPA.ifB (fun h' => by rw [hb] at h'; cases h') (fun _ => h)
theorem WPA.ifBnt [hc : Ev ρ c (.bool (!b))] (hb : b = true) (h : WPA ro P n y Q ρ A) : WPA ro P n (.cond c x y) Q ρ A := WPA.ifBf (by rw [hb]; rfl) h
theorem WPA.ifBnf [hc : Ev ρ c (.bool (!b))] (hb : b = false) (h : WPA ro P n x Q ρ A) : WPA ro P n (.cond c x y) Q ρ A := WPA.ifBt (by rw [hb]; rfl) h
end
section
variable {ro : Option Nat} {N n : Nat} {ops : Array Oper} {Q : Hnd} {T : World → Prop} {r : Plan} {op : Op} {pos : String} {af : Array Edge}
theorem WDP.yes {dst : Option Tmp} {j : Nat} {c : Bool} {p : Prop} [hp' : Decidable p] {t : Tmp} (hy : yieldedE N ops ρ j = some (decide p)) (ht : (ops[j]?).bind (·.dst) = some t) (hp : p) (k : WDP ro P N ops Q T n ⟨dst, op, ty, pos, af, some (j, c)⟩ r (put1 ρ t (.bool true)) A) :
    WDP ro P N ops Q T n ⟨dst, op, ty, pos, af, some (j, c)⟩ r ρ A := by
  rw [put1_same (by rw [yield_val hy ht, decide_eq_true hp])] at k; exact k
theorem WDP.nay {dst : Option Tmp} {j : Nat} {c : Bool} {p : Prop} [hp' : Decidable p] {t : Tmp} (hy : yieldedE N ops ρ j = some (decide p)) (ht : (ops[j]?).bind (·.dst) = some t) (hp : ¬ p) (k : WDP ro P N ops Q T n ⟨dst, op, ty, pos, af, some (j, c)⟩ r (put1 ρ t (.bool false)) A) :
    WDP ro P N ops Q T n ⟨dst, op, ty, pos, af, some (j, c)⟩ r ρ A := by
  rw [put1_same (by rw [yield_val hy ht, decide_eq_false hp])] at k; exact k
theorem WDP.both {dst : Option Tmp} {j : Nat} {c : Bool} {p : Prop} [hp' : Decidable p] {t : Tmp} (hy : yieldedE N ops ρ j = some (decide p)) (ht : (ops[j]?).bind (·.dst) = some t) (k1 : p → WDP ro P N ops Q T n ⟨dst, op, ty, pos, af, some (j, c)⟩ r (put1 ρ t (.bool true)) A)
    (k2 : ¬ p → WDP ro P N ops Q T n ⟨dst, op, ty, pos, af, some (j, c)⟩ r (put1 ρ t (.bool false)) A) : WDP ro P N ops Q T n ⟨dst, op, ty, pos, af, some (j, c)⟩ r ρ A := by
  by_cases hp : p
  · exact WDP.yes hy ht hp (k1 hp)
  · exact WDP.nay hy ht hp (k2 hp)
end
/-! ### A block that is not written any more -/
def BkI (b : Nat) (t : TypeId) (cs : List Value) : Foot := [(b, .cells cs.toArray t (0, 0))]
theorem Bk.froz {b : Nat} {t : TypeId} {cs : List Value} {R : Foot} (h : Bk b t cs R) : R = BkI b t cs := h
class InI (I : Foot) (b : Nat) (t : outParam TypeId) (cs : outParam (List Value)) : Prop where
  out : (b, .cells cs.toArray t (0, 0)) ∈ I
instance {I : Foot} {b : Nat} {t : TypeId} {cs : List Value} : InI (BkI b t cs ++ I) b t cs := ⟨List.mem_append_left _ (List.mem_singleton.2 rfl)⟩
instance (priority := 900) {R I : Foot} {b : Nat} {t : TypeId} {cs : List Value} [h : InI I b t cs] : InI (R ++ I) b t cs := ⟨List.mem_append_right _ h.out⟩
instance (priority := 900) {x : Operand} {t t' : TypeId} {b i : Nat} {cs : List Value} {v : Value} [hx : Ev ρ x (.pointer (some ⟨b, i, none⟩))] [ht : One P t] [hA : InSL A w0 I L] [hb : InI I b t' cs] [hg : GetL cs i v] :
    OpM P ρ A (.load t x) ty v True := ⟨fun _ => P_load ht.out hx.out fun w hw => cell_of_heap ((hA.out w hw).mem _ _ hb.out) (by simpa using hg.out)⟩
theorem WPA.freezeBk {ro : Option Nat} {n : Nat} {Q : Hnd} {c : Code} {b : Nat} {t : TypeId} {cs : List Value} [hA : InSL A w0 I L] [hb : FindBk L b t cs L'] (k : WPA ro P n c Q ρ (SL w0 (BkI b t cs ++ I) L')) : WPA ro P n c Q ρ A :=
  WPA.mono (fun w hw => hb.out.sl (hA.out w hw)) (WPA.freeze fun R hR => by rw [hR.froz]; exact k)
theorem SL.unI {R I : Foot} {L : List HP} {w : World} (h : SL w0 (R ++ I) L w) : SL w0 I L w := h.sub fun _ hx => List.mem_append_right _ hx
/-! ### A row of slices of bytes, each held alone -/
def BytesH (e : TypeId) : List SV → List ByteArray → HP
  | s :: ss, t :: ts => star (OwnS e s (bytesK t)) (BytesH e ss ts)
  | _, _ => fun R => R = []
theorem Ent.intro1 {p : HP} (h : p []) : Ent L (p :: L) := fun Rs hf => ⟨[] :: Rs, [], ⟨h, hf⟩, by simp⟩
theorem BytesH.split {e : TypeId} : ∀ {s1 s2 : List SV} {t1 t2 : List ByteArray} {L : List HP}, s1.length = t1.length → Ent (BytesH e (s1 ++ s2) (t1 ++ t2) :: L) (BytesH e s1 t1 :: BytesH e s2 t2 :: L)
  | [], s2, [], t2, L, _ => Ent.intro1 rfl
  | s :: s1, s2, t :: t1, t2, L, h => by
    simp only [List.cons_append, BytesH]
    refine Ent.unstar.trans ?_
    refine (Ent.cons (BytesH.split (by simpa using h))).trans ?_
    exact Ent.star Ent.refl
  | [], s2, t :: t1, t2, L, h => by simp at h
  | s :: s1, s2, [], t2, L, h => by simp at h
theorem BytesH.join {e : TypeId} : ∀ {s1 s2 : List SV} {t1 t2 : List ByteArray} {L : List HP}, s1.length = t1.length → Ent (BytesH e s1 t1 :: BytesH e s2 t2 :: L) (BytesH e (s1 ++ s2) (t1 ++ t2) :: L)
  | [], s2, [], t2, L, _ => Ent.drop1
  | s :: s1, s2, t :: t1, t2, L, h => by
    simp only [List.cons_append, BytesH]
    refine Ent.unstar.trans ?_
    exact (Ent.cons (BytesH.join (by simpa using h))).trans (Ent.star Ent.refl)
  | [], s2, t :: t1, t2, L, h => by simp at h
  | s :: s1, s2, [], t2, L, h => by simp at h
/-- All but the one number i. -/
def BytesX (e : TypeId) (i : Nat) (ss : List SV) (ts : List ByteArray) : HP := star (BytesH e (ss.take i) (ts.take i)) (BytesH e (ss.drop (i + 1)) (ts.drop (i + 1)))
theorem BytesH.focus {e : TypeId} {ss : List SV} {ts : List ByteArray} (i : Nat) (hi : i < ss.length) (hl : ss.length = ts.length) :
    Ent (BytesH e ss ts :: L) (OwnS e (ss[i]) (bytesK (ts[i]'(by omega))) :: BytesX e i ss ts :: L) := by
  have e1 : ss = ss.take i ++ ss[i] :: ss.drop (i + 1) := by rw [List.getElem_cons_drop, List.take_append_drop]
  have e2 : ts = ts.take i ++ ts[i] :: ts.drop (i + 1) := by rw [List.getElem_cons_drop, List.take_append_drop]
  have h0 : Ent (BytesH e ss ts :: L) (BytesH e (ss.take i ++ ss[i] :: ss.drop (i + 1)) (ts.take i ++ ts[i] :: ts.drop (i + 1)) :: L) := by rw [← e1, ← e2]; exact Ent.refl
  refine h0.trans ((BytesH.split (by simp; omega)).trans ?_)
  refine (Ent.cons (Ent.unstar)).trans (Ent.swap.trans (Ent.cons ?_))
  exact Ent.star Ent.refl
theorem BytesH.back {e : TypeId} {ss : List SV} {ts : List ByteArray} {s : SV} {t : ByteArray} (i : Nat) (hi : i < ss.length) (hl : ss.length = ts.length) :
    Ent (OwnS e s (bytesK t) :: BytesX e i ss ts :: L) (BytesH e (ss.set i s) (ts.set i t) :: L) := by
  have e1 : ss.set i s = ss.take i ++ s :: ss.drop (i + 1) := by rw [List.set_eq_take_append_cons_drop, if_pos hi]
  have e2 : ts.set i t = ts.take i ++ t :: ts.drop (i + 1) := by rw [List.set_eq_take_append_cons_drop, if_pos (by omega)]
  rw [e1, e2]
  refine (Ent.cons Ent.unstar).trans (Ent.swap.trans ?_)
  refine (Ent.cons (Ent.star (q := BytesH e (ss.drop (i + 1)) (ts.drop (i + 1))) Ent.refl : Ent (OwnS e s (bytesK t) :: BytesH e (ss.drop (i + 1)) (ts.drop (i + 1)) :: L) (BytesH e (s :: ss.drop (i + 1)) (t :: ts.drop (i + 1)) :: L))).trans ?_
  exact BytesH.join (L := L) (s1 := ss.take i) (t1 := ts.take i) (s2 := s :: ss.drop (i + 1)) (t2 := t :: ts.drop (i + 1)) (by rw [List.length_take, List.length_take]; omega)
theorem BytesH.pad {e : TypeId} {ss : List SV} {ts : List ByteArray} {L : List HP} (h : ss.length = ts.length) : Ent (BytesH e ss ts :: L) (BytesH e (ss ++ [SV.nil]) (ts ++ [⟨#[]⟩]) :: L) :=
  (Ent.cons (Ent.intro1 (p := BytesH e [SV.nil] [⟨#[]⟩]) ⟨[], [], OwnR.nil _ _, rfl, rfl⟩)).trans (BytesH.join h)
end

/-! ### Steps, shorter -/
/-- One step whose form decides it. -/
class Stp (A : Prop) (B : outParam Prop) : Prop where
  out : B → A
theorem Stp.go {A B : Prop} [h : Stp A B] (k : B) : A := h.out k
section
variable {ro : Option Nat} {P : Program} {n N : Nat} {ops : Array Oper} {Q : Hnd} {ρ : Env} {A : World → Prop}
instance {x y : Code} : Stp (WPA ro P n (.seq x y) Q ρ A) (WPA ro P n x (seqQ ro P n y Q) ρ A) := ⟨WPA.seq⟩
instance {y : Code} : Stp (QQ (seqQ ro P n y Q) .normal ρ A) (WPA ro P n y Q ρ A) := ⟨QQ.seq_normal⟩
instance {y : Code} : Stp (QQ (seqQ ro P n y Q) .ret ρ A) (QQ Q .ret ρ A) := ⟨QQ.seq_ret⟩
instance {y : Code} {id : Nat} : Stp (QQ (seqQ ro P n y Q) (.exit id) ρ A) (QQ Q (.exit id) ρ A) := ⟨QQ.seq_exit⟩
instance {id : Nat} : Stp (QQ (blockQ id Q) .normal ρ A) (QQ Q .normal ρ A) := ⟨QQ.block_normal⟩
instance {id : Nat} : Stp (QQ (blockQ id Q) .ret ρ A) (QQ Q .ret ρ A) := ⟨QQ.block_ret⟩
instance (priority := 1100) {id : Nat} : Stp (QQ (blockQ id Q) (.exit id) ρ A) (QQ Q .normal ρ A) := ⟨QQ.block_hit⟩
instance {id id' : Nat} [hn : IsB (Nat.beq id' id) false] : Stp (QQ (blockQ id Q) (.exit id') ρ A) (QQ Q (.exit id') ρ A) := ⟨QQ.block_miss hn.out⟩
instance {σ : Type} {C : σ → Env → Prop} {B : σ → World → Prop} {m : σ → Nat} {x : σ} : Stp (QQ (loopQ C B m x Q) .ret ρ A) (QQ Q .ret ρ A) := ⟨QQ.loop_ret⟩
instance {σ : Type} {C : σ → Env → Prop} {B : σ → World → Prop} {m : σ → Nat} {x : σ} {id : Nat} : Stp (QQ (loopQ C B m x Q) (.exit id) ρ A) (QQ Q (.exit id) ρ A) := ⟨QQ.loop_exit⟩
instance : Stp (WPA ro P n .skip Q ρ A) (QQ Q .normal ρ A) := ⟨WPA.skip⟩
instance : Stp (WPA ro P n .ret Q ρ A) (QQ Q .ret ρ A) := ⟨WPA.ret⟩
instance {id : Nat} : Stp (WPA ro P n (.exit id) Q ρ A) (QQ Q (.exit id) ρ A) := ⟨WPA.exit⟩
instance {id : Nat} {c : Code} : Stp (WPA ro P n (.block id c) Q ρ A) (WPA ro P n c (blockQ id Q) ρ A) := ⟨WPA.block⟩
instance {id : Nat} {l : List Oper} : Stp (WPA ro P n (.region id l.toArray false) Q ρ A) (WLA ro P n l.toArray Q l ρ A) := ⟨WPA.region⟩
instance : Stp (WLA ro P n ops Q [] ρ A) (QQ Q .normal ρ A) := ⟨WLA.nil⟩
theorem WPA.dec {c : Operand} {x y : Code} {p : Prop} [hp' : Decidable p] [hc : Ev ρ c (.bool (decide p))] (h : p ∧ WPA ro P n x Q ρ A ∨ ¬ p ∧ WPA ro P n y Q ρ A) : WPA ro P n (.cond c x y) Q ρ A :=
  h.elim (fun h => WPA.ifYes h.1 h.2) fun h => WPA.ifNo h.1 h.2
variable {rest : List Oper} {op : Op} {ty : TypeId} {pos : String} {af : Array Edge} {dst : Option Tmp} {j : Nat} {t : Tmp} {bc : Bool} {d : Tmp} {g : Option (Nat × Bool)} {T : World → Prop} {r : Plan} {v : Value} {p : Prop} [hp' : Decidable p]
theorem WLA.dec (hy : yieldedE n ops ρ j = some (decide p)) (ht : (ops[j]?).bind (·.dst) = some t) (h : p ∧ WLA ro P n ops Q (⟨dst, op, ty, pos, af, some (j, bc)⟩ :: rest) (put1 ρ t (.bool true)) A ∨ ¬ p ∧ WLA ro P n ops Q (⟨dst, op, ty, pos, af, some (j, bc)⟩ :: rest) (put1 ρ t (.bool false)) A) : WLA ro P n ops Q (⟨dst, op, ty, pos, af, some (j, bc)⟩ :: rest) ρ A :=
  h.elim (fun h => WLA.yes hy ht h.1 h.2) fun h => WLA.nay hy ht h.1 h.2
theorem WLA.pk {a b : Operand} [hc : Ev ρ (.tmp t) (.bool (decide p))] (h : p ∧ WLA ro P n ops Q (⟨some d, .pick (.tmp t) a b, ty, pos, af, g⟩ :: rest) (put1 ρ t (.bool true)) A ∨ ¬ p ∧ WLA ro P n ops Q (⟨some d, .pick (.tmp t) a b, ty, pos, af, g⟩ :: rest) (put1 ρ t (.bool false)) A) : WLA ro P n ops Q (⟨some d, .pick (.tmp t) a b, ty, pos, af, g⟩ :: rest) ρ A :=
  h.elim (fun h => WLA.pickT h.1 h.2) fun h => WLA.pickF h.1 h.2
theorem WDQ.dec {m : Nat} (hy : yieldedE N ops ρ j = some (decide p)) (ht : (ops[j]?).bind (·.dst) = some t) (h : p ∧ WDQ ro P N ops Q T m ⟨dst, op, ty, pos, af, some (j, bc)⟩ r (put1 ρ t (.bool true)) A ∨ ¬ p ∧ WDQ ro P N ops Q T m ⟨dst, op, ty, pos, af, some (j, bc)⟩ r (put1 ρ t (.bool false)) A) : WDQ ro P N ops Q T m ⟨dst, op, ty, pos, af, some (j, bc)⟩ r ρ A :=
  h.elim (fun h => WDQ.yes hy ht h.1 h.2) fun h => WDQ.nay hy ht h.1 h.2
theorem WDP.dec {m : Nat} (hy : yieldedE N ops ρ j = some (decide p)) (ht : (ops[j]?).bind (·.dst) = some t) (h : p ∧ WDP ro P N ops Q T m ⟨dst, op, ty, pos, af, some (j, bc)⟩ r (put1 ρ t (.bool true)) A ∨ ¬ p ∧ WDP ro P N ops Q T m ⟨dst, op, ty, pos, af, some (j, bc)⟩ r (put1 ρ t (.bool false)) A) : WDP ro P N ops Q T m ⟨dst, op, ty, pos, af, some (j, bc)⟩ r ρ A :=
  h.elim (fun h => WDP.yes hy ht h.1 h.2) fun h => WDP.nay hy ht h.1 h.2
end
end Go.Fw
