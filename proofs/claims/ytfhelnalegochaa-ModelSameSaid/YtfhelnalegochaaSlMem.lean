/- Loads, stores, what is made; append. Conditions: none. -/
import Derived.Test.YtfhelnalegochaaSlOp
namespace Go.Fw
open Go Go.RowKit
set_option linter.unusedVariables false
set_option linter.unusedSimpArgs false

section
variable {P : Program} {ρ : Env} {A : World → Prop} {ty : TypeId} {w0 : World} {I : Foot} {L : List HP}
theorem OpU.mono {R R' : Value → World → Prop} {r : Result Next} (h : OpU P R r) (k : ∀ v w, R v w → R' v w) : OpU P R' r := by
  cases r with
  | ok x w =>
    cases x <;> simp only [OpU] at h ⊢ <;> first | exact k _ _ h | exact Calls.mono h (fun e w' ⟨v, h1, h2⟩ => ⟨v, h1, k _ _ h2⟩) | exact RoundIn.mono h (fun e w' ⟨v, h1, h2⟩ => ⟨v, h1, k _ _ h2⟩)
  | halt x w => simp only [OpU] at h
/-- An operation, world by world. -/
theorem OpP.at {op : Op} {v : Value} (h : ∀ w, A w → OpP P ρ op ty (fun u => u = w) v) : OpP P ρ op ty A v := fun d pos af g w hw => h w hw d pos af g w rfl

theorem SL.bk {b : Nat} {t : TypeId} {cs : List Value} {w : World} (h : SL w0 I (Bk b t cs :: L) w) : w.heap[b]? = some (.cells cs.toArray t (0, 0)) := by
  obtain ⟨R, hp, hm⟩ := h.heap
  exact hm _ _ (by rw [hp]; exact List.mem_singleton.2 rfl)
instance {x : Operand} {t t' : TypeId} {b i : Nat} {cs : List Value} {v : Value} {L' : List HP} [hx : Ev ρ x (.pointer (some ⟨b, i, none⟩))] [ht : One P t] [hA : InSL A w0 I L] [hb : FindBk L b t' cs L'] [hg : GetL cs i v] :
    OpM P ρ A (.load t x) ty v True := ⟨fun _ => P_load ht.out hx.out fun w hw => cell_of_heap (hb.out.sl (hA.out w hw)).bk (by simpa using hg.out)⟩
instance {x : Operand} {t : TypeId} {s : SV} {sz : Nat} {i : Int} {k : Nat} {α : Type} {e : Enc α} {xs : List α} {l : List Value} {v : Value} [hx : Ev ρ x (.pointer (some (eAddr s sz i k)))] [ht : One P t] [hA : InSL A w0 I L] [hr : RdS I L s α e xs] [hz : SzIs α sz] [hc : CellsL α (at_ xs i) l] [hg : GetL l k v] :
    OpM P ρ A (.load t x) ty v (0 ≤ i ∧ i < xs.length) := ⟨fun hi => P_load (b := (eAddr s sz i k).block) (i := (eAddr s sz i k).off) ht.out hx.out fun w hw => by
  have h := (hr.out w0 w (hA.out w hw)).cells i.toNat k v (by omega) (by
    have h1 := hc.out; have h2 := hg.out; rw [← h1] at h2; exact h2)
  rw [hz.out] at h
  have : ((i.toNat : Nat) : Int) = i := by omega
  rw [this] at h
  exact h⟩
instance {x : Operand} {t t' : TypeId} {b i n : Nat} {cs l1 l2 l3 l : List Value} {L' : List HP} [hx : Ev ρ x (.pointer (some ⟨b, i, none⟩))] [ht : Agg P t n] [hA : InSL A w0 I L] [hb : FindBk L b t' cs L'] [hf : FirstL cs i l1 l2] [hl : FirstL l2 n l l3] :
    OpM P ρ A (.load t x) ty (.agg l.toArray) True := ⟨fun _ => P_loadAgg ht.out hx.out hl.out.2 fun w hw j v hj => by
  refine cell_of_heap (hb.out.sl (hA.out w hw)).bk ?_
  rw [hf.out.1, hl.out.1]
  have h1 := hf.out.2
  have hjl := (List.getElem?_eq_some_iff.1 hj).1
  simp only [List.getElem?_toArray]
  rw [List.getElem?_append_right (by omega), show i + j - l1.length = j by omega, List.getElem?_append_left hjl]
  exact hj⟩
instance {x : Operand} {t : TypeId} {s : SV} {sz n : Nat} {i : Int} {k : Nat} {α : Type} {e : Enc α} {xs : List α} {c l1 l2 l3 l : List Value} [hx : Ev ρ x (.pointer (some (eAddr s sz i k)))] [ht : Agg P t n] [hA : InSL A w0 I L] [hr : RdS I L s α e xs] [hz : SzIs α sz] [hc : CellsL α (at_ xs i) c] [hf : FirstL c k l1 l2] [hl : FirstL l2 n l l3] :
    OpM P ρ A (.load t x) ty (.agg l.toArray) (0 ≤ i ∧ i < xs.length) := ⟨fun hi => P_loadAgg (b := (eAddr s sz i k).block) (i := (eAddr s sz i k).off) ht.out hx.out hl.out.2 fun w hw j v hj => by
  have h := (hr.out w0 w (hA.out w hw)).cells i.toNat (k + j) v (by omega) (by
    have h1 := hc.out; have h3 := hf.out.2
    have hjl := (List.getElem?_eq_some_iff.1 hj).1
    show (Enc.cells (at_ xs i))[k + j]? = some v
    rw [h1, hf.out.1, hl.out.1, List.getElem?_append_right (by omega), show k + j - l1.length = j by omega, List.getElem?_append_left hjl]
    exact hj)
  rw [hz.out] at h
  have : ((i.toNat : Nat) : Int) = i := by omega
  rw [this, eAddr_add] at h
  exact h⟩
instance {x y : Operand} {t e : TypeId} {k : IntKind} {s : SV} {i : Int} {sz bytes : Nat} {z : List Value} {α : Type} {en : Enc α} {xs : List α} [hx : Ev ρ x (.slice s.a s.n s.cap)] [hy : Ev ρ y (.int k i)] [ht : Und P t (.slice e)] [hz : Inf P e z sz bytes] [hA : InSL A w0 I L] [hr : RdS I L s α en xs] :
    OpM P ρ A (.indexAddr t x y) ty (.pointer (some (eAddr s sz i 0))) (0 ≤ i ∧ i < xs.length) := ⟨fun hi => OpP.at fun w hw => by
  have h := hr.out w0 w (hA.out w hw)
  have hl := h.len
  rcases h.plain with h0 | ⟨b, o, ha⟩
  · omega
  · have e1 : eAddr s sz i 0 = ⟨b, o + i.toNat * sz, none⟩ := by simp [eAddr, ha]
    rw [e1]
    refine P_indexAddr (len := s.n) (cap := s.cap) ht.out hz.size ?_ hy.out hi.1 (by omega)
    rw [← ha]; exact hx.out⟩
instance {x : Operand} {t e : TypeId} {s : SV} {α : Type} {en : Enc α} {xs : List α} [hx : Ev ρ x (.slice s.a s.n s.cap)] [ht : Und P t (.slice e)] [hA : InSL A w0 I L] [hr : RdS I L s α en xs] :
    OpM P ρ A (.call { callee := .builtin .len, args := #[x], argTypes := #[t] }) ty (.int .i64 xs.length) True := ⟨fun _ => OpP.at fun w hw => by
  rw [← (hr.out w0 w (hA.out w hw)).len]
  exact P_len_slice ht.out hx.out⟩
instance (priority := 900) {x : Operand} {t e : TypeId} {s : SV} [hx : Ev ρ x (.slice s.a s.n s.cap)] [ht : Und P t (.slice e)] :
    OpM P ρ A (.call { callee := .builtin .len, args := #[x], argTypes := #[t] }) ty (.int .i64 s.n) True := ⟨fun _ => P_len_slice ht.out hx.out⟩
instance (priority := 1100) {x : Operand} {t e : TypeId} [hx : Ev ρ x (.slice SV.nil.a SV.nil.n SV.nil.cap)] [ht : Und P t (.slice e)] :
    OpM P ρ A (.call { callee := .builtin .len, args := #[x], argTypes := #[t] }) ty (.int .i64 0) True := ⟨fun _ => P_len_slice (k := 0) ht.out hx.out⟩
instance {x : Operand} {t e : TypeId} {s : SV} [hx : Ev ρ x (.slice s.a s.n s.cap)] [ht : Und P t (.slice e)] :
    OpM P ρ A (.call { callee := .builtin .cap, args := #[x], argTypes := #[t] }) ty (.int .i64 s.cap) True := ⟨fun _ => P_cap_slice ht.out hx.out⟩

/-! ### Operations that do something -/
class OpE (P : Program) (ρ : Env) (A : World → Prop) (op : Op) (ty : TypeId) (τ : outParam Type) (val : outParam (τ → Value)) (B : outParam (τ → World → Prop)) (S : outParam Prop) : Prop where
  out : S → OpT P ρ op ty A fun v w => ∃ x, v = val x ∧ B x w
theorem OpT.sl [hA : InSL A w0 I L] {op : Op} {τ : Type} {val : τ → Value} {B : τ → World → Prop} (h : ∀ w, SL w0 I L w → ∀ d pos af g, OpU P (fun v w => ∃ x, v = val x ∧ B x w) ((execOp (evalE ρ) ⟨d, op, ty, pos, af, g⟩).run P w)) :
    OpT P ρ op ty A fun v w => ∃ x, v = val x ∧ B x w := fun d pos af g w hw => h w (hA.out w hw) d pos af g

/-- A store. -/
class OpS (P : Program) (ρ : Env) (A : World → Prop) (op : Op) (ty : TypeId) (B : outParam (World → Prop)) (S : outParam Prop) : Prop where
  out : S → OpT P ρ op ty A fun _ w => B w
theorem OpT.slS [hA : InSL A w0 I L] {op : Op} {B : World → Prop} (h : ∀ w, SL w0 I L w → ∀ d pos af g, OpU P (fun _ w => B w) ((execOp (evalE ρ) ⟨d, op, ty, pos, af, g⟩).run P w)) :
    OpT P ρ op ty A fun _ w => B w := fun d pos af g w hw => h w (hA.out w hw) d pos af g
instance {x y : Operand} {t t' : TypeId} {b i : Nat} {cs cs' : List Value} {v : Value} {L' : List HP} {z : List Value} {bytes : Nat} [hx : Ev ρ x (.pointer (some ⟨b, i, none⟩))] [hy : Ev ρ y v] [hv : CellsV v [v]] [hz : Inf P t z 1 bytes] [hA : InSL A w0 I L] [hb : FindBk L b t' cs L'] [hg : SetL cs i v cs'] :
    OpS P ρ A (.store t x y) ty (SL w0 I (Bk b t' cs' :: L')) True := ⟨fun _ => OpT.slS fun w hw d pos af g => by
  obtain ⟨H, R, Rs, h1, h2, h3, h4⟩ := (hb.out.sl hw).uncons
  unfold Bk at h2
  subst h2
  have h := T_store (P := P) (ρ := ρ) (ty := ty) 0 hz.size hx.out hy.out (hv.out.2 v (List.mem_singleton.2 rfl)) (L := (b, .cells cs.toArray t' (0, 0)) :: Rs.flatten) (w0 := w0) (H := H) rfl (by simpa using hg.out.2) d pos af g w h4
  refine h.mono fun u w' hu => SL.cons h1 (R := [(b, .cells cs'.toArray t' (0, 0))]) rfl h3 ?_
  rw [List.set_cons_zero] at hu
  rw [← hg.out.1]
  simpa using hu⟩
instance {x y : Operand} {t t' : TypeId} {b i n : Nat} {cs cs' vs : List Value} {L' : List HP} {z : List Value} {bytes : Nat} [hx : Ev ρ x (.pointer (some ⟨b, i, none⟩))] [hy : Ev ρ y (.agg vs.toArray)] [hv : OnesL vs] [hz : Inf P t z n bytes] [hn : FirstL vs n vs []] [hA : InSL A w0 I L] [hb : FindBk L b t' cs L'] [hg : PutL cs i vs cs'] :
    OpS P ρ A (.store t x y) ty (SL w0 I (Bk b t' cs' :: L')) True := ⟨fun _ => OpT.slS fun w hw d pos af g => by
  obtain ⟨H, R, Rs, h1, h2, h3, h4⟩ := (hb.out.sl hw).uncons
  unfold Bk at h2
  subst h2
  have h := T_storeAgg (P := P) (ρ := ρ) (ty := ty) 0 hz.size hx.out hy.out hn.out.2 (by simpa using hv.out) (L := (b, .cells cs.toArray t' (0, 0)) :: Rs.flatten) (w0 := w0) (H := H) rfl (by simpa using hg.out.2) d pos af g w h4
  refine h.mono fun u w' hu => SL.cons h1 (R := [(b, .cells cs'.toArray t' (0, 0))]) rfl h3 ?_
  rw [List.set_cons_zero, fold_put _ _ _ hg.out.2, ← hg.out.1] at hu
  exact hu⟩
/-- The cells vs are laid into the element number i. -/
theorem own_put {α : Type} [en : Enc α] {e : TypeId} {s : SV} {xs : List α} {R : Foot} (h : OwnS e s xs R) {i k : Nat} {vs : List Value} {y : α} (hi : i < xs.length) (hk : k + vs.length ≤ Enc.sz α) (hy : Enc.cells y = (Enc.cells (xs.getD i Enc.dflt)).take k ++ vs ++ (Enc.cells (xs.getD i Enc.dflt)).drop (k + vs.length)) :
    ∃ g cur, R = [(g, .cells cur e (0, 0))] ∧ eAddr s (Enc.sz α) (i : Int) k = ⟨g, i * Enc.sz α + k, none⟩ ∧ i * Enc.sz α + k + vs.length ≤ cur.size ∧
      OwnS e s (xs.set i y) [(g, .cells (vs.foldl (fun (p : Array Value × Nat) v => (p.1.setIfInBounds p.2 v, p.2 + 1)) (cur, i * Enc.sz α + k)).1 e (0, 0))] := by
  have hn := OwnR.len h
  have hsz := Enc.pos (α := α)
  rcases h.2 with ⟨h1, h2, h3⟩ | ⟨g, cap, cur, h1, h2, h3, h4, h5, h6⟩
  · omega
  · cases s with
    | mk a n c =>
      cases h1
      dsimp only at hn h2 h4 h5
      subst hn
      have hle : i * Enc.sz α + k + vs.length ≤ xs.length * Enc.sz α := by
        have : (i + 1) * Enc.sz α ≤ xs.length * Enc.sz α := Nat.mul_le_mul_right _ hi
        rw [Nat.add_mul] at this; omega
      have hle2 : xs.length * Enc.sz α ≤ c * Enc.sz α := Nat.mul_le_mul_right _ h2
      refine ⟨g, cur, h6, by simp [eAddr], by omega, ?_⟩
      have hcur : cur = cur.toList.toArray := by simp
      rw [hcur, fold_put _ _ _ (by simp; omega)]
      refine ⟨by rw [flat_len]; simp, .inr ⟨g, c, _, rfl, h2, h3, ?_, ?_, rfl⟩⟩
      · simp; omega
      · rw [flat_set xs i k y vs hi hk hy]
        show List.take (xs.length * Enc.sz α) (List.take (i * Enc.sz α + k) cur.toList ++ vs ++ List.drop (i * Enc.sz α + k + vs.length) cur.toList) = _
        rw [← h5, List.take_append, List.take_of_length_le (by simp; omega), List.take_take, List.drop_take]
        congr 2
        · congr 1; omega
        · congr 1; simp; omega
instance {x y : Operand} {t t' : TypeId} {s : SV} {sz k : Nat} {i : Int} {v : Value} {L' : List HP} {z : List Value} {bytes : Nat} {α : Type} {en : Enc α} {xs : List α} {c c' : List Value} {u : α} [hx : Ev ρ x (.pointer (some (eAddr s sz i k)))] [hy : Ev ρ y v] [hv : CellsV v [v]] [hz : Inf P t z 1 bytes] [hA : InSL A w0 I L] [hb : FindOwn L s t' α en xs L'] [hs : SzIs α sz] [hc : CellsL α (at_ xs i) c] [hg : SetL c k v c'] [hd : Dec α c' u] :
    OpS P ρ A (.store t x y) ty (SL w0 I (OwnS t' s (xs.set i.toNat u) :: L')) (0 ≤ i ∧ i < xs.length) := ⟨fun hi => OpT.slS fun w hw d pos af g => by
  obtain ⟨H, R, Rs, h1, h2, h3, h4⟩ := (hb.out.sl hw).uncons
  have hcl : Enc.sz α = c.length := by rw [← hc.out, Enc.len]
  have hkl := hg.out.2
  obtain ⟨gb, cur, h5, h6, h7, h8⟩ := own_put h2 (i := i.toNat) (k := k) (vs := [v]) (y := u) (by omega) (by simp; omega) (by
    have e1 : Enc.cells (xs.getD i.toNat Enc.dflt) = c := hc.out
    rw [hd.out, e1, ← hg.out.1]
    simp only [List.length_singleton]
    rw [List.set_eq_take_append_cons_drop, if_pos hkl]; simp)
  subst h5
  have e2 : ((i.toNat : Nat) : Int) = i := by omega
  rw [e2, hs.out] at h6
  rw [hs.out] at h7 h8
  have hx' := hx.out
  rw [h6] at hx'
  have h := T_store (P := P) (ρ := ρ) (ty := ty) 0 hz.size hx' hy.out (hv.out.2 v (List.mem_singleton.2 rfl)) (L := (gb, .cells cur t' (0, 0)) :: Rs.flatten) (w0 := w0) (H := H) rfl (by simp only [List.length_singleton] at h7; omega) d pos af g w h4
  refine h.mono fun u w' hu => SL.cons h1 h8 h3 ?_
  rw [List.set_cons_zero] at hu
  exact hu⟩
instance {x y : Operand} {t t' : TypeId} {s : SV} {sz k n : Nat} {i : Int} {vs : List Value} {L' : List HP} {z : List Value} {bytes : Nat} {α : Type} {en : Enc α} {xs : List α} {c c' : List Value} {u : α} [hx : Ev ρ x (.pointer (some (eAddr s sz i k)))] [hy : Ev ρ y (.agg vs.toArray)] [hv : OnesL vs] [hz : Inf P t z n bytes] [hn : FirstL vs n vs []] [hA : InSL A w0 I L] [hb : FindOwn L s t' α en xs L'] [hs : SzIs α sz] [hc : CellsL α (at_ xs i) c] [hg : PutL c k vs c'] [hd : Dec α c' u] :
    OpS P ρ A (.store t x y) ty (SL w0 I (OwnS t' s (xs.set i.toNat u) :: L')) (0 ≤ i ∧ i < xs.length) := ⟨fun hi => OpT.slS fun w hw d pos af g => by
  obtain ⟨H, R, Rs, h1, h2, h3, h4⟩ := (hb.out.sl hw).uncons
  have hcl : Enc.sz α = c.length := by rw [← hc.out, Enc.len]
  have hkl := hg.out.2
  obtain ⟨gb, cur, h5, h6, h7, h8⟩ := own_put h2 (i := i.toNat) (k := k) (vs := vs) (y := u) (by omega) (by omega) (by
    have e1 : Enc.cells (xs.getD i.toNat Enc.dflt) = c := hc.out
    rw [hd.out, e1, hg.out.1])
  subst h5
  have e2 : ((i.toNat : Nat) : Int) = i := by omega
  rw [e2, hs.out] at h6
  rw [hs.out] at h7 h8
  have hx' := hx.out
  rw [h6] at hx'
  have h := T_storeAgg (P := P) (ρ := ρ) (ty := ty) 0 hz.size hx' hy.out hn.out.2 (by simpa using hv.out) (L := (gb, .cells cur t' (0, 0)) :: Rs.flatten) (w0 := w0) (H := H) rfl (by simpa using h7) d pos af g w h4
  refine h.mono fun u w' hu => SL.cons h1 h8 h3 ?_
  rw [List.set_cons_zero] at hu
  exact hu⟩

/-! ### What is made -/
instance {t : TypeId} {z : List Value} {n bytes : Nat} [hz : Inf P t z n bytes] [hA : InSL A w0 I L] :
    OpE P ρ A (.alloc t) ty Nat (fun b => .pointer (some ⟨b, 0, none⟩)) (fun b => SL w0 I (Bk b t z :: L)) True := ⟨fun _ => OpT.sl fun w hw d pos af g => by
  obtain ⟨z', h1, h2, _⟩ := Inf.zero hz
  obtain ⟨H, Rs, h3, h4, h5⟩ := hw
  refine (T_alloc (P := P) (ρ := ρ) (ty := ty) h1 d pos af g w h5).mono fun v w' ⟨b, hv, hb⟩ => ⟨b, hv, SL.cons h3 (R := [(b, .cells z.toArray t (0, 0))]) rfl h4 (by rw [h2] at hb; exact hb)⟩⟩
instance {t : TypeId} {x : Operand} {v : Value} {l : List Value} [hx : Ev ρ x v] [hv : CellsV v l] [hA : InSL A w0 I L] :
    OpE P ρ A (.box t x) ty Nat (fun b => .pointer (some ⟨b, 0, none⟩)) (fun b => SL w0 I (Bk b t l :: L)) True := ⟨fun _ => OpT.sl fun w hw d pos af g => by
  obtain ⟨H, Rs, h3, h4, h5⟩ := hw
  refine (T_box (P := P) (ρ := ρ) (ty := ty) hx.out d pos af g w h5).mono fun v w' ⟨b, hv', hb⟩ => ⟨b, hv', SL.cons h3 (R := [(b, .cells l.toArray t (0, 0))]) rfl h4 (by rw [hv.out.1] at hb; exact hb)⟩⟩
theorem flat_replicate {α : Type} [Enc α] (n : Nat) (y : α) : flat (List.replicate n y) = (List.replicate n (Enc.cells y)).flatten := by
  simp [flat, List.flatMap_replicate]
theorem made_flat (z : List Value) (n : Nat) : (madeCells z.toArray (n * z.length)).toList = (List.replicate n z).flatten := by
  apply List.ext_getElem?
  intro i
  by_cases hz : z.length = 0
  · have : z = [] := List.eq_nil_of_length_eq_zero hz
    subst this; simp [madeCells]
  · by_cases hi : i < n * z.length
    · have hlen : (List.replicate n z).flatten.length = n * z.length := by simp
      have h1 : (madeCells z.toArray (n * z.length)).toList[i]? = some (z.getD (i % z.length) undef) := by
        have hm : i % z.length < z.length := Nat.mod_lt _ (by omega)
        simp [madeCells, hi, hm]
      rw [h1]
      have hm : i % z.length < z.length := Nat.mod_lt _ (by omega)
      have key : ∀ (n i : Nat), i < n * z.length → (List.replicate n z).flatten[i]? = z[i % z.length]? := by
        intro n
        induction n with
        | zero => intro i hi; simp at hi
        | succ n ih =>
          intro i hi
          rw [List.replicate_succ, List.flatten_cons]
          by_cases h : i < z.length
          · rw [List.getElem?_append_left h, Nat.mod_eq_of_lt h]
          · rw [List.getElem?_append_right (by omega), ih _ (by rw [Nat.add_mul] at hi; omega)]
            congr 1
            rw [Nat.mod_eq_sub_mod (by omega : z.length ≤ i)]
      rw [key n i hi]
      simp [List.getD_eq_getElem?_getD, hm]
    · have hlen : (List.replicate n z).flatten.length = n * z.length := by simp
      rw [List.getElem?_eq_none (by simp [madeCells]; omega), List.getElem?_eq_none (by rw [hlen]; omega)]
instance {l c : Operand} {t e : TypeId} {z : List Value} {size bytes : Nat} {kl kc : IntKind} {Lv C : Int} {α : Type} {en : Enc α} {y : α} [hl : Ev ρ l (.int kl Lv)] [hc : Ev ρ c (.int kc C)] [ht : Und P t (.slice e)] [hz : Inf P e z size bytes] [hp : Phys P e α en] [hs : SzIs α size] [hd : Dec α z y] [hA : InSL A w0 I L] :
    OpE P ρ A (.makeSlice t l c) ty SV (fun s => .slice s.a s.n s.cap) (fun s => SL w0 I (OwnS e s (List.replicate Lv.toNat y) :: L)) ((0 ≤ Lv ∧ Lv ≤ C) ∧ ((bytes : Int) * C ≤ 281474976710656 ∧ C ≤ 9223372036854775807)) := ⟨fun h => OpT.sl fun w hw d pos af g => by
  obtain ⟨z', h1, h2, h2'⟩ := Inf.zero hz
  obtain ⟨H, Rs, h3, h4, h5⟩ := hw
  have hzl : z.length = size := by rw [← hd.out, Enc.len]; exact hs.out
  refine (T_make (P := P) (ρ := ρ) (ty := ty) ht.out h2' hl.out hc.out h.1.1 h.1.2 h.2.1 h.2.2 d pos af g w h5).mono fun v w' ⟨b, hv, hb⟩ => ⟨⟨some ⟨b, 0, none⟩, Lv.toNat, C.toNat⟩, hv, SL.cons h3 (R := [(b, .cells (madeCells z'.cells (C.toNat * size)) e (0, 0))]) ?_ h4 hb⟩
  have hle : Lv.toNat ≤ C.toNat := by omega
  have hle2 : Lv.toNat * size ≤ C.toNat * size := Nat.mul_le_mul_right _ hle
  refine ⟨by rw [flat_len]; simp, .inr ⟨b, C.toNat, _, rfl, hle, by have := h.2.2; simp only [maxLen]; omega, by rw [size_madeCells, hs.out], ?_, rfl⟩⟩
  rw [h2, ← hzl, made_flat, flat_replicate, hd.out]
  have e : Enc.sz α = z.length := by rw [hs.out, hzl]
  rw [e]
  obtain ⟨m, hm⟩ : ∃ m, C.toNat = Lv.toNat + m := ⟨C.toNat - Lv.toNat, by omega⟩
  rw [hm, ← List.replicate_append_replicate, List.flatten_append]
  exact List.take_left' (by simp)⟩
end
end Go.Fw
