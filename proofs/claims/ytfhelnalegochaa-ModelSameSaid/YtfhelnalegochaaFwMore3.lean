/- Slices that may be read, wherever they lie. Conditions: none. -/
import Derived.Test.YtfhelnalegochaaFwMore2
import Derived.Laws.Cover3
namespace Go.Fw
open Go Go.RowKit
set_option linter.unusedVariables false
set_option linter.unusedSimpArgs false

def Blk (H : HeapP) (L : List (Nat × Obj)) (b : Nat) (o : Obj) : Prop := H b = some o ∨ (b, o) ∈ L
/-- The slice v has n elements, their cells are xs; it may be read. -/
def Rd (H : HeapP) (L : List (Nat × Obj)) (size : Nat) (v : Value) (n : Nat) (xs : List Value) : Prop :=
  xs.length = n * size ∧ ((∃ a cap, v = .slice a n cap ∧ n = 0) ∨
    ∃ b o cap cs t fr, v = .slice (some ⟨b, o, none⟩) n cap ∧ n ≤ cap ∧ Blk H L b (.cells cs t fr) ∧ ∀ j u, xs[j]? = some u → cs.toList[o + j]? = some u)
theorem Rd.mono {H H' : HeapP} {L L' : List (Nat × Obj)} {size : Nat} {v : Value} {n : Nat} {xs : List Value} (h : Rd H L size v n xs) (hH : HLe H H') (hL : L ⊆ L') : Rd H' L' size v n xs := by
  refine ⟨h.1, h.2.imp id ?_⟩
  rintro ⟨b, o, cap, cs, t, fr, h1, h2, h3, h4⟩
  exact ⟨b, o, cap, cs, t, fr, h1, h2, h3.imp (fun h => hH _ _ h) (fun h => hL h), h4⟩
theorem Rd.inL {H : HeapP} {L L' : List (Nat × Obj)} {size : Nat} {v : Value} {n : Nat} {xs : List Value} (h : Rd H L size v n xs) (hL : L ⊆ L') : Rd H L' size v n xs := h.mono (HLe.refl H) hL
theorem Rd.slice {H : HeapP} {L : List (Nat × Obj)} {size : Nat} {v : Value} {n : Nat} {xs : List Value} (h : Rd H L size v n xs) : ∃ a cap, v = .slice a n cap ∧ n ≤ cap := by
  rcases h.2 with ⟨a, cap, rfl, rfl⟩ | ⟨b, o, cap, cs, t, fr, rfl, h1, _⟩
  · exact ⟨a, cap, rfl, Nat.zero_le _⟩
  · exact ⟨_, cap, rfl, h1⟩
theorem OwnR.rd {H : HeapP} {L R : List (Nat × Obj)} {e : TypeId} {size : Nat} {v : Value} {n : Nat} {xs : List Value} (h : OwnR e size v n xs R) (hL : R ⊆ L) : Rd H L size v n xs := by
  refine ⟨h.1, h.2.imp (fun h => ⟨none, 0, by rw [h.2.1]; exact h.1, h.2.1⟩) ?_⟩
  rintro ⟨g, cap, cur, h1, h2, h3, h4, h5, rfl⟩
  refine ⟨g, 0, cap, cur, e, _, h1, h2, .inr (hL (List.mem_singleton.2 rfl)), fun j u hu => ?_⟩
  rw [← h5, List.getElem?_take] at hu
  split at hu
  · rwa [Nat.zero_add]
  · cases hu
/-- The element number i, of one cell. -/
theorem Rd.at1 {H : HeapP} {L : List (Nat × Obj)} {v : Value} {n : Nat} {xs : List Value} (h : Rd H L 1 v n xs) {i : Nat} (hi : i < n) :
    ∃ b o cap cs t fr, v = .slice (some ⟨b, o, none⟩) n cap ∧ Blk H L b (.cells cs t fr) ∧ cs.toList[o + (i : Int).toNat * 1]? = xs[i]? := by
  rcases h.2 with ⟨a, cap, rfl, rfl⟩ | ⟨b, o, cap, cs, t, fr, rfl, h1, h2, h3⟩
  · omega
  · refine ⟨b, o, cap, cs, t, fr, rfl, h2, ?_⟩
    have hl : i < xs.length := by have := h.1; omega
    have e : xs[i]? = some xs[i] := List.getElem?_eq_getElem hl
    rw [e, show o + (i : Int).toNat * 1 = o + i by omega]
    exact h3 i _ e
theorem OwnR.lit0 (e : TypeId) (size b : Nat) : OwnR e size (.slice (some ⟨b, 0, none⟩) 0 0) 0 [] [(b, .cells #[] e (0, 0))] := ⟨by simp, .inr ⟨b, 0, #[], rfl, Nat.le_refl _, by simp [maxLen], by simp, by simp, rfl⟩⟩
/-- What the heap holds at the start. -/
theorem rd_cells {w : World} {a : Addr} {len cap : Nat} {xs : List Value} (hl : xs.length = len) (hlc : len ≤ cap) (h : ∀ i, i < len → w.cell? (a.add i) = xs[i]?) : Rd (fun b => w.heap[b]?) [] 1 (.slice (some a) len cap) len xs := by
  refine ⟨by omega, ?_⟩
  cases len with
  | zero => exact .inl ⟨some a, cap, rfl, rfl⟩
  | succ len =>
    right
    have h0 := h 0 (by omega)
    have ex : xs[0]? = some xs[0] := List.getElem?_eq_getElem (by omega)
    rw [ex] at h0
    obtain ⟨b, o, sp⟩ := a
    cases sp with
    | some q => simp [Addr.add, World.cell?] at h0; split at h0 <;> simp_all
    | none =>
      have ha : ∀ i, (⟨b, o, none⟩ : Addr).add i = ⟨b, o + i, none⟩ := fun i => by
        unfold Addr.add; split
        · rename_i e; simp [e]
        · rfl
      rw [ha] at h0
      unfold World.cell? at h0
      split at h0
      · rename_i cs t fr hb
        refine ⟨b, o, cap, cs, t, fr, rfl, hlc, .inl hb, fun j u hu => ?_⟩
        have hj : j < len + 1 := by have := (List.getElem?_eq_some_iff.1 hu).1; omega
        have := h j hj
        simp only at hb
        rw [hu, ha] at this
        simpa [World.cell?, hb] using this
      · cases h0
theorem oneCell_str (l : List ByteArray) : ∀ u ∈ l.map Value.string, u.oneCell' = true := by
  intro u hu; obtain ⟨s, _, rfl⟩ := List.mem_map.1 hu; rfl

section
variable {P : Program} {ρ : Env} {A : World → Prop} {ty : TypeId} {w0 : World} {H : HeapP} {L : List (Nat × Obj)}
theorem St.blk {w : World} (h : St w0 H L w) {b : Nat} {o : Obj} (hb : Blk H L b o) : w.heap[b]? = some o := hb.elim (fun e => h.imm _ _ e) (fun e => (h.own _ e).1)
theorem P_loadM [hA : InSt A w0 H L] {x : Operand} {t t' : TypeId} {b i : Nat} {cs : Array Value} {fr : Nat × Nat} {v : Value} (ht : oneTy P t = true) (h : evalE ρ x = .pointer (some ⟨b, i, none⟩))
    (hH : Blk H L b (.cells cs t' fr)) (hi : cs.toList[i]? = some v) : OpP P ρ (.load t x) ty A v :=
  P_load ht h fun w hw => cell_of_heap ((hA.out w hw).blk hH) (by simpa using hi)

theorem T_appendR {R : List (Nat × Obj)} {s x : Operand} {t e : TypeId} {z : Value} {size bytes : Nat} (ht : P.underlying t = some (.slice e)) (hi : (P.info? e).map (fun i => (i.zero, i.size, i.bytes)) = some (some z, size, bytes)) (hzs : z.cells.size = size) (hsz : 0 < size)
    {v : Value} {n : Nat} {xs : List Value} (hown : OwnR e size v n xs R) (hs : evalE ρ s = v) {vx : Value} {m : Nat} {news : List Value} (hr : Rd H (R ++ L) size vx m news) (hx : evalE ρ x = vx) (h1 : ∀ u ∈ news, u.oneCell' = true)
    (h63 : n + m ≤ maxLen) (hbytes : (n + m) * bytes ≤ 140737488355328) :
    OpT P ρ (.call { callee := .builtin .append, args := #[s, x], argTypes := #[t, t] }) ty (St w0 H (R ++ L))
      fun v' w => ∃ q : Value × List (Nat × Obj), v' = q.1 ∧ (OwnR e size q.1 (n + m) (xs ++ news) q.2 ∧ St w0 H (q.2 ++ L) w) := by
  rcases hr.2 with ⟨a, capx, rfl, rfl⟩ | ⟨b, o, cap, cs, t', fr, rfl, hc, hb, hcs⟩
  · have hn : news = [] := List.eq_nil_of_length_eq_zero (by simpa using hr.1)
    subst hn
    cases a with
    | some a => exact T_append ht hi hzs hsz hs hown hx (by simp) (fun w hw j u hu => by simp at hu) h1 h63 hbytes
    | none =>
      obtain ⟨i, hi', hzz⟩ := Option.map_eq_some_iff.1 hi
      simp only [Prod.mk.injEq] at hzz
      obtain ⟨hz, rfl, rfl⟩ := hzz
      intro d pos af g w hw
      have key : (Builtin.append_ #[t, t] ty #[v, .slice none 0 capx]).run P w = .ok v w := by
        rcases hown.2 with ⟨rfl, rfl, rfl⟩ | ⟨gb, cap, cur, rfl, hnc, hcm, hcs, htake, rfl⟩
        · simp [Builtin.append_, run_underlying ht, sizeOf, typeInfo, hi', Builtin.lenOf, Builtin.firstCells, loadCells, loadCellsFrom]
        · simp [Builtin.append_, run_underlying ht, sizeOf, typeInfo, hi', Builtin.lenOf, Builtin.firstCells, loadCells, loadCellsFrom, hnc, storeCells, go_sem]
      have e1 : (execOp (evalE ρ) ⟨d, .call { callee := .builtin .append, args := #[s, x], argTypes := #[t, t] }, ty, pos, af, g⟩).run P w = .ok (.value v) w := by
        have key' : (Builtin.append_ #[t, t] ty #[v, .slice none 0 capx]).run P w = .ok v w := key
        unfold execOp
        simp only [resolve, invoke, builtin, Sem.run_bind, Sem.run_pure, Result.andThen_ok, List.map_toArray, List.map_cons, List.map_nil, hs, hx, key']
      rw [e1]
      refine ⟨(v, R), rfl, ?_, hw⟩
      rw [List.append_nil]
      exact hown
  · refine T_append ht hi hzs hsz hs hown hx hr.1 (fun w hw j u hu => ?_) h1 h63 hbytes
    have ha : (⟨b, o, none⟩ : Addr).add j = ⟨b, o + j, none⟩ := by
      unfold Addr.add; split
      · rename_i e; simp [e]
      · rfl
    rw [ha]
    exact cell_of_heap (hw.blk hb) (by simpa using hcs j u hu)
end
section
variable {P : Program} {ρ : Env} {A : World → Prop} {ty : TypeId}
theorem P_eqB {x y : Operand} {t u : TypeId} {a b : Bool} (ht : P.underlying t = some .bool) (h1 : evalE ρ x = .bool a) (h2 : evalE ρ y = .bool b) : OpP P ρ (.binOp .eql t x y u) ty A (.bool (a == b)) := by
  intro d pos af g w _; simp [execOp, eqGuard, binOp, h1, h2, run_equal_bool w t a b ht, go_sem]
theorem P_neB {x y : Operand} {t u : TypeId} {a b : Bool} (ht : P.underlying t = some .bool) (h1 : evalE ρ x = .bool a) (h2 : evalE ρ y = .bool b) : OpP P ρ (.binOp .neq t x y u) ty A (.bool (a != b)) := by
  intro d pos af g w _; simp [execOp, eqGuard, binOp, h1, h2, run_equal_bool w t a b ht, bne, go_sem]
theorem P_eqB_same {x y : Operand} {t u : TypeId} {a : Bool} (ht : P.underlying t = some .bool) (h1 : evalE ρ x = .bool a) (h2 : evalE ρ y = .bool a) : OpP P ρ (.binOp .eql t x y u) ty A (.bool true) := by
  have := P_eqB (P := P) (A := A) (ty := ty) (t := t) (u := u) ht h1 h2; simpa using this
theorem P_neB_same {x y : Operand} {t u : TypeId} {a : Bool} (ht : P.underlying t = some .bool) (h1 : evalE ρ x = .bool a) (h2 : evalE ρ y = .bool a) : OpP P ρ (.binOp .neq t x y u) ty A (.bool false) := by
  have := P_neB (P := P) (A := A) (ty := ty) (t := t) (u := u) ht h1 h2; simpa using this
theorem P_eqslice_nil {x y : Operand} {t e u : TypeId} {p : Option Addr} {l c : Nat} (ht : P.underlying t = some (.slice e)) (h1 : evalE ρ x = .slice p l c) (h2 : evalE ρ y = .slice none 0 0) : OpP P ρ (.binOp .eql t x y u) ty A (.bool p.isNone) := by
  intro d pos af g w _
  simp [execOp, eqGuard, binOp, h1, h2, run_equal_slice_nil w t e p l c ht, go_sem]
theorem P_neslice_nil {x y : Operand} {t e u : TypeId} {p : Option Addr} {l c : Nat} (ht : P.underlying t = some (.slice e)) (h1 : evalE ρ x = .slice p l c) (h2 : evalE ρ y = .slice none 0 0) : OpP P ρ (.binOp .neq t x y u) ty A (.bool (!p.isNone)) := by
  intro d pos af g w _
  simp [execOp, eqGuard, binOp, h1, h2, run_equal_slice_nil w t e p l c ht, go_sem]
end
theorem Tr.conv {P : Program} {f : FuncId} {args : Array Value} {A A' : World → Prop} {τ τ' : Type} {val : τ → Value} {val' : τ' → Value} {B : τ → World → Prop} {B' : τ' → World → Prop} (h : Tr P f args A val B)
    (hA : ∀ w, A' w → A w) (hB : ∀ x w, B x w → ∃ x', val x = val' x' ∧ B' x' w) : Tr P f args A' val' B' := by
  intro w hw
  refine (h w (hA w hw)).mono ?_
  rintro e w' ⟨x, he, hb⟩
  obtain ⟨x', h1, h2⟩ := hB x w' hb
  exact ⟨x', by rw [he, h1], h2⟩
theorem TrP.toTr {P : Program} {f : FuncId} {args : Array Value} {A A' : World → Prop} [DrC A] {τ : Type} {val : τ → Value} {B : τ → World → Prop} {v : Value} (h : TrP P f args A v) (hA : ∀ w, A' w → A w) (x : τ) (hx : v = val x) (hB : ∀ w, A w → B x w) : Tr P f args A' val B :=
  h.tr.conv hA fun _ w hw => ⟨x, hx, hB w hw⟩
theorem TrP.pre {P : Program} {f : FuncId} {args : Array Value} {A A' : World → Prop} {v : Value} (h : TrP P f args A v) (hA : ∀ w, A' w → A w) : TrP P f args A' v := fun w hw => h w (hA w hw)
end Go.Fw
