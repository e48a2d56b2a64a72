/- What a row hands in, in the words of the walks. Conditions: none. -/
import Derived.Test.YtfhelnalegochaaSlRes
import Derived.SliceStrings
import Derived.SizedLaws
import Derived.ChangeArms
namespace Go.Fw
open Go Go.RowKit Go.ChangeShapes Go.WideShapes
set_option linter.unusedVariables false
set_option linter.unusedSimpArgs false

/-- What is known of cells that read as data of the type t. -/
class OpenT (P : Program) (t : TypeId) (α : outParam Type) (en : outParam (Enc α)) (good : outParam (World → α → Prop)) : Prop where
  out : ∀ {H : Type} {enc : TypeId × Value → H} {w : World} {base : Nat} {spare : Nat → Bool} {held : Bool} {fuel : Nat} {cs : List Value} {x : DataW H × List MemPlace}, DataW.trod enc P w base spare held fuel t cs = some x →
    (∀ n ∈ x.1.weights P t, n ≤ reachBytes) → ∃ y : α, Enc.cells y = cs ∧ good w y
def gInt (_ : World) (y : Int) : Prop := -9223372036854775808 ≤ y ∧ y ≤ 9223372036854775807
instance {P : Program} {t : TypeId} [ht : Und P t (.int .i64)] : OpenT P t Int inferInstance gInt := ⟨fun {H enc w base spare held fuel cs x} h _ => by
  obtain ⟨n, rfl, rfl, hw⟩ := DataW.trod_int ht.out h
  refine ⟨n, rfl, ?_⟩
  simp [Lit.wf, IntKind.min, IntKind.max, IntKind.bits, IntKind.signed] at hw
  unfold gInt; omega⟩
def gKInt (k : IntKind) (_ : World) (y : KInt k) : Prop := (Lit.int k y).wf = true
instance (priority := 900) {P : Program} {t : TypeId} {k : IntKind} [ht : Und P t (.int k)] : OpenT P t (KInt k) inferInstance (gKInt k) := ⟨fun {H enc w base spare held fuel cs x} h _ => by
  obtain ⟨n, rfl, rfl, hw⟩ := DataW.trod_int ht.out h
  exact ⟨n, rfl, hw⟩⟩
def gAny {α : Type} (_ : World) (_ : α) : Prop := True
instance {P : Program} {t : TypeId} [ht : Und P t .bool] : OpenT P t Bool inferInstance gAny := ⟨fun {H enc w base spare held fuel cs x} h _ => by
  obtain ⟨b, rfl, rfl⟩ := DataW.trod_bool ht.out h
  exact ⟨b, rfl, trivial⟩⟩
def gStr (_ : World) (s : ByteArray) : Prop := s.size ≤ 140737488351232
instance {P : Program} {t : TypeId} [ht : Und P t .string] : OpenT P t ByteArray inferInstance gStr := ⟨fun {H enc w base spare held fuel cs x} h hw => by
  obtain ⟨s, rfl, rfl, _⟩ := DataW.trod_string ht.out h
  refine ⟨s, rfl, ?_⟩
  have := hw s.data.toList.length (by simp [DataW.weights])
  simpa [reachBytes, gStr] using this⟩
theorem cells_of {w : World} {base : Nat} {a : Addr} {n : Nat} {cs : List Value} (h : w.cells? base a n = some cs) : cs.length = n ∧ ∀ i v, cs[i]? = some v → w.cell? (a.add i) = some v := by
  unfold World.cells? at h
  split at h
  · have hl : cs.length = n := by simpa using mapM_some_length h
    refine ⟨hl, fun i v hv => ?_⟩
    have hi : i < n := by have := (List.getElem?_eq_some_iff.1 hv).1; omega
    have := mapM_some_get h i i (by simp [hi])
    rw [this, hv]
  · cases h
/-- A slice, and what is known of its elements. -/
def gSl {β : Type} [Enc β] (good : World → β → Prop) (bytes : Nat) (w : World) (s : SV) : Prop := ∃ xs : List β, RdW w s xs ∧ (∀ x ∈ xs, good w x) ∧ xs.length * bytes ≤ 140737488351232
theorem weightsAll_mem {H : Type} {P : Program} {e : TypeId} : ∀ {ds : List (DataW H)} {d : DataW H}, d ∈ ds → ∀ n ∈ d.weights P e, n ∈ DataW.weightsAll P e ds
  | [], d, h, _, _ => by cases h
  | a :: ds, d, h, n, hn => by
    simp only [DataW.weightsAll, List.mem_append]
    rcases List.mem_cons.1 h with rfl | h
    · exact .inl hn
    · exact .inr (weightsAll_mem h n hn)
theorem ex_list {β : Type} {n : Nat} {p : Nat → β → Prop} (h : ∀ i, i < n → ∃ y, p i y) : ∃ l : List β, l.length = n ∧ ∀ i (hi : i < l.length), p i l[i] := by
  induction n with
  | zero => exact ⟨[], rfl, fun i hi => by simp at hi⟩
  | succ n ih =>
    obtain ⟨l, hl, hp⟩ := ih fun i hi => h i (by omega)
    obtain ⟨y, hy⟩ := h n (by omega)
    refine ⟨l ++ [y], by simp [hl], fun i hi => ?_⟩
    rw [List.getElem_append]
    split
    · exact hp i (by assumption)
    · simp at hi; have : i = n := by omega
      subst this; simpa using hy
instance {P : Program} {t e : TypeId} {β : Type} {en : Enc β} {good : World → β → Prop} {z : List Value} {sz bytes : Nat} [ht : Und P t (.slice e)] [he : OpenT P e β en good] [hz : Inf P e z sz bytes] [hs : SzIs β sz] : OpenT P t SV inferInstance (gSl good bytes) := ⟨fun {H enc w base spare held fuel cs x} h hw => by
  have hc : P.cellsOf e = sz := by obtain ⟨i, h1, h2⟩ := Option.map_eq_some_iff.1 hz.size; simp [Program.cellsOf, h1, h2]
  have hbytes : P.bytesOf e = bytes := by obtain ⟨i, h1, h2⟩ := Option.map_eq_some_iff.1 hz.out; simp only [Prod.mk.injEq] at h2; simp [Program.bytesOf, h1, h2.2.2]
  rcases DataW.trod_slice ht.out h with ⟨rfl, rfl⟩ | ⟨a, len, cap, elems, rest, n, _, rfl, rfl, hb, hl, hm, hlen, hel, hsp, hns⟩
  · exact ⟨SV.nil, rfl, [], ⟨rfl, Nat.le_refl _, .inl rfl, fun i k v hi => by simp at hi⟩, by simp, by simp⟩
  · simp only [DataW.weights, ht.out] at hw
    have each : ∀ i, i < len → ∃ y : β, good w y ∧ w.cells? base (a.add (i * sz)) sz = some (Enc.cells y) := by
      intro i hi
      have h1 := hel i hi
      have hil : i < elems.length := by omega
      rw [List.getElem?_eq_getElem hil, hc, Option.bind_eq_some_iff] at h1
      obtain ⟨cs', h2, h3⟩ := h1
      obtain ⟨y, hy, hg⟩ := he.out h3 fun m hm' => hw m (List.mem_cons_of_mem _ (List.mem_append_left _ (weightsAll_mem (List.mem_map.2 ⟨_, List.getElem_mem hil, rfl⟩) m hm')))
      exact ⟨y, hg, by rw [hy]; exact h2⟩
    obtain ⟨xs, hxl, hxs⟩ := ex_list each
    have hspot : 0 < len → a.spot = none := by
      intro h0
      have h1 := (hxs 0 (by omega)).2
      have hpos := Enc.pos (α := β)
      have hcl : 0 < (Enc.cells (xs[0]'(by omega))).length := by rw [Enc.len]; exact hpos
      have h2 := (cells_of h1).2 0 _ (List.getElem?_eq_getElem hcl)
      rw [Nat.zero_mul] at h2
      have e0 : (a.add 0).add 0 = a := by simp [Addr.add]
      rw [e0] at h2
      unfold World.cell? at h2
      split at h2
      · cases hq : a.spot with
        | none => rfl
        | some q => rw [hq] at h2; simp at h2
      · cases h2
    refine ⟨⟨some a, len, cap⟩, rfl, xs, ⟨hxl.symm, hl, ?_, fun i k v hi hv => ?_⟩, fun x hx => ?_, ?_⟩
    · rcases Nat.eq_zero_or_pos len with h0 | h0
      · exact .inl h0
      · right
        have := hspot h0
        obtain ⟨b, o, sp⟩ := a
        simp only at this
        subst this
        exact ⟨b, o, rfl⟩
    · have hi' : i < len := by omega
      have h1 := (hxs i hi).2
      have e1 : xs.getD i Enc.dflt = xs[i] := by simp [List.getD_eq_getElem?_getD, hi]
      rw [e1] at hv
      have h2 := (cells_of h1).2 k v hv
      rw [← h2]
      have hpl : a.spot = none := hspot (by omega)
      obtain ⟨b, o, sp⟩ := a
      simp only at hpl
      subst hpl
      have hadd : ∀ q m, (⟨b, q, none⟩ : Addr).add m = ⟨b, q + m, none⟩ := fun q m => by
        unfold Addr.add; split
        · rename_i e; simp [e]
        · rfl
      rw [hadd, hadd]
      simp [eAddr, hs.out]
    · obtain ⟨i, hi, rfl⟩ := List.getElem_of_mem hx
      exact (hxs i hi).1
    · have h1 := hw _ (List.mem_cons_self ..)
      simp only [List.length_map, hbytes, reachBytes, hlen] at h1
      rw [hxl]
      have : len * bytes ≤ (len + rest.length) * bytes := Nat.mul_le_mul_right _ (by omega)
      omega⟩
/-- Fields, one behind the other. -/
class OpenFs (P : Program) (ts : List TypeId) (α : outParam Type) (en : outParam (Enc α)) (good : outParam (World → α → Prop)) : Prop where
  out : ∀ {H : Type} {enc : TypeId × Value → H} {w : World} {base : Nat} {spare : Nat → Bool} {held : Bool} {n : Nat} {css : List (List Value)} {xs : List (DataW H × List MemPlace)}, css.length = ts.length → xs.length = ts.length →
    (∀ i t, ts[i]? = some t → DataW.trod enc P w base spare held n t (css.getD i []) = xs[i]?) → (∀ m ∈ DataW.weightsEach P ts (xs.map (·.1)), m ≤ reachBytes) → ∃ y : α, Enc.cells y = css.flatten ∧ good w y
instance {P : Program} {t : TypeId} {α : Type} {en : Enc α} {good : World → α → Prop} [h : OpenT P t α en good] : OpenFs P [t] α en good := ⟨fun {H enc w base spare held n css xs} hl hx hr hw => by
  match css, hl, xs, hx with
  | [cs], _, [x], _ =>
    have h1 := hr 0 t rfl
    obtain ⟨y, hy, hg⟩ := h.out h1 fun m hm => hw m (by simp only [List.map_cons, List.map_nil, DataW.weightsEach]; exact List.mem_append_left _ hm)
    exact ⟨y, by simpa using hy, hg⟩⟩
def gPair {α β : Type} (g1 : World → α → Prop) (g2 : World → β → Prop) (w : World) (p : α × β) : Prop := g1 w p.1 ∧ g2 w p.2
instance {P : Program} {t u : TypeId} {ts : List TypeId} {α β : Type} {ea : Enc α} {eb : Enc β} {g1 : World → α → Prop} {g2 : World → β → Prop} [h1 : OpenT P t α ea g1] [h2 : OpenFs P (u :: ts) β eb g2] : OpenFs P (t :: u :: ts) (α × β) inferInstance (gPair g1 g2) := ⟨fun {H enc w base spare held n css xs} hl hx hr hw => by
  match css, hl, xs, hx with
  | cs :: css, hl, x :: xs, hx =>
    have h3 := hr 0 t rfl
    simp only [List.map_cons, DataW.weightsEach] at hw
    obtain ⟨y, hy, hg⟩ := h1.out h3 fun m hm => hw m (List.mem_append_left _ hm)
    obtain ⟨z, hz, hg2⟩ := h2.out (by simpa using hl) (by simpa using hx) (fun i t' ht' => by have := hr (i + 1) t' (by simpa using ht'); simpa using this) fun m hm => hw m (List.mem_append_right _ hm)
    exact ⟨(y, z), by show Enc.cells y ++ Enc.cells z = _; rw [hy, hz]; simp, hg, hg2⟩⟩
def fsB (P : Program) : Nat → List Field → List TypeId → Bool
  | _, [], [] => true
  | o, f :: fs, t :: ts => Nat.beq f.type t && Nat.beq f.offset o && fsB P (o + P.cellsOf t) fs ts
  | _, _, _ => false
def structB (P : Program) (t : TypeId) (ts : List TypeId) : Bool :=
  match P.underlying t with
  | some (.struct fs) => fsB P 0 fs.toList ts && Nat.beq (P.cellsOf t) (ts.map P.cellsOf).sum
  | _ => false
class StructT (P : Program) (t : TypeId) (ts : outParam (List TypeId)) : Prop where
  out : structB P t ts = true
theorem fs_parts {P : Program} : ∀ {fs : List Field} {ts : List TypeId} {o : Nat} {cs : List Value}, fsB P o fs ts = true → cs.length = o + (ts.map P.cellsOf).sum →
    fs.length = ts.length ∧ (∀ (i : Nat) (f : Field), fs[i]? = some f → ts[i]? = some f.type) ∧ (fs.map fun f => (cs.drop f.offset).take (P.cellsOf f.type)).flatten = cs.drop o
  | [], [], o, cs, _, hl => ⟨rfl, by simp, by simp only [List.map_nil, List.flatten_nil]; exact (List.drop_of_length_le (by simp at hl; omega)).symm⟩
  | f :: fs, t :: ts, o, cs, h, hl => by
    simp only [fsB, Bool.and_eq_true] at h
    obtain ⟨⟨h1, h2⟩, h3⟩ := h
    have e1 := Nat.eq_of_beq_eq_true h1
    have e2 := Nat.eq_of_beq_eq_true h2
    simp only [List.map_cons, List.sum_cons] at hl
    obtain ⟨h4, h5, h6⟩ := fs_parts (cs := cs) h3 (by omega)
    refine ⟨by simp [h4], fun i g hg => ?_, ?_⟩
    · cases i with
      | zero => simp at hg; subst hg; simp [e1]
      | succ i => simpa using h5 i g (by simpa using hg)
    · simp only [List.map_cons, List.flatten_cons, h6, e1, e2]
      rw [← List.drop_drop, List.take_append_drop]
  | [], _ :: _, _, _, h, _ => by simp [fsB] at h
  | _ :: _, [], _, _, h, _ => by simp [fsB] at h
instance {P : Program} {t : TypeId} {ts : List TypeId} {α : Type} {en : Enc α} {good : World → α → Prop} [ht : StructT P t ts] [h : OpenFs P ts α en good] : OpenT P t α en good := ⟨fun {H enc w base spare held fuel cs x} hr hw => by
  have hB := ht.out
  unfold structB at hB
  split at hB
  · rename_i fs e
    simp only [Bool.and_eq_true] at hB
    obtain ⟨xs, n, _, rfl, hl, hxl, hf⟩ := DataW.trod_struct e hr
    have hsum := Nat.eq_of_beq_eq_true hB.2
    obtain ⟨h1, h2, h3⟩ := fs_parts (cs := cs) hB.1 (by omega)
    have htys : fs.toList.map (·.type) = ts := by
      apply List.ext_getElem?
      intro i
      rw [List.getElem?_map]
      cases hq : fs.toList[i]? with
      | none => simp only [Option.map_none]; symm; rw [List.getElem?_eq_none_iff] at hq ⊢; omega
      | some f => rw [Option.map_some, h2 i f hq]
    obtain ⟨y, hy, hg⟩ := h.out (enc := enc) (w := w) (base := base) (spare := spare) (held := held) (n := n) (css := fs.toList.map fun f => (cs.drop f.offset).take (P.cellsOf f.type)) (xs := xs) (by simpa using h1) (by rw [hxl]; simpa using h1) (fun i u hu => by
        have hi : i < fs.size := by have := (List.getElem?_eq_some_iff.1 hu).1; simp at h1; omega
        have hf' := hf i fs[i] (Array.getElem?_eq_getElem hi)
        have hu' := h2 i fs[i] (by simp [hi])
        rw [hu] at hu'
        cases hu'
        rw [← hf', List.getD_eq_getElem?_getD, List.getElem?_map]
        simp [hi]) (fun m hm => hw m (by simp only [DataW.weights, e, htys]; exact hm))
    exact ⟨y, by rw [hy, h3]; simp, hg⟩
  · cases hB⟩
/-! ### Parameters -/
class OpenP (P : Program) (t : TypeId) (α : outParam Type) (val : outParam (α → Value)) (good : outParam (World → α → Prop)) : Prop where
  out : ∀ {H : Type} {enc : TypeId × Value → H} {w : World} {base : Nat} {spare : Nat → Bool} {held : Bool} {v : Value} {d : DataW H} {p : List MemPlace}, Value.okWide P w .any base t v → DataW.Trod enc P w 0 spare held t v d p →
    (∀ n ∈ d.weights P t, n ≤ reachBytes) → ∃ y : α, v = val y ∧ good w y
theorem OpenT.use {P : Program} {t : TypeId} {α : Type} {en : Enc α} {good : World → α → Prop} (h : OpenT P t α en good) {H : Type} {enc : TypeId × Value → H} {w : World} {spare : Nat → Bool} {held : Bool} {v : Value} {d : DataW H} {p : List MemPlace}
    (hd : DataW.Trod enc P w 0 spare held t v d p) (hw : ∀ n ∈ d.weights P t, n ≤ reachBytes) : ∃ y : α, Enc.cells y = v.cells.toList ∧ good w y := by
  obtain ⟨fuel, hf⟩ := hd
  exact h.out hf hw
instance {P : Program} {t e : TypeId} {good : World → SV → Prop} [ht : Und P t (.slice e)] [h : OpenT P t SV inferInstance good] : OpenP P t SV (fun s => .slice s.a s.n s.cap) good := ⟨fun {H enc w base spare held v d p} hv hd hw => by
  obtain ⟨a, len, cap, rfl⟩ := okWide_slice ht.out hv
  obtain ⟨y, hy, hg⟩ := h.use hd hw
  refine ⟨y, ?_, hg⟩
  have : [Value.slice y.a y.n y.cap] = [Value.slice a len cap] := hy
  exact ((List.cons.inj this).1).symm⟩
instance {P : Program} {t : TypeId} [ht : Und P t (.int .i64)] : OpenP P t Int (fun x => .int .i64 x) gInt := ⟨fun {H enc w base spare held v d p} hv hd hw => by
  obtain ⟨a, rfl, rfl, rfl, hwf⟩ := open_int ht.out hv hd
  refine ⟨a, rfl, ?_⟩
  simp [Lit.wf, IntKind.min, IntKind.max, IntKind.bits, IntKind.signed] at hwf
  unfold gInt; omega⟩
instance (priority := 900) {P : Program} {t : TypeId} {k : IntKind} [ht : Und P t (.int k)] : OpenP P t (KInt k) (fun x => .int k x) (gKInt k) := ⟨fun {H enc w base spare held v d p} hv hd hw => by
  obtain ⟨a, rfl, rfl, rfl, hwf⟩ := open_int ht.out hv hd
  exact ⟨a, rfl, hwf⟩⟩
instance {P : Program} {t : TypeId} [ht : Und P t .bool] : OpenP P t Bool (fun x => .bool x) gAny := ⟨fun {H enc w base spare held v d p} hv hd hw => by
  obtain ⟨a, rfl, rfl, rfl⟩ := open_bool ht.out hv hd
  exact ⟨a, rfl, trivial⟩⟩
instance {P : Program} {t : TypeId} [ht : Und P t .string] : OpenP P t ByteArray (fun x => .string x) gStr := ⟨fun {H enc w base spare held v d p} hv hd hw => by
  obtain ⟨s, rfl, rfl, rfl, _⟩ := Go.ChangeMaps.open_string ht.out hv hd
  refine ⟨s, rfl, ?_⟩
  have := hw s.data.toList.length (by simp [DataW.weights])
  simpa [reachBytes, gStr] using this⟩
instance {P : Program} {t : TypeId} {ts : List TypeId} {α : Type} {en : Enc α} {good : World → α → Prop} [hs : StructT P t ts] [h : OpenT P t α en good] : OpenP P t α (fun x => .agg (Enc.cells x).toArray) good := ⟨fun {H enc w base spare held v d p} hv hd hw => by
  obtain ⟨y, hy, hg⟩ := h.use hd hw
  refine ⟨y, ?_, hg⟩
  have hB := hs.out
  unfold structB at hB
  split at hB
  · rename_i fs e
    unfold Value.okWide at hv
    rw [e] at hv
    obtain ⟨cs, rfl, _⟩ := hv
    rw [hy]; rfl
  · cases hB⟩
/-! ### The memory at the start -/
/-- All blocks. -/
def allB (w : World) : Foot := (List.range w.heap.size).filterMap fun b => (w.heap[b]?).map fun o => (b, o)
theorem mem_allB {w : World} {b : Nat} {o : Obj} : (b, o) ∈ allB w ↔ w.heap[b]? = some o := by
  simp only [allB, List.mem_filterMap, List.mem_range, Option.map_eq_some_iff, Prod.mk.injEq]
  constructor
  · rintro ⟨a, _, o', h, rfl, rfl⟩; exact h
  · intro h; exact ⟨b, (Array.getElem?_eq_some_iff.1 h).1, o, h, rfl, rfl⟩
theorem SL.all (w : World) : SL w (allB w) [] w := SL.start fun b o h => mem_allB.1 h
theorem SlI.all {w : World} {s : SV} {α : Type} [e : Enc α] {xs : List α} (h : RdW w s xs) : SlI (allB w) s α e xs := ⟨fun u hu => ⟨h.len, h.cap, h.plain, fun i k v hi hv => by
  have := h.cells i k v hi hv
  unfold World.cell? at this ⊢
  split at this
  · rename_i c _ _ hb
    rw [hu _ _ (mem_allB.2 hb)]
    exact this
  · cases this⟩⟩
theorem Calls.below {P : Program} {f : FuncId} {args : Array Value} {w : World} {I : Foot} {L : List HP} (h : Tr P f args (SL w (allB w) []) (fun _ : Unit => .bool true) (fun _ => SL w I L)) : Calls P f args w fun e w' => e = .returned (.bool true) ∧ Below w.heap.size w w' :=
  (h w (SL.all w)).mono fun e w' ⟨_, he, hs⟩ => ⟨he, hs.below⟩
end Go.Fw
