/- Texts that ArpaPrints_law leans on, part 5. Conditions: none. -/
import Derived.SliceStrings
import Derived.SizedLaws
import Derived.ChangeArms
import Derived.Laws.IdiomStrings
import Derived.RangeFuncIn
import Derived.Test.YthkhneimfjaohaaGreatDoorProg
import Derived.Test.YthkhneimfjaohaaGreatDoorQp4
namespace Go.Fw
open Go Go.RowKit Go.ChangeShapes Go.WideShapes
set_option linter.unusedVariables false
set_option linter.unusedSimpArgs false
class OpenT (P : Program) (t : TypeId) (α : outParam Type) (en : outParam (Enc α)) (good : outParam (World → α → Prop)) : Prop where
  out : ∀ {H : Type} {enc : TypeId × Value → H} {w : World} {base : Nat} {spare : Nat → Bool} {held : Bool} {fuel : Nat} {cs : List Value} {x : DataW H × List MemPlace}, DataW.trod enc P w base spare held fuel t cs = some x →
    (∀ n ∈ x.1.weights P t, n ≤ reachBytes) → ∃ y : α, Enc.cells y = cs ∧ good w y
def gInt (_ : World) (y : Int) : Prop := -9223372036854775808 ≤ y ∧ y ≤ 9223372036854775807
instance {P : Program} {t : TypeId} [ht : Und P t (.int .i64)] : OpenT P t Int inferInstance gInt := ⟨fun {H enc w base spare held fuel cs x} h _ => by
  obtain ⟨n, rfl, rfl, hw⟩ := DataW.trod_int ht.out h
  refine ⟨n, rfl, ?_⟩
  simp [Lit.wf, IntKind.min, IntKind.max, IntKind.bits, IntKind.signed] at hw
  unfold gInt; omega⟩
def gKInt (k : IntKind) (_ : World) (y : KInt k) : Prop := (Lit.int k y).wf = true
instance (priority := 900) {P : Program} {t : TypeId} {k : IntKind} [ht : Und P t (.int k)] : OpenT P t (KInt k) inferInstance (gKInt k) := ⟨fun {H enc w base spare held fuel cs x} h _ => by
  obtain ⟨n, rfl, rfl, hw⟩ := DataW.trod_int ht.out h
  exact ⟨n, rfl, hw⟩⟩
def gAny {α : Type} (_ : World) (_ : α) : Prop := True
instance {P : Program} {t : TypeId} [ht : Und P t .bool] : OpenT P t Bool inferInstance gAny := ⟨fun {H enc w base spare held fuel cs x} h _ => by
  obtain ⟨b, rfl, rfl⟩ := DataW.trod_bool ht.out h
  exact ⟨b, rfl, trivial⟩⟩
def gStr (_ : World) (s : ByteArray) : Prop := s.size ≤ 140737488351232
instance {P : Program} {t : TypeId} [ht : Und P t .string] : OpenT P t ByteArray inferInstance gStr := ⟨fun {H enc w base spare held fuel cs x} h hw => by
  obtain ⟨s, rfl, rfl, _⟩ := DataW.trod_string ht.out h
  refine ⟨s, rfl, ?_⟩
  have := hw s.data.toList.length (by simp [DataW.weights])
  simpa [reachBytes, gStr] using this⟩
theorem cells_of {w : World} {base : Nat} {a : Addr} {n : Nat} {cs : List Value} (h : w.cells? base a n = some cs) : cs.length = n ∧ ∀ i v, cs[i]? = some v → w.cell? (a.add i) = some v := by
  unfold World.cells? at h
  split at h
  · have hl : cs.length = n := by simpa using mapM_some_length h
    refine ⟨hl, fun i v hv => ?_⟩
    have hi : i < n := by have := (List.getElem?_eq_some_iff.1 hv).1; omega
    have := mapM_some_get h i i (by simp [hi])
    rw [this, hv]
  · cases h
def gSl {β : Type} [Enc β] (good : World → β → Prop) (bytes : Nat) (w : World) (s : SV) : Prop := ∃ xs : List β, RdW w s xs ∧ (∀ x ∈ xs, good w x) ∧ xs.length * bytes ≤ 140737488351232
theorem weightsAll_mem {H : Type} {P : Program} {e : TypeId} : ∀ {ds : List (DataW H)} {d : DataW H}, d ∈ ds → ∀ n ∈ d.weights P e, n ∈ DataW.weightsAll P e ds
  | [], d, h, _, _ => by cases h
  | a :: ds, d, h, n, hn => by
    simp only [DataW.weightsAll, List.mem_append]
    rcases List.mem_cons.1 h with rfl | h
    · exact .inl hn
    · exact .inr (weightsAll_mem h n hn)
theorem ex_list {β : Type} {n : Nat} {p : Nat → β → Prop} (h : ∀ i, i < n → ∃ y, p i y) : ∃ l : List β, l.length = n ∧ ∀ i (hi : i < l.length), p i l[i] := by
  induction n with
  | zero => exact ⟨[], rfl, fun i hi => by simp at hi⟩
  | succ n ih =>
    obtain ⟨l, hl, hp⟩ := ih fun i hi => h i (by omega)
    obtain ⟨y, hy⟩ := h n (by omega)
    refine ⟨l ++ [y], by simp [hl], fun i hi => ?_⟩
    rw [List.getElem_append]
    split
    · exact hp i (by assumption)
    · simp at hi; have : i = n := by omega
      subst this; simpa using hy
instance {P : Program} {t e : TypeId} {β : Type} {en : Enc β} {good : World → β → Prop} {z : List Value} {sz bytes : Nat} [ht : Und P t (.slice e)] [he : OpenT P e β en good] [hz : Inf P e z sz bytes] [hs : SzIs β sz] : OpenT P t SV inferInstance (gSl good bytes) := ⟨fun {H enc w base spare held fuel cs x} h hw => by
  have hc : P.cellsOf e = sz := by obtain ⟨i, h1, h2⟩ := Option.map_eq_some_iff.1 hz.size; simp [Program.cellsOf, h1, h2]
  have hbytes : P.bytesOf e = bytes := by obtain ⟨i, h1, h2⟩ := Option.map_eq_some_iff.1 hz.out; simp only [Prod.mk.injEq] at h2; simp [Program.bytesOf, h1, h2.2.2]
  rcases DataW.trod_slice ht.out h with ⟨rfl, rfl⟩ | ⟨a, len, cap, elems, rest, n, _, rfl, rfl, hb, hl, hm, hlen, hel, hsp, hns⟩
  · exact ⟨SV.nil, rfl, [], ⟨rfl, Nat.le_refl _, .inl rfl, fun i k v hi => by simp at hi⟩, by simp, by simp⟩
  · simp only [DataW.weights, ht.out] at hw
    have each : ∀ i, i < len → ∃ y : β, good w y ∧ w.cells? base (a.add (i * sz)) sz = some (Enc.cells y) := by
      intro i hi
      have h1 := hel i hi
      have hil : i < elems.length := by omega
      rw [List.getElem?_eq_getElem hil, hc, Option.bind_eq_some_iff] at h1
      obtain ⟨cs', h2, h3⟩ := h1
      obtain ⟨y, hy, hg⟩ := he.out h3 fun m hm' => hw m (List.mem_cons_of_mem _ (List.mem_append_left _ (weightsAll_mem (List.mem_map.2 ⟨_, List.getElem_mem hil, rfl⟩) m hm')))
      exact ⟨y, hg, by rw [hy]; exact h2⟩
    obtain ⟨xs, hxl, hxs⟩ := ex_list each
    have hspot : 0 < len → a.spot = none := by
      intro h0
      have h1 := (hxs 0 (by omega)).2
      have hpos := Enc.pos (α := β)
      have hcl : 0 < (Enc.cells (xs[0]'(by omega))).length := by rw [Enc.len]; exact hpos
      have h2 := (cells_of h1).2 0 _ (List.getElem?_eq_getElem hcl)
      rw [Nat.zero_mul] at h2
      have e0 : (a.add 0).add 0 = a := by simp [Addr.add]
      rw [e0] at h2
      unfold World.cell? at h2
      split at h2
      · cases hq : a.spot with
        | none => rfl
        | some q => rw [hq] at h2; simp at h2
      · cases h2
    refine ⟨⟨some a, len, cap⟩, rfl, xs, ⟨hxl.symm, hl, ?_, fun i k v hi hv => ?_⟩, fun x hx => ?_, ?_⟩
    · rcases Nat.eq_zero_or_pos len with h0 | h0
      · exact .inl h0
      · right
        have := hspot h0
        obtain ⟨b, o, sp⟩ := a
        simp only at this
        subst this
        exact ⟨b, o, rfl⟩
    · have hi' : i < len := by omega
      have h1 := (hxs i hi).2
      have e1 : xs.getD i Enc.dflt = xs[i] := by simp [List.getD_eq_getElem?_getD, hi]
      rw [e1] at hv
      have h2 := (cells_of h1).2 k v hv
      rw [← h2]
      have hpl : a.spot = none := hspot (by omega)
      obtain ⟨b, o, sp⟩ := a
      simp only at hpl
      subst hpl
      have hadd : ∀ q m, (⟨b, q, none⟩ : Addr).add m = ⟨b, q + m, none⟩ := fun q m => by
        unfold Addr.add; split
        · rename_i e; simp [e]
        · rfl
      rw [hadd, hadd]
      simp [eAddr, hs.out]
    · obtain ⟨i, hi, rfl⟩ := List.getElem_of_mem hx
      exact (hxs i hi).1
    · have h1 := hw _ (List.mem_cons_self ..)
      simp only [List.length_map, hbytes, reachBytes, hlen] at h1
      rw [hxl]
      have : len * bytes ≤ (len + rest.length) * bytes := Nat.mul_le_mul_right _ (by omega)
      omega⟩
class OpenFs (P : Program) (ts : List TypeId) (α : outParam Type) (en : outParam (Enc α)) (good : outParam (World → α → Prop)) : Prop where
  out : ∀ {H : Type} {enc : TypeId × Value → H} {w : World} {base : Nat} {spare : Nat → Bool} {held : Bool} {n : Nat} {css : List (List Value)} {xs : List (DataW H × List MemPlace)}, css.length = ts.length → xs.length = ts.length →
    (∀ i t, ts[i]? = some t → DataW.trod enc P w base spare held n t (css.getD i []) = xs[i]?) → (∀ m ∈ DataW.weightsEach P ts (xs.map (·.1)), m ≤ reachBytes) → ∃ y : α, Enc.cells y = css.flatten ∧ good w y
instance {P : Program} {t : TypeId} {α : Type} {en : Enc α} {good : World → α → Prop} [h : OpenT P t α en good] : OpenFs P [t] α en good := ⟨fun {H enc w base spare held n css xs} hl hx hr hw => by
  match css, hl, xs, hx with
  | [cs], _, [x], _ =>
    have h1 := hr 0 t rfl
    obtain ⟨y, hy, hg⟩ := h.out h1 fun m hm => hw m (by simp only [List.map_cons, List.map_nil, DataW.weightsEach]; exact List.mem_append_left _ hm)
    exact ⟨y, by simpa using hy, hg⟩⟩
def gPair {α β : Type} (g1 : World → α → Prop) (g2 : World → β → Prop) (w : World) (p : α × β) : Prop := g1 w p.1 ∧ g2 w p.2
instance {P : Program} {t u : TypeId} {ts : List TypeId} {α β : Type} {ea : Enc α} {eb : Enc β} {g1 : World → α → Prop} {g2 : World → β → Prop} [h1 : OpenT P t α ea g1] [h2 : OpenFs P (u :: ts) β eb g2] : OpenFs P (t :: u :: ts) (α × β) inferInstance (gPair g1 g2) := ⟨fun {H enc w base spare held n css xs} hl hx hr hw => by
  match css, hl, xs, hx with
  | cs :: css, hl, x :: xs, hx =>
    have h3 := hr 0 t rfl
    simp only [List.map_cons, DataW.weightsEach] at hw
    obtain ⟨y, hy, hg⟩ := h1.out h3 fun m hm => hw m (List.mem_append_left _ hm)
    obtain ⟨z, hz, hg2⟩ := h2.out (by simpa using hl) (by simpa using hx) (fun i t' ht' => by have := hr (i + 1) t' (by simpa using ht'); simpa using this) fun m hm => hw m (List.mem_append_right _ hm)
    exact ⟨(y, z), by show Enc.cells y ++ Enc.cells z = _; rw [hy, hz]; simp, hg, hg2⟩⟩
def fsB (P : Program) : Nat → List Field → List TypeId → Bool
  | _, [], [] => true
  | o, f :: fs, t :: ts => Nat.beq f.type t && Nat.beq f.offset o && fsB P (o + P.cellsOf t) fs ts
  | _, _, _ => false
def structB (P : Program) (t : TypeId) (ts : List TypeId) : Bool :=
  match P.underlying t with
  | some (.struct fs) => fsB P 0 fs.toList ts && Nat.beq (P.cellsOf t) (ts.map P.cellsOf).sum
  | _ => false
class StructT (P : Program) (t : TypeId) (ts : outParam (List TypeId)) : Prop where
  out : structB P t ts = true
theorem fs_parts {P : Program} : ∀ {fs : List Field} {ts : List TypeId} {o : Nat} {cs : List Value}, fsB P o fs ts = true → cs.length = o + (ts.map P.cellsOf).sum →
    fs.length = ts.length ∧ (∀ (i : Nat) (f : Field), fs[i]? = some f → ts[i]? = some f.type) ∧ (fs.map fun f => (cs.drop f.offset).take (P.cellsOf f.type)).flatten = cs.drop o
  | [], [], o, cs, _, hl => ⟨rfl, by simp, by simp only [List.map_nil, List.flatten_nil]; exact (List.drop_of_length_le (by simp at hl; omega)).symm⟩
  | f :: fs, t :: ts, o, cs, h, hl => by
    simp only [fsB, Bool.and_eq_true] at h
    obtain ⟨⟨h1, h2⟩, h3⟩ := h
    have e1 := Nat.eq_of_beq_eq_true h1
    have e2 := Nat.eq_of_beq_eq_true h2
    simp only [List.map_cons, List.sum_cons] at hl
    obtain ⟨h4, h5, h6⟩ := fs_parts (cs := cs) h3 (by omega)
    refine ⟨by simp [h4], fun i g hg => ?_, ?_⟩
    · cases i with
      | zero => simp at hg; subst hg; simp [e1]
      | succ i => simpa using h5 i g (by simpa using hg)
    · simp only [List.map_cons, List.flatten_cons, h6, e1, e2]
      rw [← List.drop_drop, List.take_append_drop]
  | [], _ :: _, _, _, h, _ => by simp [fsB] at h
  | _ :: _, [], _, _, h, _ => by simp [fsB] at h
instance {P : Program} {t : TypeId} {ts : List TypeId} {α : Type} {en : Enc α} {good : World → α → Prop} [ht : StructT P t ts] [h : OpenFs P ts α en good] : OpenT P t α en good := ⟨fun {H enc w base spare held fuel cs x} hr hw => by
  have hB := ht.out
  unfold structB at hB
  split at hB
  · rename_i fs e
    simp only [Bool.and_eq_true] at hB
    obtain ⟨xs, n, _, rfl, hl, hxl, hf⟩ := DataW.trod_struct e hr
    have hsum := Nat.eq_of_beq_eq_true hB.2
    obtain ⟨h1, h2, h3⟩ := fs_parts (cs := cs) hB.1 (by omega)
    have htys : fs.toList.map (·.type) = ts := by
      apply List.ext_getElem?
      intro i
      rw [List.getElem?_map]
      cases hq : fs.toList[i]? with
      | none => simp only [Option.map_none]; symm; rw [List.getElem?_eq_none_iff] at hq ⊢; omega
      | some f => rw [Option.map_some, h2 i f hq]
    obtain ⟨y, hy, hg⟩ := h.out (enc := enc) (w := w) (base := base) (spare := spare) (held := held) (n := n) (css := fs.toList.map fun f => (cs.drop f.offset).take (P.cellsOf f.type)) (xs := xs) (by simpa using h1) (by rw [hxl]; simpa using h1) (fun i u hu => by
        have hi : i < fs.size := by have := (List.getElem?_eq_some_iff.1 hu).1; simp at h1; omega
        have hf' := hf i fs[i] (Array.getElem?_eq_getElem hi)
        have hu' := h2 i fs[i] (by simp [hi])
        rw [hu] at hu'
        cases hu'
        rw [← hf', List.getD_eq_getElem?_getD, List.getElem?_map]
        simp [hi]) (fun m hm => hw m (by simp only [DataW.weights, e, htys]; exact hm))
    exact ⟨y, by rw [hy, h3]; simp, hg⟩
  · cases hB⟩
class OpenP (P : Program) (t : TypeId) (α : outParam Type) (val : outParam (α → Value)) (good : outParam (World → α → Prop)) : Prop where
  out : ∀ {H : Type} {enc : TypeId × Value → H} {w : World} {base : Nat} {spare : Nat → Bool} {held : Bool} {v : Value} {d : DataW H} {p : List MemPlace}, Value.okWide P w .any base t v → DataW.Trod enc P w 0 spare held t v d p →
    (∀ n ∈ d.weights P t, n ≤ reachBytes) → ∃ y : α, v = val y ∧ good w y
theorem OpenT.use {P : Program} {t : TypeId} {α : Type} {en : Enc α} {good : World → α → Prop} (h : OpenT P t α en good) {H : Type} {enc : TypeId × Value → H} {w : World} {spare : Nat → Bool} {held : Bool} {v : Value} {d : DataW H} {p : List MemPlace}
    (hd : DataW.Trod enc P w 0 spare held t v d p) (hw : ∀ n ∈ d.weights P t, n ≤ reachBytes) : ∃ y : α, Enc.cells y = v.cells.toList ∧ good w y := by
  obtain ⟨fuel, hf⟩ := hd
  exact h.out hf hw
instance {P : Program} {t e : TypeId} {good : World → SV → Prop} [ht : Und P t (.slice e)] [h : OpenT P t SV inferInstance good] : OpenP P t SV (fun s => .slice s.a s.n s.cap) good := ⟨fun {H enc w base spare held v d p} hv hd hw => by
  obtain ⟨a, len, cap, rfl⟩ := okWide_slice ht.out hv
  obtain ⟨y, hy, hg⟩ := h.use hd hw
  refine ⟨y, ?_, hg⟩
  have : [Value.slice y.a y.n y.cap] = [Value.slice a len cap] := hy
  exact ((List.cons.inj this).1).symm⟩
instance {P : Program} {t : TypeId} [ht : Und P t (.int .i64)] : OpenP P t Int (fun x => .int .i64 x) gInt := ⟨fun {H enc w base spare held v d p} hv hd hw => by
  obtain ⟨a, rfl, rfl, rfl, hwf⟩ := open_int ht.out hv hd
  refine ⟨a, rfl, ?_⟩
  simp [Lit.wf, IntKind.min, IntKind.max, IntKind.bits, IntKind.signed] at hwf
  unfold gInt; omega⟩
instance (priority := 900) {P : Program} {t : TypeId} {k : IntKind} [ht : Und P t (.int k)] : OpenP P t (KInt k) (fun x => .int k x) (gKInt k) := ⟨fun {H enc w base spare held v d p} hv hd hw => by
  obtain ⟨a, rfl, rfl, rfl, hwf⟩ := open_int ht.out hv hd
  exact ⟨a, rfl, hwf⟩⟩
instance {P : Program} {t : TypeId} [ht : Und P t .bool] : OpenP P t Bool (fun x => .bool x) gAny := ⟨fun {H enc w base spare held v d p} hv hd hw => by
  obtain ⟨a, rfl, rfl, rfl⟩ := open_bool ht.out hv hd
  exact ⟨a, rfl, trivial⟩⟩
instance {P : Program} {t : TypeId} [ht : Und P t .string] : OpenP P t ByteArray (fun x => .string x) gStr := ⟨fun {H enc w base spare held v d p} hv hd hw => by
  obtain ⟨s, rfl, rfl, rfl, _⟩ := Go.ChangeMaps.open_string ht.out hv hd
  refine ⟨s, rfl, ?_⟩
  have := hw s.data.toList.length (by simp [DataW.weights])
  simpa [reachBytes, gStr] using this⟩
instance {P : Program} {t : TypeId} {ts : List TypeId} {α : Type} {en : Enc α} {good : World → α → Prop} [hs : StructT P t ts] [h : OpenT P t α en good] : OpenP P t α (fun x => .agg (Enc.cells x).toArray) good := ⟨fun {H enc w base spare held v d p} hv hd hw => by
  obtain ⟨y, hy, hg⟩ := h.use hd hw
  refine ⟨y, ?_, hg⟩
  have hB := hs.out
  unfold structB at hB
  split at hB
  · rename_i fs e
    unfold Value.okWide at hv
    rw [e] at hv
    obtain ⟨cs, rfl, _⟩ := hv
    rw [hy]; rfl
  · cases hB⟩
def allB (w : World) : Foot := (List.range w.heap.size).filterMap fun b => (w.heap[b]?).map fun o => (b, o)
theorem mem_allB {w : World} {b : Nat} {o : Obj} : (b, o) ∈ allB w ↔ w.heap[b]? = some o := by
  simp only [allB, List.mem_filterMap, List.mem_range, Option.map_eq_some_iff, Prod.mk.injEq]
  constructor
  · rintro ⟨a, _, o', h, rfl, rfl⟩; exact h
  · intro h; exact ⟨b, (Array.getElem?_eq_some_iff.1 h).1, o, h, rfl, rfl⟩
theorem SL.all (w : World) : SL w (allB w) [] w := SL.start fun b o h => mem_allB.1 h
theorem SlI.all {w : World} {s : SV} {α : Type} [e : Enc α] {xs : List α} (h : RdW w s xs) : SlI (allB w) s α e xs := ⟨fun u hu => ⟨h.len, h.cap, h.plain, fun i k v hi hv => by
  have := h.cells i k v hi hv
  unfold World.cell? at this ⊢
  split at this
  · rename_i c _ _ hb
    rw [hu _ _ (mem_allB.2 hb)]
    exact this
  · cases this⟩⟩
theorem Calls.below {P : Program} {f : FuncId} {args : Array Value} {w : World} {I : Foot} {L : List HP} (h : Tr P f args (SL w (allB w) []) (fun _ : Unit => .bool true) (fun _ => SL w I L)) : Calls P f args w fun e w' => e = .returned (.bool true) ∧ Below w.heap.size w w' :=
  (h w (SL.all w)).mono fun e w' ⟨_, he, hs⟩ => ⟨he, hs.below⟩
end Go.Fw
namespace Go.Fw
open Go Go.RowKit
set_option linter.unusedVariables false
set_option linter.unusedSimpArgs false
def kb (b : UInt8) : KInt .u8 := (b.toNat : Int)
theorem kb_cells (b : UInt8) : Enc.cells (kb b) = [.int .u8 b.toNat] := rfl
def bytesK (t : ByteArray) : List (KInt .u8) := t.data.toList.map kb
theorem bytesK_len (t : ByteArray) : (bytesK t).length = t.size := (List.length_map _).trans Array.length_toList
class IsBytes (xs : List (KInt .u8)) (t : outParam ByteArray) : Prop where
  out : xs = bytesK t
instance {t : ByteArray} : IsBytes (bytesK t) t := ⟨rfl⟩
theorem flat_bytes : ∀ l : List UInt8, flat (l.map kb) = l.map fun b => Value.int .u8 (b.toNat : Int)
  | [] => rfl
  | b :: l => by
    have := flat_bytes l
    unfold flat at this ⊢
    rw [List.map_cons, List.flatMap_cons, this, List.map_cons, kb_cells]; rfl
theorem flat_bytesK (t : ByteArray) : flat (bytesK t) = t.data.toList.map fun b => Value.int .u8 (b.toNat : Int) := flat_bytes _
def OwnC (e : TypeId) (sz : Nat) (s : SV) : HP := fun R => s.n ≤ s.cap ∧ ∃ xs, OwnR e sz (.slice s.a s.n s.cap) s.n xs R
section
variable {P : Program} {ρ : Env} {A : World → Prop} {ty : TypeId} {w0 : World} {I : Foot} {L L' : List HP}
theorem own_c {α : Type} [Enc α] {e : TypeId} {s : SV} {xs : List α} {R : Foot} (h : OwnS e s xs R) : s.n = xs.length ∧ OwnC e (Enc.sz α) s R := by
  refine ⟨OwnR.len h, ?_, _, h⟩
  rcases h.2 with ⟨h1, h2, h3⟩ | ⟨g, cap, cur, h1, h2, h3, h4, h5, h6⟩
  · cases s; cases h1; exact Nat.le_refl _
  · cases s; cases h1; exact h2
theorem Ent.ownC {α : Type} [Enc α] {e : TypeId} {s : SV} {xs : List α} : Ent (OwnS e s xs :: L) (OwnC e (Enc.sz α) s :: L) := Ent.of fun R h => (own_c h).2
class FindC (L : List HP) (s : SV) (e : outParam TypeId) (sz : outParam Nat) (L' : outParam (List HP)) : Prop where
  out : Ent L (OwnC e sz s :: L')
instance {s : SV} {e : TypeId} {sz : Nat} : FindC (OwnC e sz s :: L) s e sz L := ⟨Ent.refl⟩
instance (priority := 900) {p : HP} {s : SV} {e : TypeId} {sz : Nat} [h : FindC L s e sz L'] : FindC (p :: L) s e sz (p :: L') := ⟨(Ent.cons h.out).trans Ent.swap⟩
instance (priority := 800) {s : SV} {e : TypeId} {α : Type} {en : Enc α} {xs : List α} {sz : Nat} [h : FindOwn L s e α en xs L'] [hs : SzIs α sz] : FindC L s e sz L' := ⟨by
  have := h.out.trans (Ent.ownC (α := α))
  rw [hs.out] at this; exact this⟩
instance {x : Operand} {t t' e : TypeId} {s : SV} {xs : List (KInt .u8)} {b : ByteArray} [hx : Ev ρ x (.slice s.a s.n s.cap)] [ht : Und P t (.slice e)] [he : Und P e (.int .u8)] [hd : Und P t' .string] [hA : InSL A w0 I L] [hr : RdS I L s (KInt .u8) inferInstance xs] [hb : IsBytes xs b] :
    OpM P ρ A (.convert t t' x) ty (.string b) True := ⟨fun _ => OpP.at fun w hw => by
  have h := hr.out w0 w (hA.out w hw)
  have hn := h.len
  have hbn : xs.length = b.data.toList.length := by rw [hb.out, bytesK_len]; exact Array.length_toList.symm
  intro d pos af g w' hw'
  subst hw'
  have key : (convert t t' (.slice s.a s.n s.cap)).run P w' = .ok (.string b) w' := by
    cases hsa : s.a with
    | none =>
      have hz : s.n = 0 := by
        rcases h.plain with h0 | ⟨b', o, ha⟩
        · omega
        · rw [hsa] at ha; cases ha
      have hb0 : b = ⟨#[]⟩ := by
        have h0 : b.data.toList.length = 0 := by omega
        cases b with
        | mk d => cases d with
          | mk l => cases l with
            | nil => rfl
            | cons x l => simp at h0
      subst hb0
      rw [run_convert_bytes_string w' t t' e none s.n s.cap ht.out he.out hd.out]
      simp [Conv.bytesToString, go_sem]
      rfl
    | some a =>
      have e1 : s.n = b.data.toList.length := by omega
      rw [e1, run_convert_bytes_back w' t t' e a s.cap b.data.toList ht.out he.out hd.out]
      · intro j hj
        have hjx : j < xs.length := by omega
        have hc := h.cells j 0 (.int .u8 (b.data.toList[j].toNat : Int)) hjx (by
          have : xs.getD j Enc.dflt = kb b.data.toList[j] := by
            rw [hb.out]; unfold bytesK
            rw [List.getD_eq_getElem?_getD, List.getElem?_map, List.getElem?_eq_getElem hj]; rfl
          rw [this, kb_cells]; rfl)
        rcases h.plain with h0 | ⟨b', o, ha⟩
        · omega
        · rw [hsa] at ha; cases ha
          simp only [eAddr, hsa, Option.getD_some] at hc
          have ea : (⟨b', o, none⟩ : Addr).add j = ⟨b', o + (j : Int).toNat * Enc.sz (KInt .u8) + 0, none⟩ := by
            have hs : Enc.sz (KInt .u8) = 1 := rfl
            rw [hs]; unfold Addr.add; split <;> simp_all
          rw [ea]; exact hc
  simp only [execOp, hx.out, Sem.run_bind, key, Result.andThen_ok, Sem.run_pure]⟩
theorem OwnC.back {e : TypeId} {sz : Nat} {v : Value} {s : SV} {xs : List Value} {R : Foot} (hv : v = .slice s.a s.n s.cap) (hc : s.n ≤ s.cap) (h : OwnR e sz v s.n xs R) : OwnC e sz s R := ⟨hc, xs, hv ▸ h⟩
theorem T_clearC {x : Operand} {t e : TypeId} {z : Value} {sz bytes : Nat} {s : SV} [hx : Ev ρ x (.slice s.a s.n s.cap)] [ht : Und P t (.slice e)] (hi : (P.info? e).map (fun i => (i.zero, i.size, i.bytes)) = some (some z, sz, bytes)) (hzs : z.cells.size = sz) (hz1 : ∀ u ∈ (Builtin.zeroCells z.cells 1).toList, u.oneCell' = true) (hz2 : ∀ n, ∀ u ∈ (Builtin.zeroCells z.cells n).toList, u.oneCell' = true)
    [hA : InSL A w0 I L] [hc : FindC L s e sz L'] : OpT P ρ (.call { callee := .builtin .clear, args := #[x], argTypes := #[t] }) ty A fun v w => ∃ u : Unit, v = .tuple #[] ∧ SL w0 I (OwnC e sz s :: L') w := OpT.sl (val := fun _ : Unit => .tuple #[]) (B := fun _ => SL w0 I (OwnC e sz s :: L')) fun w hw d pos af g => by
  obtain ⟨H, R, Rs, h1, ⟨h2, xs, hr⟩, h3, h4⟩ := (hc.out.sl hw).uncons
  refine (T_clearR (P := P) (ρ := ρ) (ty := ty) ht.out hi hzs hz1 hz2 hr hx.out d pos af g w h4).mono fun v w' ⟨q, hv, ho, hs⟩ => ⟨(), hv, SL.cons h1 (R := q.2) ⟨h2, q.1, ho⟩ h3 hs⟩
section
variable {ro : Option Nat} {n : Nat} {Q : Hnd} {ops : Array Oper} {rest : List Oper} {pos : String} {af : Array Edge} {g : Option (Nat × Bool)} {d : Tmp}
theorem WLA.clear {x : Operand} {t e : TypeId} {z : Value} {sz bytes : Nat} {s : SV} [hx : Ev ρ x (.slice s.a s.n s.cap)] [ht : Und P t (.slice e)] (hi : (P.info? e).map (fun i => (i.zero, i.size, i.bytes)) = some (some z, sz, bytes)) (hzs : z.cells.size = sz) (hz1 : ∀ u ∈ (Builtin.zeroCells z.cells 1).toList, u.oneCell' = true) (hz2 : ∀ n, ∀ u ∈ (Builtin.zeroCells z.cells n).toList, u.oneCell' = true)
    [hA : InSL A w0 I L] [hc : FindC L s e sz L'] (hw : Region.wanted ⟨none, .call { callee := .builtin .clear, args := #[x], argTypes := #[t] }, ty, pos, af, g⟩ (yieldedE n ops ρ) = true) (k : WLA ro P n ops Q rest ρ (SL w0 I (OwnC e sz s :: L'))) :
    WLA ro P n ops Q (⟨none, .call { callee := .builtin .clear, args := #[x], argTypes := #[t] }, ty, pos, af, g⟩ :: rest) ρ A :=
  WLA.e0 hw (T_clearC hi hzs hz1 hz2) (fun u => k)
end
section
variable {ro : Option Nat} {n : Nat} {Q : Hnd} {c : Operand} {x y : Code} {b : Bool} {ops : Array Oper} {rest : List Oper} {op : Op} {pos : String} {af : Array Edge} {dst : Option Tmp} {j : Nat} {t : Tmp} {bc : Bool}
theorem WPA.ifBt [hc : Ev ρ c (.bool b)] (hb : b = true) (h : WPA ro P n x Q ρ A) : WPA ro P n (.cond c x y) Q ρ A := WPA.ifB (fun _ => h) (fun h' => by rw [hb] at h'; cases h')
theorem WPA.ifBf [hc : Ev ρ c (.bool b)] (hb : b = false) (h : WPA ro P n y Q ρ A) : WPA ro P n (.cond c x y) Q ρ A := WPA.ifB (fun h' => by rw [hb] at h'; cases h') (fun _ => h)
theorem WPA.ifBnt [hc : Ev ρ c (.bool (!b))] (hb : b = true) (h : WPA ro P n y Q ρ A) : WPA ro P n (.cond c x y) Q ρ A := WPA.ifBf (by rw [hb]; rfl) h
theorem WPA.ifBnf [hc : Ev ρ c (.bool (!b))] (hb : b = false) (h : WPA ro P n x Q ρ A) : WPA ro P n (.cond c x y) Q ρ A := WPA.ifBt (by rw [hb]; rfl) h
end
section
variable {ro : Option Nat} {N n : Nat} {ops : Array Oper} {Q : Hnd} {T : World → Prop} {r : Plan} {op : Op} {pos : String} {af : Array Edge}
theorem WDP.yes {dst : Option Tmp} {j : Nat} {c : Bool} {p : Prop} [hp' : Decidable p] {t : Tmp} (hy : yieldedE N ops ρ j = some (decide p)) (ht : (ops[j]?).bind (·.dst) = some t) (hp : p) (k : WDP ro P N ops Q T n ⟨dst, op, ty, pos, af, some (j, c)⟩ r (put1 ρ t (.bool true)) A) :
    WDP ro P N ops Q T n ⟨dst, op, ty, pos, af, some (j, c)⟩ r ρ A := by
  rw [put1_same (by rw [yield_val hy ht, decide_eq_true hp])] at k; exact k
theorem WDP.nay {dst : Option Tmp} {j : Nat} {c : Bool} {p : Prop} [hp' : Decidable p] {t : Tmp} (hy : yieldedE N ops ρ j = some (decide p)) (ht : (ops[j]?).bind (·.dst) = some t) (hp : ¬ p) (k : WDP ro P N ops Q T n ⟨dst, op, ty, pos, af, some (j, c)⟩ r (put1 ρ t (.bool false)) A) :
    WDP ro P N ops Q T n ⟨dst, op, ty, pos, af, some (j, c)⟩ r ρ A := by
  rw [put1_same (by rw [yield_val hy ht, decide_eq_false hp])] at k; exact k
theorem WDP.both {dst : Option Tmp} {j : Nat} {c : Bool} {p : Prop} [hp' : Decidable p] {t : Tmp} (hy : yieldedE N ops ρ j = some (decide p)) (ht : (ops[j]?).bind (·.dst) = some t) (k1 : p → WDP ro P N ops Q T n ⟨dst, op, ty, pos, af, some (j, c)⟩ r (put1 ρ t (.bool true)) A)
    (k2 : ¬ p → WDP ro P N ops Q T n ⟨dst, op, ty, pos, af, some (j, c)⟩ r (put1 ρ t (.bool false)) A) : WDP ro P N ops Q T n ⟨dst, op, ty, pos, af, some (j, c)⟩ r ρ A := by
  by_cases hp : p
  · exact WDP.yes hy ht hp (k1 hp)
  · exact WDP.nay hy ht hp (k2 hp)
end
def BkI (b : Nat) (t : TypeId) (cs : List Value) : Foot := [(b, .cells cs.toArray t (0, 0))]
theorem Bk.froz {b : Nat} {t : TypeId} {cs : List Value} {R : Foot} (h : Bk b t cs R) : R = BkI b t cs := h
class InI (I : Foot) (b : Nat) (t : outParam TypeId) (cs : outParam (List Value)) : Prop where
  out : (b, .cells cs.toArray t (0, 0)) ∈ I
instance {I : Foot} {b : Nat} {t : TypeId} {cs : List Value} : InI (BkI b t cs ++ I) b t cs := ⟨List.mem_append_left _ (List.mem_singleton.2 rfl)⟩
instance (priority := 900) {R I : Foot} {b : Nat} {t : TypeId} {cs : List Value} [h : InI I b t cs] : InI (R ++ I) b t cs := ⟨List.mem_append_right _ h.out⟩
instance (priority := 900) {x : Operand} {t t' : TypeId} {b i : Nat} {cs : List Value} {v : Value} [hx : Ev ρ x (.pointer (some ⟨b, i, none⟩))] [ht : One P t] [hA : InSL A w0 I L] [hb : InI I b t' cs] [hg : GetL cs i v] :
    OpM P ρ A (.load t x) ty v True := ⟨fun _ => P_load ht.out hx.out fun w hw => cell_of_heap ((hA.out w hw).mem _ _ hb.out) (by simpa using hg.out)⟩
theorem WPA.freezeBk {ro : Option Nat} {n : Nat} {Q : Hnd} {c : Code} {b : Nat} {t : TypeId} {cs : List Value} [hA : InSL A w0 I L] [hb : FindBk L b t cs L'] (k : WPA ro P n c Q ρ (SL w0 (BkI b t cs ++ I) L')) : WPA ro P n c Q ρ A :=
  WPA.mono (fun w hw => hb.out.sl (hA.out w hw)) (WPA.freeze fun R hR => by rw [hR.froz]; exact k)
theorem SL.unI {R I : Foot} {L : List HP} {w : World} (h : SL w0 (R ++ I) L w) : SL w0 I L w := h.sub fun _ hx => List.mem_append_right _ hx
def BytesH (e : TypeId) : List SV → List ByteArray → HP
  | s :: ss, t :: ts => star (OwnS e s (bytesK t)) (BytesH e ss ts)
  | _, _ => fun R => R = []
theorem Ent.intro1 {p : HP} (h : p []) : Ent L (p :: L) := fun Rs hf => ⟨[] :: Rs, [], ⟨h, hf⟩, by simp⟩
theorem BytesH.split {e : TypeId} : ∀ {s1 s2 : List SV} {t1 t2 : List ByteArray} {L : List HP}, s1.length = t1.length → Ent (BytesH e (s1 ++ s2) (t1 ++ t2) :: L) (BytesH e s1 t1 :: BytesH e s2 t2 :: L)
  | [], s2, [], t2, L, _ => Ent.intro1 rfl
  | s :: s1, s2, t :: t1, t2, L, h => by
    simp only [List.cons_append, BytesH]
    refine Ent.unstar.trans ?_
    refine (Ent.cons (BytesH.split (by simpa using h))).trans ?_
    exact Ent.star Ent.refl
  | [], s2, t :: t1, t2, L, h => by simp at h
  | s :: s1, s2, [], t2, L, h => by simp at h
theorem BytesH.join {e : TypeId} : ∀ {s1 s2 : List SV} {t1 t2 : List ByteArray} {L : List HP}, s1.length = t1.length → Ent (BytesH e s1 t1 :: BytesH e s2 t2 :: L) (BytesH e (s1 ++ s2) (t1 ++ t2) :: L)
  | [], s2, [], t2, L, _ => Ent.drop1
  | s :: s1, s2, t :: t1, t2, L, h => by
    simp only [List.cons_append, BytesH]
    refine Ent.unstar.trans ?_
    exact (Ent.cons (BytesH.join (by simpa using h))).trans (Ent.star Ent.refl)
  | [], s2, t :: t1, t2, L, h => by simp at h
  | s :: s1, s2, [], t2, L, h => by simp at h
def BytesX (e : TypeId) (i : Nat) (ss : List SV) (ts : List ByteArray) : HP := star (BytesH e (ss.take i) (ts.take i)) (BytesH e (ss.drop (i + 1)) (ts.drop (i + 1)))
theorem BytesH.back {e : TypeId} {ss : List SV} {ts : List ByteArray} {s : SV} {t : ByteArray} (i : Nat) (hi : i < ss.length) (hl : ss.length = ts.length) :
    Ent (OwnS e s (bytesK t) :: BytesX e i ss ts :: L) (BytesH e (ss.set i s) (ts.set i t) :: L) := by
  have e1 : ss.set i s = ss.take i ++ s :: ss.drop (i + 1) := by rw [List.set_eq_take_append_cons_drop, if_pos hi]
  have e2 : ts.set i t = ts.take i ++ t :: ts.drop (i + 1) := by rw [List.set_eq_take_append_cons_drop, if_pos (by omega)]
  rw [e1, e2]
  refine (Ent.cons Ent.unstar).trans (Ent.swap.trans ?_)
  refine (Ent.cons (Ent.star (q := BytesH e (ss.drop (i + 1)) (ts.drop (i + 1))) Ent.refl : Ent (OwnS e s (bytesK t) :: BytesH e (ss.drop (i + 1)) (ts.drop (i + 1)) :: L) (BytesH e (s :: ss.drop (i + 1)) (t :: ts.drop (i + 1)) :: L))).trans ?_
  exact BytesH.join (L := L) (s1 := ss.take i) (t1 := ts.take i) (s2 := s :: ss.drop (i + 1)) (t2 := t :: ts.drop (i + 1)) (by rw [List.length_take, List.length_take]; omega)
end
class Stp (A : Prop) (B : outParam Prop) : Prop where
  out : B → A
theorem Stp.go {A B : Prop} [h : Stp A B] (k : B) : A := h.out k
section
variable {ro : Option Nat} {P : Program} {n N : Nat} {ops : Array Oper} {Q : Hnd} {ρ : Env} {A : World → Prop}
instance {x y : Code} : Stp (WPA ro P n (.seq x y) Q ρ A) (WPA ro P n x (seqQ ro P n y Q) ρ A) := ⟨WPA.seq⟩
instance {y : Code} : Stp (QQ (seqQ ro P n y Q) .normal ρ A) (WPA ro P n y Q ρ A) := ⟨QQ.seq_normal⟩
instance {y : Code} : Stp (QQ (seqQ ro P n y Q) .ret ρ A) (QQ Q .ret ρ A) := ⟨QQ.seq_ret⟩
instance {y : Code} {id : Nat} : Stp (QQ (seqQ ro P n y Q) (.exit id) ρ A) (QQ Q (.exit id) ρ A) := ⟨QQ.seq_exit⟩
instance {id : Nat} : Stp (QQ (blockQ id Q) .normal ρ A) (QQ Q .normal ρ A) := ⟨QQ.block_normal⟩
instance {id : Nat} : Stp (QQ (blockQ id Q) .ret ρ A) (QQ Q .ret ρ A) := ⟨QQ.block_ret⟩
instance (priority := 1100) {id : Nat} : Stp (QQ (blockQ id Q) (.exit id) ρ A) (QQ Q .normal ρ A) := ⟨QQ.block_hit⟩
instance {id id' : Nat} [hn : IsB (Nat.beq id' id) false] : Stp (QQ (blockQ id Q) (.exit id') ρ A) (QQ Q (.exit id') ρ A) := ⟨QQ.block_miss hn.out⟩
instance {σ : Type} {C : σ → Env → Prop} {B : σ → World → Prop} {m : σ → Nat} {x : σ} : Stp (QQ (loopQ C B m x Q) .ret ρ A) (QQ Q .ret ρ A) := ⟨QQ.loop_ret⟩
instance {σ : Type} {C : σ → Env → Prop} {B : σ → World → Prop} {m : σ → Nat} {x : σ} {id : Nat} : Stp (QQ (loopQ C B m x Q) (.exit id) ρ A) (QQ Q (.exit id) ρ A) := ⟨QQ.loop_exit⟩
instance : Stp (WPA ro P n .skip Q ρ A) (QQ Q .normal ρ A) := ⟨WPA.skip⟩
instance : Stp (WPA ro P n .ret Q ρ A) (QQ Q .ret ρ A) := ⟨WPA.ret⟩
instance {id : Nat} : Stp (WPA ro P n (.exit id) Q ρ A) (QQ Q (.exit id) ρ A) := ⟨WPA.exit⟩
instance {id : Nat} {c : Code} : Stp (WPA ro P n (.block id c) Q ρ A) (WPA ro P n c (blockQ id Q) ρ A) := ⟨WPA.block⟩
instance {id : Nat} {l : List Oper} : Stp (WPA ro P n (.region id l.toArray false) Q ρ A) (WLA ro P n l.toArray Q l ρ A) := ⟨WPA.region⟩
instance : Stp (WLA ro P n ops Q [] ρ A) (QQ Q .normal ρ A) := ⟨WLA.nil⟩
theorem WPA.dec {c : Operand} {x y : Code} {p : Prop} [hp' : Decidable p] [hc : Ev ρ c (.bool (decide p))] (h : p ∧ WPA ro P n x Q ρ A ∨ ¬ p ∧ WPA ro P n y Q ρ A) : WPA ro P n (.cond c x y) Q ρ A :=
  h.elim (fun h => WPA.ifYes h.1 h.2) fun h => WPA.ifNo h.1 h.2
variable {rest : List Oper} {op : Op} {ty : TypeId} {pos : String} {af : Array Edge} {dst : Option Tmp} {j : Nat} {t : Tmp} {bc : Bool} {d : Tmp} {g : Option (Nat × Bool)} {T : World → Prop} {r : Plan} {v : Value} {p : Prop} [hp' : Decidable p]
theorem WLA.dec (hy : yieldedE n ops ρ j = some (decide p)) (ht : (ops[j]?).bind (·.dst) = some t) (h : p ∧ WLA ro P n ops Q (⟨dst, op, ty, pos, af, some (j, bc)⟩ :: rest) (put1 ρ t (.bool true)) A ∨ ¬ p ∧ WLA ro P n ops Q (⟨dst, op, ty, pos, af, some (j, bc)⟩ :: rest) (put1 ρ t (.bool false)) A) : WLA ro P n ops Q (⟨dst, op, ty, pos, af, some (j, bc)⟩ :: rest) ρ A :=
  h.elim (fun h => WLA.yes hy ht h.1 h.2) fun h => WLA.nay hy ht h.1 h.2
theorem WLA.pk {a b : Operand} [hc : Ev ρ (.tmp t) (.bool (decide p))] (h : p ∧ WLA ro P n ops Q (⟨some d, .pick (.tmp t) a b, ty, pos, af, g⟩ :: rest) (put1 ρ t (.bool true)) A ∨ ¬ p ∧ WLA ro P n ops Q (⟨some d, .pick (.tmp t) a b, ty, pos, af, g⟩ :: rest) (put1 ρ t (.bool false)) A) : WLA ro P n ops Q (⟨some d, .pick (.tmp t) a b, ty, pos, af, g⟩ :: rest) ρ A :=
  h.elim (fun h => WLA.pickT h.1 h.2) fun h => WLA.pickF h.1 h.2
theorem WDQ.dec {m : Nat} (hy : yieldedE N ops ρ j = some (decide p)) (ht : (ops[j]?).bind (·.dst) = some t) (h : p ∧ WDQ ro P N ops Q T m ⟨dst, op, ty, pos, af, some (j, bc)⟩ r (put1 ρ t (.bool true)) A ∨ ¬ p ∧ WDQ ro P N ops Q T m ⟨dst, op, ty, pos, af, some (j, bc)⟩ r (put1 ρ t (.bool false)) A) : WDQ ro P N ops Q T m ⟨dst, op, ty, pos, af, some (j, bc)⟩ r ρ A :=
  h.elim (fun h => WDQ.yes hy ht h.1 h.2) fun h => WDQ.nay hy ht h.1 h.2
theorem WDP.dec {m : Nat} (hy : yieldedE N ops ρ j = some (decide p)) (ht : (ops[j]?).bind (·.dst) = some t) (h : p ∧ WDP ro P N ops Q T m ⟨dst, op, ty, pos, af, some (j, bc)⟩ r (put1 ρ t (.bool true)) A ∨ ¬ p ∧ WDP ro P N ops Q T m ⟨dst, op, ty, pos, af, some (j, bc)⟩ r (put1 ρ t (.bool false)) A) : WDP ro P N ops Q T m ⟨dst, op, ty, pos, af, some (j, bc)⟩ r ρ A :=
  h.elim (fun h => WDP.yes hy ht h.1 h.2) fun h => WDP.nay hy ht h.1 h.2
end
end Go.Fw
namespace Go.Fw
open Go Go.RowKit
set_option linter.unusedVariables false
set_option linter.unusedSimpArgs false
section
variable {P : Program} {w0 : World} {I : Foot} {L L' : List HP} {A : World → Prop} {rc : LoopState → Option Code → Obj}
theorem WLA.pure {ro : Option Nat} {n : Nat} {Q : Hnd} {ops : Array Oper} {l : List Oper} {ρ : Env} {p : Prop} (k : p → WLA ro P n ops Q l ρ A) : WLA ro P n ops Q l ρ (fun w => p ∧ A w) := fun m a w ha hA => k hA.1 m a w ha hA.2
theorem QQ.midS {l N : Nat} {bd : Code} {Q : Hnd} {ρ : Env} [hA : InSL A w0 I L] [he : FindK L Ob l (rc .ready none) L'] (h : WPA (some l) P N bd Q ρ (SL w0 I (Ob l (rc .busy none) :: L'))) :
    QQ (midQ P l N rc bd Q) .normal ρ A := fun w hw => by
  obtain ⟨h1, h2⟩ := (he.out.sl (hA.out w hw)).mark (o' := rc .busy none)
  exact ⟨h1, fun m a u ha hu => h m a u ha (hu ▸ h2)⟩
theorem QQ.rndN {l : Nat} {R : Bool → World → Prop} {ρ : Env} [hA : InSL A w0 I L] [he : FindK L Ob l (rc .busy none) L'] (h : ∀ w, SL w0 I (Ob l (rc .ready none) :: L') w → R true w) :
    QQ (rndQ l rc R) .normal ρ A := fun w hw => by
  obtain ⟨h1, h2⟩ := (he.out.sl (hA.out w hw)).mark (o' := rc .ready none)
  exact ⟨h1, h _ h2⟩
instance {ρ : Env} {ms : List Nat} {t : Tmp} {v : Value} [h : EvT ρ t v] : EvT ⟨ρ.f, ms⟩ t v := ⟨h.out⟩
theorem agreeP2 {N : Nat} {ρ : Env} {p q : Nat} {v u : Value} (hp : Nat.blt p N = true) (hq : Nat.blt q N = true) (tmps : Array Value) (hs : tmps.size = N) (hag : ∀ i, tmps.getD i undef = ρ.f i) :
    Agree N (put1 (put1 ⟨ρ.f, []⟩ p v) q u) { tmps := (#[p, q].zip #[v, u]).foldl (fun t (p, v) => t.setIfInBounds p v) tmps, defers := [] } [] := by
  rw [← upd_put1 hp, ← upd_put1 hq]; exact agree2 tmps hs hag
theorem YTr.ofS {l N : Nat} {ps : Array Tmp} {as_ bd : Code} {D : Nat} {args : Array Value} {ρ ρ1 : Env} {τ : Type} {B : τ → World → Prop} {val : τ → Bool} (hrc : IsRec rc N ρ ps as_ bd D)
    (hag : ∀ tmps : Array Value, tmps.size = N → (∀ i, tmps.getD i undef = ρ.f i) → Agree N ρ1 { tmps := (ps.zip args).foldl (fun t (p, v) => t.setIfInBounds p v) tmps, defers := [] } []) (hps : args.size = ps.size)
    [he : FindK L Ob l (rc .ready none) L']
    (h : WPA (some l) P N as_ (midQ P l N rc bd (rndQ l rc fun b w => ∃ x, val x = b ∧ B x w)) ρ1 (SL w0 I L)) :
    YTr P l args (SL w0 I L) (fun x => .bool (val x)) B := by
  obtain ⟨fn, tmps, hs, hg, rfl⟩ := hrc
  intro w hw
  have hl := ((he.out.sl hw).mark (o' := .deferred none)).1
  refine ⟨fn, _, as_, bd, run_yield hl hps, roundIn_of_wpIn (F := Fence.wide) trivial ?_⟩
  refine wpIn_mono (h (0, []) _ w (hag tmps hs hg) hw) ?_
  intro e a w1 hq
  cases e with
  | normal =>
    obtain ⟨ρ1, ha1, hl1, hb⟩ := hq
    refine ⟨_, run_beginRound hl1 rfl, wpIn_mono (hb (0, []) a _ ha1 rfl) ?_⟩
    intro e a2 w2 hq2
    cases e with
    | normal =>
      obtain ⟨_, _, hr, x, hx, hB⟩ := hq2
      exact ⟨_, _, run_endRound none hr, x, (by show _ = Ending.returned (.bool (val x)); rw [hx]; rfl), hB⟩
    | ret =>
      obtain ⟨_, _, hr, x, hx, hB⟩ := hq2
      exact ⟨_, _, run_endRound (some .ret) hr, x, (by show _ = Ending.returned (.bool (val x)); rw [hx]; rfl), hB⟩
    | exit id =>
      obtain ⟨_, _, hr, x, hx, hB⟩ := hq2
      exact ⟨_, _, run_endRound (some (.exit id)) hr, x, (by show _ = Ending.returned (.bool (val x)); rw [hx]; rfl), hB⟩
    | goto t => obtain ⟨_, _, hf⟩ := hq2; exact hf.elim
    | panic c => obtain ⟨_, _, hf⟩ := hq2; exact hf.elim
    | outgrown => exact hq2.elim
  | ret => obtain ⟨_, _, hf⟩ := hq; exact hf.elim
  | exit id => obtain ⟨_, _, hf⟩ := hq; exact hf.elim
  | goto t => obtain ⟨_, _, hf⟩ := hq; exact hf.elim
  | panic c => obtain ⟨_, _, hf⟩ := hq; exact hf.elim
  | outgrown => exact hq.elim
theorem YTr.ent {l : Nat} {args : Array Value} {τ : Type} {val : τ → Value} {B : τ → World → Prop} (h : YTr P l args (SL w0 I L') val B) [e : EntC L L'] : YTr P l args (SL w0 I L) val B :=
  h.conv (fun _ hw => hw.to) fun x w hb => ⟨x, rfl, hb⟩
theorem WPA.rangeS {N : Nat} {g : Operand} {ps : Array Tmp} {as_ bd : Code} {Q : Hnd} {ρ : Env} {gf : FuncId} {caps : List Value} [hA : InSL A w0 I L] [hg : Ev ρ g (.func (.func gf) #[] caps.toArray)] [hf : Callb P gf]
    (h : ∀ (D : Nat) (rc : LoopState → Option Code → Obj), IsRec rc N ρ ps as_ bd D →
      ∃ (τ : Type) (val : τ → Value) (st : τ → LoopState) (jump : τ → Option Code) (L' : τ → List HP),
        Tr P gf (List.toArray (.func (.yield (D + 1)) #[] #[] :: caps)) (SL w0 I (Ob (D + 1) (rc .ready none) :: Ob D (.deferred (some [])) :: L)) val
          (fun x => SL w0 I (Ob (D + 1) (rc (st x) (jump x)) :: L' x)) ∧
        ∀ x, st x ≠ .busy ∧ jumpQ Q ⟨ρ.f, D :: ρ.ms⟩ (SL w0 I (L' x)) (jump x)) :
    WPA none P N (.rangeFunc g ps as_ bd) Q ρ A := by
  intro m a w ha hw
  replace hw := hA.out w hw
  refine wpIn_rangeFunc fun fn _ => ?_
  obtain ⟨τ, val, st, jump, L', hT, hk⟩ := h w.heap.size _ ⟨fn, a.tmps, ha.sz, ha.get, rfl⟩
  have hw1 := (hw.push (.deferred (some [])) (Ob w.heap.size (.deferred (some []))) rfl).push (.loop ⟨.ready, none, fn, a.tmps, ps, as_, bd, w.heap.size⟩) (Ob (w.heap.size + 1) (.loop ⟨.ready, none, fn, a.tmps, ps, as_, bd, w.heap.size⟩)) (by simp [Ob])
  have hen := run_enterLoop_outer (P := P) (w := w) fn a.tmps ps as_ bd
  have hw1' : SL w0 I (Ob (w.heap.size + 1) (.loop ⟨.ready, none, fn, a.tmps, ps, as_, bd, w.heap.size⟩) :: Ob w.heap.size (.deferred (some [])) :: L) ((w.alloc (.deferred (some []))).alloc (.loop ⟨.ready, none, fn, a.tmps, ps, as_, bd, w.heap.size⟩)) := hw1
  generalize (w.alloc (.deferred (some []))).alloc (.loop ⟨.ready, none, fn, a.tmps, ps, as_, bd, w.heap.size⟩) = W1 at hen hw1'
  have hg' : a.eval g = .func (.func gf) #[] caps.toArray := by rw [ha.eval]; exact hg.out
  refine ⟨w.heap.size + 1, [{ target := .collected w.heap.size, args := #[] }], W1, { target := .fn (.func gf) caps.toArray, args := #[.func (.yield (w.heap.size + 1)) #[] #[]] }, W1, gf,
    #[.func (.yield (w.heap.size + 1)) #[] #[]] ++ caps.toArray, W1, hen, ?_, fun _ _ => trivial, ?_, fun h => (by cases h), ?_⟩
  · simp only [resolve, hg']
    simp [go_sem, Deferred.ofValue]
  · simp [invoke, go_sem, run_callFunc hf.out]
  · have e : (#[.func (.yield (w.heap.size + 1)) #[] #[]] ++ caps.toArray : Array Value) = List.toArray (.func (.yield (w.heap.size + 1)) #[] #[] :: caps) := by simp
    rw [e]
    have hc : CallsIn (FR none) (m.1 - 1) P gf _ _ _ := callsIn_wide.2 (hT _ hw1')
    refine hc.mono ?_
    rintro e w3 ⟨x, rfl, hB⟩
    obtain ⟨hst, hj⟩ := hk x
    obtain ⟨hl, hB1⟩ := hB.mark (o' := .loop { (⟨st x, jump x, fn, a.tmps, ps, as_, bd, w.heap.size⟩ : Loop) with state := .exhausted })
    refine ⟨_, _, run_endLoop hl hst, ?_⟩
    have hB2 := Ent.drop1.sl hB1
    have ha2 : Agree N ⟨ρ.f, w.heap.size :: ρ.ms⟩ { a with defers := [{ target := .collected w.heap.size, args := #[] }] ++ a.defers } m.2 := ⟨ha.sz, ha.get, by show _ :: a.defers = _; rw [ha.df]; rfl⟩
    generalize jump x = j at hj hB2 hB hl ⊢
    unfold jumpQ at hj
    split at hj
    · exact ⟨_, ha2, hj _ hB2⟩
    · exact wpIn_ret ⟨_, ha2, hj _ hB2⟩
    · exact wpIn_exit ⟨_, ha2, hj _ hB2⟩
    · exact hj.elim
end
end Go.Fw
namespace Go.Fw
open Go Go.RowKit
set_option linter.unusedVariables false
set_option linter.unusedSimpArgs false
class EncI (α : Type) [Enc α] : Prop where
  inj : ∀ x y : α, Enc.cells x = Enc.cells y → x = y
instance : EncI Int := ⟨fun x y h => by injection h with h _; injection h⟩
instance : EncI Bool := ⟨fun x y h => by injection h with h _; injection h⟩
instance : EncI ByteArray := ⟨fun x y h => by injection h with h _; injection h⟩
instance : EncI SV := ⟨fun x y h => by
  injection h with h _; injection h with h1 h2 h3
  cases x; cases y; simp only at h1 h2 h3; rw [h1, h2, h3]⟩
instance {α β : Type} [Enc α] [Enc β] [EncI α] [EncI β] : EncI (α × β) := ⟨fun x y h => by
  have h : Enc.cells x.1 ++ Enc.cells x.2 = Enc.cells y.1 ++ Enc.cells y.2 := h
  have h' := List.append_inj h (by rw [Enc.len, Enc.len])
  exact Prod.ext (EncI.inj _ _ h'.1) (EncI.inj _ _ h'.2)⟩
theorem RdW.det {α : Type} [Enc α] [EncI α] {w : World} {s : SV} {xs ys : List α} (h : RdW w s xs) (k : RdW w s ys) : xs = ys := by
  have hx := h.len
  have hy := k.len
  refine List.ext_getElem (by omega) fun i h1 h2 => EncI.inj _ _ ?_
  have e1 : xs.getD i Enc.dflt = xs[i] := by simp [List.getD_eq_getElem?_getD, h1]
  have e2 : ys.getD i Enc.dflt = ys[i] := by simp [List.getD_eq_getElem?_getD, h2]
  refine List.ext_getElem (by rw [Enc.len, Enc.len]) fun q h3 h4 => ?_
  have a := h.cells i q _ h1 (by rw [e1]; exact List.getElem?_eq_getElem h3)
  have b := k.cells i q _ h2 (by rw [e2]; exact List.getElem?_eq_getElem h4)
  rw [a] at b
  injection b
open Classical in
noncomputable def rd (α : Type) [e : Enc α] (I : Foot) (s : SV) : List α := if h : ∃ xs : List α, SlI I s α e xs then h.choose else []
theorem SlI.rd {α : Type} [e : Enc α] {I : Foot} {s : SV} {xs : List α} (h : SlI I s α e xs) : SlI I s α e (Go.Fw.rd α I s) := by
  unfold Go.Fw.rd
  have hx : ∃ xs : List α, SlI I s α e xs := ⟨xs, h⟩
  rw [dif_pos hx]
  exact hx.choose_spec
theorem SlI.det {α : Type} [e : Enc α] [EncI α] {I : Foot} {s : SV} {xs ys : List α} (h : SlI I s α e xs) (k : SlI I s α e ys) {w0 : World} {L : List HP} {w : World} (hw : SL w0 I L w) : xs = ys :=
  (h.out w fun b o hb => hw.mem b o hb).det (k.out w fun b o hb => hw.mem b o hb)
theorem SlI.sub {α : Type} [e : Enc α] {I I' : Foot} {s : SV} {xs : List α} (h : SlI I s α e xs) [hs : SubI I' I] : SlI I' s α e xs := ⟨fun w hw => h.out w fun b o hb => hw b o (hs.out hb)⟩
section
variable {ro : Option Nat} {P : Program} {n : Nat} {Q : Hnd} {ρ : Env} {ops : Array Oper} {w0 : World} {I : Foot} {L : List HP}
theorem WPA.rd {c : Code} {α : Type} {e : Enc α} [EncI α] {s : SV} {xs : List α} (h : SlI I s α e xs) (k : Go.Fw.rd α I s = xs → WPA ro P n c Q ρ (SL w0 I L)) : WPA ro P n c Q ρ (SL w0 I L) := fun m a w ha hA => k (h.rd.det h hA) m a w ha hA
theorem WLA.rd {l : List Oper} {α : Type} {e : Enc α} [EncI α] {s : SV} {xs : List α} (h : SlI I s α e xs) (k : Go.Fw.rd α I s = xs → WLA ro P n ops Q l ρ (SL w0 I L)) : WLA ro P n ops Q l ρ (SL w0 I L) := fun m a w ha hA => k (h.rd.det h hA) m a w ha hA
end
def RowH {α : Type} [Enc α] (e : TypeId) : List SV → List (List α) → HP
  | s :: ss, t :: ts => star (OwnS e s t) (RowH e ss ts)
  | _, _ => fun R => R = []
theorem RowH.nil {α : Type} [Enc α] {e : TypeId} {L : List HP} : Ent L (RowH e [] ([] : List (List α)) :: L) := Ent.intro1 rfl
theorem RowH.snoc {α : Type} [Enc α] {e : TypeId} {s : SV} {t : List α} : ∀ {ss : List SV} {ts : List (List α)} {L : List HP}, ss.length = ts.length → Ent (OwnS e s t :: RowH e ss ts :: L) (RowH e (ss ++ [s]) (ts ++ [t]) :: L)
  | [], [], L, _ => Ent.star (Ent.cons Ent.drop1 |>.trans (Ent.cons (Ent.intro1 (p := RowH e [] ([] : List (List α))) rfl)))
  | s1 :: ss, t1 :: ts, L, h => by
    simp only [List.cons_append, RowH]
    refine (Ent.cons Ent.unstar).trans (Ent.swap.trans ?_)
    refine (Ent.cons (RowH.snoc (by simpa using h))).trans ?_
    exact Ent.star Ent.refl
  | [], t1 :: ts, L, h => by simp at h
  | s1 :: ss, [], L, h => by simp at h
theorem RowH.frozen {α : Type} [en : Enc α] {e : TypeId} : ∀ {ss : List SV} {ts : List (List α)} {R : Foot}, RowH e ss ts R → ∀ i, i < ss.length → i < ts.length → SlI R (ss.getD i SV.nil) α en (ts.getD i [])
  | s :: ss, t :: ts, R, h, 0, _, _ => by
    obtain ⟨R1, R2, h1, h2, rfl⟩ := h
    have := SlI.ofOwn h1
    simp only [List.getD_cons_zero]
    exact SlI.left
  | s :: ss, t :: ts, R, h, i + 1, hi, hj => by
    obtain ⟨R1, R2, h1, h2, rfl⟩ := h
    have := RowH.frozen h2 i (by simpa using hi) (by simpa using hj)
    simp only [List.getD_cons_succ]
    exact SlI.right
theorem RowH.rdW {α : Type} [en : Enc α] {e : TypeId} {ss : List SV} {ts : List (List α)} {i : Nat} (hi : i < ss.length) (hj : i < ts.length) {I w0 w} {L : List HP} (h : SL w0 I (RowH e ss ts :: L) w) : RdW w (ss.getD i SV.nil) (ts.getD i []) := by
  obtain ⟨R, hR, h1⟩ := h.freeze
  have := RowH.frozen hR i hi hj
  exact (SlI.left (I := I) : SlI (R ++ I) _ _ _ _).out w fun b o hb => h1.mem b o hb
class IsRow {α : Type} (ss : List SV) (ts : List (List α)) (s : SV) (xs : outParam (List α)) : Prop where
  out : ∃ i, i < ss.length ∧ i < ts.length ∧ ss.getD i SV.nil = s ∧ ts.getD i [] = xs
theorem IsRow.at {α : Type} {ss : List SV} {ts : List (List α)} {i : Int} (h0 : 0 ≤ i) (h1 : i < ss.length) (h2 : i < ts.length) : IsRow ss ts (at_ ss i) (ts.getD i.toNat []) := ⟨⟨i.toNat, by omega, by omega, rfl, rfl⟩⟩
instance OwnIn.row {α : Type} [e : Enc α] {L : List HP} {t : TypeId} {ss : List SV} {ts : List (List α)} {s : SV} {xs : List α} [h : IsRow ss ts s xs] : OwnIn (RowH t ss ts :: L) s α e xs := ⟨fun I w0 w hw => by
  obtain ⟨i, h1, h2, h3, h4⟩ := h.out
  have := RowH.rdW h1 h2 hw
  rw [h3, h4] at this; exact this⟩
section
variable {P : Program} {ρ : Env} {A : World → Prop} {ty : TypeId} {x y : Operand} {t u : TypeId} {k : IntKind} {a b : Int}
theorem convW {src dst : TypeId} {k' : IntKind} [h : Ev ρ x (.int k' a)] [hd : Und P dst (.int k)] [hs : Und P src (.int k')] : OpM P ρ A (.convert src dst x) ty (.int k (k.wrap a)) True := ⟨fun _ => P_convInt hs.out hd.out h.out⟩
end
end Go.Fw
namespace Go.Proofs.YthkhneimfjaohaaGreatDoor
open Go Go.Fw
set_option linter.unusedSimpArgs false
theorem mixed : Tryz.prog.follows .mixedOrders = true := by kernel_rfl
instance : Callb Tryz.prog 2 := ⟨by kernel_rfl⟩
instance : Callb Tryz.prog 3 := ⟨by kernel_rfl⟩
instance : Callb Tryz.prog 4 := ⟨by kernel_rfl⟩
instance : Callb Tryz.prog 5 := ⟨by kernel_rfl⟩
instance : Callb Tryz.prog 6 := ⟨by kernel_rfl⟩
instance : Callb Tryz.prog 7 := ⟨by kernel_rfl⟩
instance : Callb Tryz.prog 8 := ⟨by kernel_rfl⟩
instance : Callb Tryz.prog 9 := ⟨by kernel_rfl⟩
instance : Callb Tryz.prog 10 := ⟨by kernel_rfl⟩
instance : Callb Tryz.prog 11 := ⟨by kernel_rfl⟩
instance : Callb Tryz.prog 12 := ⟨by kernel_rfl⟩
instance : Callb Tryz.prog 13 := ⟨by kernel_rfl⟩
instance : Callb Tryz.prog 14 := ⟨by kernel_rfl⟩
instance : Callb Tryz.prog 15 := ⟨by kernel_rfl⟩
instance : Callb Tryz.prog 16 := ⟨by kernel_rfl⟩
instance : Callb Tryz.prog 17 := ⟨by kernel_rfl⟩
instance : Callb Tryz.prog 18 := ⟨by kernel_rfl⟩
instance : Callb Tryz.prog 19 := ⟨by kernel_rfl⟩
instance : Callb Tryz.prog 20 := ⟨by kernel_rfl⟩
instance : Callb Tryz.prog 21 := ⟨by kernel_rfl⟩
instance : Callb Tryz.prog 22 := ⟨by kernel_rfl⟩
instance : Callb Tryz.prog 23 := ⟨by kernel_rfl⟩
instance : Callb Tryz.prog 24 := ⟨by kernel_rfl⟩
instance : Callb Tryz.prog 25 := ⟨by kernel_rfl⟩
instance : Callb Tryz.prog 26 := ⟨by kernel_rfl⟩
instance : Callb Tryz.prog 27 := ⟨by kernel_rfl⟩
instance : Callb Tryz.prog 28 := ⟨by kernel_rfl⟩
instance : Callb Tryz.prog 29 := ⟨by kernel_rfl⟩
instance : Callb Tryz.prog 30 := ⟨by kernel_rfl⟩
instance : Callb Tryz.prog 31 := ⟨by kernel_rfl⟩
instance : Callb Tryz.prog 32 := ⟨by kernel_rfl⟩
instance : Callb Tryz.prog 33 := ⟨by kernel_rfl⟩
instance : Callb Tryz.prog 34 := ⟨by kernel_rfl⟩
instance : Callb Tryz.prog 35 := ⟨by kernel_rfl⟩
instance : Callb Tryz.prog 36 := ⟨by kernel_rfl⟩
instance : Callb Tryz.prog 37 := ⟨by kernel_rfl⟩
instance : Callb Tryz.prog 38 := ⟨by kernel_rfl⟩
instance : Callb Tryz.prog 39 := ⟨by kernel_rfl⟩
instance : Callb Tryz.prog 40 := ⟨by kernel_rfl⟩
instance : Callb Tryz.prog 41 := ⟨by kernel_rfl⟩
instance : Callb Tryz.prog 42 := ⟨by kernel_rfl⟩
instance : Callb Tryz.prog 43 := ⟨by kernel_rfl⟩
instance : Callb Tryz.prog 44 := ⟨by kernel_rfl⟩
instance : Callb Tryz.prog 45 := ⟨by kernel_rfl⟩
instance : Callb Tryz.prog 46 := ⟨by kernel_rfl⟩
instance : Callb Tryz.prog 47 := ⟨by kernel_rfl⟩
instance : Callb Tryz.prog 48 := ⟨by kernel_rfl⟩
instance : Callb Tryz.prog 49 := ⟨by kernel_rfl⟩
instance : Callb Tryz.prog 50 := ⟨by kernel_rfl⟩
instance : Callb Tryz.prog 51 := ⟨by kernel_rfl⟩
instance : Callb Tryz.prog 52 := ⟨by kernel_rfl⟩
instance : Callb Tryz.prog 53 := ⟨by kernel_rfl⟩
instance : Callb Tryz.prog 54 := ⟨by kernel_rfl⟩
instance : Callb Tryz.prog 55 := ⟨by kernel_rfl⟩
instance : Callb Tryz.prog 56 := ⟨by kernel_rfl⟩
instance : Callb Tryz.prog 57 := ⟨by kernel_rfl⟩
instance : Callb Tryz.prog 58 := ⟨by kernel_rfl⟩
instance : Callb Tryz.prog 59 := ⟨by kernel_rfl⟩
instance : Callb Tryz.prog 60 := ⟨by kernel_rfl⟩
instance : Callb Tryz.prog 61 := ⟨by kernel_rfl⟩
instance : Callb Tryz.prog 62 := ⟨by kernel_rfl⟩
instance : Callb Tryz.prog 63 := ⟨by kernel_rfl⟩
instance : Callb Tryz.prog 64 := ⟨by kernel_rfl⟩
instance : Callb Tryz.prog 65 := ⟨by kernel_rfl⟩
instance : Callb Tryz.prog 66 := ⟨by kernel_rfl⟩
instance : Callb Tryz.prog 67 := ⟨by kernel_rfl⟩
instance : Callb Tryz.prog 68 := ⟨by kernel_rfl⟩
instance : Callb Tryz.prog 69 := ⟨by kernel_rfl⟩
instance : Callb Tryz.prog 70 := ⟨by kernel_rfl⟩
instance : Callb Tryz.prog 71 := ⟨by kernel_rfl⟩
instance : Callb Tryz.prog 72 := ⟨by kernel_rfl⟩
instance : Callb Tryz.prog 73 := ⟨by kernel_rfl⟩
instance : Callb Tryz.prog 74 := ⟨by kernel_rfl⟩
instance : Callb Tryz.prog 75 := ⟨by kernel_rfl⟩
instance : Callb Tryz.prog 76 := ⟨by kernel_rfl⟩
instance : Callb Tryz.prog 77 := ⟨by kernel_rfl⟩
instance : Callb Tryz.prog 78 := ⟨by kernel_rfl⟩
instance : Callb Tryz.prog 79 := ⟨by kernel_rfl⟩
instance : Callb Tryz.prog 80 := ⟨by kernel_rfl⟩
instance : Callb Tryz.prog 81 := ⟨by kernel_rfl⟩
instance : Callb Tryz.prog 82 := ⟨by kernel_rfl⟩
instance : Callb Tryz.prog 83 := ⟨by kernel_rfl⟩
instance : Callb Tryz.prog 84 := ⟨by kernel_rfl⟩
instance : Callb Tryz.prog 85 := ⟨by kernel_rfl⟩
instance : Callb Tryz.prog 87 := ⟨by kernel_rfl⟩
instance : Callb Tryz.prog 88 := ⟨by kernel_rfl⟩
instance : Callb Tryz.prog 89 := ⟨by kernel_rfl⟩
instance : Callb Tryz.prog 90 := ⟨by kernel_rfl⟩
instance : Callb Tryz.prog 91 := ⟨by kernel_rfl⟩
instance : Callb Tryz.prog 92 := ⟨by kernel_rfl⟩
instance : Callb Tryz.prog 93 := ⟨by kernel_rfl⟩
instance : Callb Tryz.prog 94 := ⟨by kernel_rfl⟩
instance : Callb Tryz.prog 95 := ⟨by kernel_rfl⟩
instance : Callb Tryz.prog 96 := ⟨by kernel_rfl⟩
instance : Callb Tryz.prog 97 := ⟨by kernel_rfl⟩
instance : Callb Tryz.prog 98 := ⟨by kernel_rfl⟩
instance : Callb Tryz.prog 99 := ⟨by kernel_rfl⟩
instance : Callb Tryz.prog 100 := ⟨by kernel_rfl⟩
instance : Callb Tryz.prog 101 := ⟨by kernel_rfl⟩
instance : Callb Tryz.prog 102 := ⟨by kernel_rfl⟩
instance : Callb Tryz.prog 103 := ⟨by kernel_rfl⟩
instance : Callb Tryz.prog 104 := ⟨by kernel_rfl⟩
instance : Callb Tryz.prog 106 := ⟨by kernel_rfl⟩
instance : Callb Tryz.prog 107 := ⟨by kernel_rfl⟩
instance : Callb Tryz.prog 108 := ⟨by kernel_rfl⟩
instance : Callb Tryz.prog 109 := ⟨by kernel_rfl⟩
instance : Callb Tryz.prog 110 := ⟨by kernel_rfl⟩
instance : Callb Tryz.prog 111 := ⟨by kernel_rfl⟩
instance : Callb Tryz.prog 112 := ⟨by kernel_rfl⟩
instance : Callb Tryz.prog 113 := ⟨by kernel_rfl⟩
instance : Callb Tryz.prog 114 := ⟨by kernel_rfl⟩
instance : Callb Tryz.prog 116 := ⟨by kernel_rfl⟩
instance : Callb Tryz.prog 117 := ⟨by kernel_rfl⟩
instance : Callb Tryz.prog 118 := ⟨by kernel_rfl⟩
instance : Callb Tryz.prog 119 := ⟨by kernel_rfl⟩
instance : Callb Tryz.prog 122 := ⟨by kernel_rfl⟩
instance : Callb Tryz.prog 123 := ⟨by kernel_rfl⟩
instance : Callb Tryz.prog 151 := ⟨by kernel_rfl⟩
instance : Und Tryz.prog 2 (.int .i64) := ⟨Tryz.underlying2⟩
instance : Inf Tryz.prog 2 [.int .i64 0] 1 8 := ⟨by kernel_rfl⟩
instance : One Tryz.prog 2 := ⟨by kernel_rfl⟩
instance : Phys Tryz.prog 2 Int inferInstance := ⟨trivial⟩
instance : Und Tryz.prog 3 (.int .i64) := ⟨Tryz.underlying3⟩
instance : Inf Tryz.prog 3 [.int .i64 0] 1 8 := ⟨by kernel_rfl⟩
instance : One Tryz.prog 3 := ⟨by kernel_rfl⟩
instance : Phys Tryz.prog 3 Int inferInstance := ⟨trivial⟩
instance : Und Tryz.prog 4 (.bool) := ⟨Tryz.underlying4⟩
instance : Inf Tryz.prog 4 [.bool false] 1 1 := ⟨by kernel_rfl⟩
instance : One Tryz.prog 4 := ⟨by kernel_rfl⟩
instance : Phys Tryz.prog 4 Bool inferInstance := ⟨trivial⟩
instance : Und Tryz.prog 5 (.int .u8) := ⟨Tryz.underlying5⟩
instance : Inf Tryz.prog 5 [.int .u8 0] 1 1 := ⟨by kernel_rfl⟩
instance : One Tryz.prog 5 := ⟨by kernel_rfl⟩
instance : Phys Tryz.prog 5 (KInt .u8) inferInstance := ⟨trivial⟩
instance : Und Tryz.prog 9 (.string) := ⟨Tryz.underlying9⟩
instance : Inf Tryz.prog 9 [.string ⟨#[]⟩] 1 16 := ⟨by kernel_rfl⟩
instance : One Tryz.prog 9 := ⟨by kernel_rfl⟩
instance : Phys Tryz.prog 9 ByteArray inferInstance := ⟨trivial⟩
instance : Und Tryz.prog 21 (.int .i32) := ⟨Tryz.underlying21⟩
instance : Inf Tryz.prog 21 [.int .i32 0] 1 4 := ⟨by kernel_rfl⟩
instance : One Tryz.prog 21 := ⟨by kernel_rfl⟩
instance : Phys Tryz.prog 21 (KInt .i32) inferInstance := ⟨trivial⟩
instance : Und Tryz.prog 22 (.slice 9) := ⟨Tryz.underlying22⟩
instance : Inf Tryz.prog 22 [.slice none 0 0] 1 24 := ⟨by kernel_rfl⟩
instance : One Tryz.prog 22 := ⟨by kernel_rfl⟩
instance : Phys Tryz.prog 22 SV inferInstance := ⟨trivial⟩
instance : Und Tryz.prog 23 (.slice 39) := ⟨Tryz.underlying23⟩
instance : Inf Tryz.prog 23 [.slice none 0 0] 1 24 := ⟨by kernel_rfl⟩
instance : One Tryz.prog 23 := ⟨by kernel_rfl⟩
instance : Phys Tryz.prog 23 SV inferInstance := ⟨trivial⟩
instance : Inf Tryz.prog 25 [.int .i64 0, .slice none 0 0, .slice none 0 0] 3 56 := ⟨by kernel_rfl⟩
instance : Agg Tryz.prog 25 3 := ⟨by kernel_rfl⟩
instance : Phys Tryz.prog 25 (Int × SV × SV) inferInstance := ⟨trivial⟩
instance : Und Tryz.prog 28 (.int .i64) := ⟨Tryz.underlying28⟩
instance : Inf Tryz.prog 28 [.int .i64 0] 1 8 := ⟨by kernel_rfl⟩
instance : One Tryz.prog 28 := ⟨by kernel_rfl⟩
instance : Phys Tryz.prog 28 Int inferInstance := ⟨trivial⟩
instance : Und Tryz.prog 39 (.slice 42) := ⟨Tryz.underlying39⟩
instance : Inf Tryz.prog 39 [.slice none 0 0] 1 24 := ⟨by kernel_rfl⟩
instance : One Tryz.prog 39 := ⟨by kernel_rfl⟩
instance : Phys Tryz.prog 39 SV inferInstance := ⟨trivial⟩
instance : Und Tryz.prog 40 (.slice 3) := ⟨Tryz.underlying40⟩
instance : Inf Tryz.prog 40 [.slice none 0 0] 1 24 := ⟨by kernel_rfl⟩
instance : One Tryz.prog 40 := ⟨by kernel_rfl⟩
instance : Phys Tryz.prog 40 SV inferInstance := ⟨trivial⟩
instance : Inf Tryz.prog 42 [.slice none 0 0, .int .i64 0, .int .i64 0] 3 40 := ⟨by kernel_rfl⟩
instance : Agg Tryz.prog 42 3 := ⟨by kernel_rfl⟩
instance : Phys Tryz.prog 42 (SV × Int × Int) inferInstance := ⟨trivial⟩
instance : Und Tryz.prog 45 (.pointer 51) := ⟨Tryz.underlying45⟩
instance : Inf Tryz.prog 45 [.pointer none] 1 8 := ⟨by kernel_rfl⟩
instance : One Tryz.prog 45 := ⟨by kernel_rfl⟩
instance : Phys Tryz.prog 45 (Option Addr) inferInstance := ⟨trivial⟩
instance : Und Tryz.prog 46 (.pointer 49) := ⟨Tryz.underlying46⟩
instance : Inf Tryz.prog 46 [.pointer none] 1 8 := ⟨by kernel_rfl⟩
instance : One Tryz.prog 46 := ⟨by kernel_rfl⟩
instance : Phys Tryz.prog 46 (Option Addr) inferInstance := ⟨trivial⟩
instance : Und Tryz.prog 47 (.slice 5) := ⟨Tryz.underlying47⟩
instance : Inf Tryz.prog 47 [.slice none 0 0] 1 24 := ⟨by kernel_rfl⟩
instance : One Tryz.prog 47 := ⟨by kernel_rfl⟩
instance : Phys Tryz.prog 47 SV inferInstance := ⟨trivial⟩
instance : Inf Tryz.prog 49 [.pointer none, .slice none 0 0] 2 32 := ⟨by kernel_rfl⟩
instance : Agg Tryz.prog 49 2 := ⟨by kernel_rfl⟩
instance : Phys Tryz.prog 49 ((Option Addr) × SV) inferInstance := ⟨trivial⟩
instance : Inf Tryz.prog 51 [.pointer none, .slice none 0 0] 2 32 := ⟨by kernel_rfl⟩
instance : Agg Tryz.prog 51 2 := ⟨by kernel_rfl⟩
instance : Phys Tryz.prog 51 (((Option Addr) × SV)) inferInstance := ⟨trivial⟩
instance : Und Tryz.prog 53 (.func #[3] #[9] false) := ⟨Tryz.underlying53⟩
instance : Inf Tryz.prog 53 [.nilFunc] 1 8 := ⟨by kernel_rfl⟩
instance : One Tryz.prog 53 := ⟨by kernel_rfl⟩
instance : Phys Tryz.prog 53 Any inferInstance := ⟨trivial⟩
instance : Inf Tryz.prog 60 [.int .i64 0, .int .i64 0] 2 16 := ⟨by kernel_rfl⟩
instance : Agg Tryz.prog 60 2 := ⟨by kernel_rfl⟩
instance : Phys Tryz.prog 60 (Int × Int) inferInstance := ⟨trivial⟩
instance : Und Tryz.prog 62 (.pointer 64) := ⟨Tryz.underlying62⟩
instance : Inf Tryz.prog 62 [.pointer none] 1 8 := ⟨by kernel_rfl⟩
instance : One Tryz.prog 62 := ⟨by kernel_rfl⟩
instance : Phys Tryz.prog 62 (Option Addr) inferInstance := ⟨trivial⟩
instance : Inf Tryz.prog 64 [.string ⟨#[]⟩, .int .i64 0] 2 24 := ⟨by kernel_rfl⟩
instance : Agg Tryz.prog 64 2 := ⟨by kernel_rfl⟩
instance : Phys Tryz.prog 64 (ByteArray × Int) inferInstance := ⟨trivial⟩
instance : Und Tryz.prog 68 (.slice 105) := ⟨Tryz.underlying68⟩
instance : Inf Tryz.prog 68 [.slice none 0 0] 1 24 := ⟨by kernel_rfl⟩
instance : One Tryz.prog 68 := ⟨by kernel_rfl⟩
instance : Phys Tryz.prog 68 SV inferInstance := ⟨trivial⟩
instance : Und Tryz.prog 73 (.pointer 76) := ⟨Tryz.underlying73⟩
instance : Inf Tryz.prog 73 [.pointer none] 1 8 := ⟨by kernel_rfl⟩
instance : One Tryz.prog 73 := ⟨by kernel_rfl⟩
instance : Phys Tryz.prog 73 (Option Addr) inferInstance := ⟨trivial⟩
instance : Inf Tryz.prog 76 [.slice none 0 0, .int .i64 0, .int .i64 0] 3 40 := ⟨by kernel_rfl⟩
instance : Agg Tryz.prog 76 3 := ⟨by kernel_rfl⟩
instance : Phys Tryz.prog 76 (SV × Int × Int) inferInstance := ⟨trivial⟩
instance : Und Tryz.prog 77 (.slice 79) := ⟨Tryz.underlying77⟩
instance : Inf Tryz.prog 77 [.slice none 0 0] 1 24 := ⟨by kernel_rfl⟩
instance : One Tryz.prog 77 := ⟨by kernel_rfl⟩
instance : Phys Tryz.prog 77 SV inferInstance := ⟨trivial⟩
instance : Und Tryz.prog 79 (.slice 83) := ⟨Tryz.underlying79⟩
instance : Inf Tryz.prog 79 [.slice none 0 0] 1 24 := ⟨by kernel_rfl⟩
instance : One Tryz.prog 79 := ⟨by kernel_rfl⟩
instance : Phys Tryz.prog 79 SV inferInstance := ⟨trivial⟩
instance : Inf Tryz.prog 83 [.int .i64 0, .slice none 0 0, .slice none 0 0, .int .i64 0, .int .i64 0] 5 72 := ⟨by kernel_rfl⟩
instance : Agg Tryz.prog 83 5 := ⟨by kernel_rfl⟩
instance : Phys Tryz.prog 83 (Int × SV × (SV × Int × Int)) inferInstance := ⟨trivial⟩
instance : Und Tryz.prog 87 (.pointer 116) := ⟨Tryz.underlying87⟩
instance : Inf Tryz.prog 87 [.pointer none] 1 8 := ⟨by kernel_rfl⟩
instance : One Tryz.prog 87 := ⟨by kernel_rfl⟩
instance : Phys Tryz.prog 87 (Option Addr) inferInstance := ⟨trivial⟩
instance : Und Tryz.prog 98 (.pointer 5) := ⟨Tryz.underlying98⟩
instance : Inf Tryz.prog 98 [.pointer none] 1 8 := ⟨by kernel_rfl⟩
instance : One Tryz.prog 98 := ⟨by kernel_rfl⟩
instance : Phys Tryz.prog 98 (Option Addr) inferInstance := ⟨trivial⟩
instance : Und Tryz.prog 104 (.map 9 3) := ⟨Tryz.underlying104⟩
instance : Inf Tryz.prog 104 [.map none] 1 8 := ⟨by kernel_rfl⟩
instance : One Tryz.prog 104 := ⟨by kernel_rfl⟩
instance : Phys Tryz.prog 104 Any inferInstance := ⟨trivial⟩
instance : Und Tryz.prog 105 (.slice 107) := ⟨Tryz.underlying105⟩
instance : Inf Tryz.prog 105 [.slice none 0 0] 1 24 := ⟨by kernel_rfl⟩
instance : One Tryz.prog 105 := ⟨by kernel_rfl⟩
instance : Phys Tryz.prog 105 SV inferInstance := ⟨trivial⟩
instance : Inf Tryz.prog 107 [.int .i64 0, .slice none 0 0, .int .i64 0, .int .i64 0] 4 48 := ⟨by kernel_rfl⟩
instance : Agg Tryz.prog 107 4 := ⟨by kernel_rfl⟩
instance : Phys Tryz.prog 107 (Int × SV × Int × Int) inferInstance := ⟨trivial⟩
instance : Und Tryz.prog 110 (.int .u64) := ⟨Tryz.underlying110⟩
instance : Inf Tryz.prog 110 [.int .u64 0] 1 8 := ⟨by kernel_rfl⟩
instance : One Tryz.prog 110 := ⟨by kernel_rfl⟩
instance : Phys Tryz.prog 110 (KInt .u64) inferInstance := ⟨trivial⟩
instance : Und Tryz.prog 114 (.pointer 137) := ⟨Tryz.underlying114⟩
instance : Inf Tryz.prog 114 [.pointer none] 1 8 := ⟨by kernel_rfl⟩
instance : One Tryz.prog 114 := ⟨by kernel_rfl⟩
instance : Phys Tryz.prog 114 (Option Addr) inferInstance := ⟨trivial⟩
instance : Inf Tryz.prog 116 [.pointer none] 1 8 := ⟨by kernel_rfl⟩
instance : Agg Tryz.prog 116 1 := ⟨by kernel_rfl⟩
instance : Phys Tryz.prog 116 ((Option Addr)) inferInstance := ⟨trivial⟩
instance : Und Tryz.prog 120 (.func #[42, 40] #[3] false) := ⟨Tryz.underlying120⟩
instance : Inf Tryz.prog 120 [.nilFunc] 1 8 := ⟨by kernel_rfl⟩
instance : One Tryz.prog 120 := ⟨by kernel_rfl⟩
instance : Phys Tryz.prog 120 Any inferInstance := ⟨trivial⟩
instance : Und Tryz.prog 132 (.slice 21) := ⟨Tryz.underlying132⟩
instance : Inf Tryz.prog 132 [.slice none 0 0] 1 24 := ⟨by kernel_rfl⟩
instance : One Tryz.prog 132 := ⟨by kernel_rfl⟩
instance : Phys Tryz.prog 132 SV inferInstance := ⟨trivial⟩
instance : Und Tryz.prog 133 (.func #[9] #[110] false) := ⟨Tryz.underlying133⟩
instance : Inf Tryz.prog 133 [.nilFunc] 1 8 := ⟨by kernel_rfl⟩
instance : One Tryz.prog 133 := ⟨by kernel_rfl⟩
instance : Phys Tryz.prog 133 Any inferInstance := ⟨trivial⟩
instance : Inf Tryz.prog 135 [.slice none 0 0, .nilFunc, .nilFunc] 3 40 := ⟨by kernel_rfl⟩
instance : Agg Tryz.prog 135 3 := ⟨by kernel_rfl⟩
instance : Phys Tryz.prog 135 (SV × Any × Any) inferInstance := ⟨trivial⟩
instance : Inf Tryz.prog 137 [.slice none 0 0, .slice none 0 0, .nilFunc, .nilFunc] 4 64 := ⟨by kernel_rfl⟩
instance : Agg Tryz.prog 137 4 := ⟨by kernel_rfl⟩
instance : Phys Tryz.prog 137 (SV × (SV × Any × Any)) inferInstance := ⟨trivial⟩
instance : Und Tryz.prog 141 (.int .u64) := ⟨Tryz.underlying141⟩
instance : Inf Tryz.prog 141 [.int .u64 0] 1 8 := ⟨by kernel_rfl⟩
instance : One Tryz.prog 141 := ⟨by kernel_rfl⟩
instance : Phys Tryz.prog 141 (KInt .u64) inferInstance := ⟨trivial⟩
instance : Inf Tryz.prog 144 [.int .u8 0, .int .u8 0, .int .u8 0, .int .u8 0, .int .u8 0, .int .u8 0, .int .u8 0, .int .u8 0, .int .u8 0, .int .u8 0, .int .u8 0, .int .u8 0, .int .u8 0, .int .u8 0, .int .u8 0, .int .u8 0, .int .u8 0, .int .u8 0, .int .u8 0, .int .u8 0, .int .u8 0, .int .u8 0, .int .u8 0, .int .u8 0] 24 24 := ⟨by kernel_rfl⟩
instance : Agg Tryz.prog 144 24 := ⟨by kernel_rfl⟩
instance : Und Tryz.prog 152 (.pointer 135) := ⟨Tryz.underlying152⟩
instance : Inf Tryz.prog 152 [.pointer none] 1 8 := ⟨by kernel_rfl⟩
instance : One Tryz.prog 152 := ⟨by kernel_rfl⟩
instance : Phys Tryz.prog 152 (Option Addr) inferInstance := ⟨trivial⟩
instance : Inf Tryz.prog 155 [.int .u64 0, .int .u64 0, .int .u64 0, .int .u64 0, .int .u64 0, .int .u64 0, .int .u64 0, .int .u64 0, .int .u64 0, .int .u64 0, .int .u64 0, .int .u64 0, .int .u64 0, .int .u64 0, .int .u64 0, .int .u64 0, .int .u64 0, .int .u64 0, .int .u64 0, .int .u64 0] 20 160 := ⟨by kernel_rfl⟩
instance : Agg Tryz.prog 155 20 := ⟨by kernel_rfl⟩
instance : Und Tryz.prog 156 (.int .u32) := ⟨Tryz.underlying156⟩
instance : Inf Tryz.prog 156 [.int .u32 0] 1 4 := ⟨by kernel_rfl⟩
instance : One Tryz.prog 156 := ⟨by kernel_rfl⟩
instance : Phys Tryz.prog 156 (KInt .u32) inferInstance := ⟨trivial⟩
instance : Inf Tryz.prog 157 [.int .u8 0, .int .u8 0, .int .u8 0, .int .u8 0, .int .u8 0, .int .u8 0, .int .u8 0, .int .u8 0, .int .u8 0, .int .u8 0, .int .u8 0, .int .u8 0, .int .u8 0, .int .u8 0, .int .u8 0, .int .u8 0, .int .u8 0, .int .u8 0, .int .u8 0, .int .u8 0, .int .u8 0, .int .u8 0, .int .u8 0, .int .u8 0, .int .u8 0, .int .u8 0, .int .u8 0, .int .u8 0, .int .u8 0, .int .u8 0, .int .u8 0, .int .u8 0, .int .u8 0, .int .u8 0, .int .u8 0, .int .u8 0, .int .u8 0, .int .u8 0, .int .u8 0, .int .u8 0, .int .u8 0, .int .u8 0, .int .u8 0, .int .u8 0, .int .u8 0, .int .u8 0, .int .u8 0, .int .u8 0, .int .u8 0, .int .u8 0, .int .u8 0, .int .u8 0, .int .u8 0, .int .u8 0, .int .u8 0, .int .u8 0, .int .u8 0, .int .u8 0, .int .u8 0, .int .u8 0, .int .u8 0, .int .u8 0, .int .u8 0, .int .u8 0, .int .u8 0] 65 65 := ⟨by kernel_rfl⟩
instance : Agg Tryz.prog 157 65 := ⟨by kernel_rfl⟩
instance : Inf Tryz.prog 166 [.int .u8 0, .int .u8 0, .int .u8 0, .int .u8 0, .int .u8 0, .int .u8 0, .int .u8 0, .int .u8 0, .int .u8 0, .int .u8 0, .int .u8 0, .int .u8 0, .int .u8 0, .int .u8 0, .int .u8 0, .int .u8 0, .int .u8 0, .int .u8 0, .int .u8 0, .int .u8 0, .int .u8 0, .int .u8 0, .int .u8 0, .int .u8 0, .int .u8 0, .int .u8 0, .int .u8 0, .int .u8 0, .int .u8 0, .int .u8 0, .int .u8 0, .int .u8 0] 32 32 := ⟨by kernel_rfl⟩
instance : Agg Tryz.prog 166 32 := ⟨by kernel_rfl⟩
instance : Inf Tryz.prog 167 [.int .u8 0, .int .u8 0, .int .u8 0, .int .u8 0, .int .u8 0, .int .u8 0, .int .u8 0, .int .u8 0, .int .u8 0, .int .u8 0, .int .u8 0, .int .u8 0, .int .u8 0, .int .u8 0, .int .u8 0, .int .u8 0, .int .u8 0, .int .u8 0, .int .u8 0, .int .u8 0, .int .u8 0, .int .u8 0, .int .u8 0, .int .u8 0, .int .u8 0, .int .u8 0, .int .u8 0, .int .u8 0, .int .u8 0, .int .u8 0, .int .u8 0, .int .u8 0, .int .u8 0, .int .u8 0, .int .u8 0, .int .u8 0, .int .u8 0, .int .u8 0, .int .u8 0, .int .u8 0, .int .u8 0, .int .u8 0, .int .u8 0, .int .u8 0, .int .u8 0, .int .u8 0, .int .u8 0, .int .u8 0, .int .u8 0, .int .u8 0, .int .u8 0, .int .u8 0, .int .u8 0, .int .u8 0, .int .u8 0, .int .u8 0, .int .u8 0, .int .u8 0, .int .u8 0, .int .u8 0, .int .u8 0, .int .u8 0, .int .u8 0, .int .u8 0] 64 64 := ⟨by kernel_rfl⟩
instance : Agg Tryz.prog 167 64 := ⟨by kernel_rfl⟩
instance : Inf Tryz.prog 170 [.int .u8 0, .int .u8 0, .int .u8 0, .int .u8 0, .int .u8 0, .int .u8 0, .int .u8 0, .int .u8 0, .int .u8 0, .int .u8 0, .int .u8 0, .int .u8 0, .int .u8 0, .int .u8 0, .int .u8 0, .int .u8 0, .int .u8 0, .int .u8 0, .int .u8 0, .int .u8 0, .int .u8 0, .int .u8 0, .int .u8 0, .int .u8 0, .int .u8 0, .int .u8 0, .int .u8 0, .int .u8 0, .int .u8 0, .int .u8 0, .int .u8 0, .int .u8 0, .int .u8 0, .int .u8 0, .int .u8 0, .int .u8 0, .int .u8 0, .int .u8 0, .int .u8 0, .int .u8 0, .int .u8 0, .int .u8 0, .int .u8 0, .int .u8 0, .int .u8 0, .int .u8 0, .int .u8 0, .int .u8 0, .int .u8 0, .int .u8 0, .int .u8 0, .int .u8 0, .int .u8 0, .int .u8 0, .int .u8 0, .int .u8 0, .int .u8 0, .int .u8 0, .int .u8 0, .int .u8 0, .int .u8 0, .int .u8 0, .int .u8 0, .int .u8 0, .int .u8 0, .int .u8 0, .int .u8 0, .int .u8 0, .int .u8 0, .int .u8 0, .int .u8 0, .int .u8 0, .int .u8 0, .int .u8 0, .int .u8 0, .int .u8 0, .int .u8 0, .int .u8 0, .int .u8 0, .int .u8 0, .int .u8 0, .int .u8 0, .int .u8 0, .int .u8 0, .int .u8 0, .int .u8 0, .int .u8 0, .int .u8 0, .int .u8 0, .int .u8 0, .int .u8 0, .int .u8 0, .int .u8 0, .int .u8 0, .int .u8 0, .int .u8 0, .int .u8 0, .int .u8 0, .int .u8 0, .int .u8 0, .int .u8 0, .int .u8 0, .int .u8 0, .int .u8 0, .int .u8 0, .int .u8 0, .int .u8 0, .int .u8 0, .int .u8 0, .int .u8 0, .int .u8 0, .int .u8 0, .int .u8 0, .int .u8 0, .int .u8 0, .int .u8 0, .int .u8 0, .int .u8 0, .int .u8 0, .int .u8 0, .int .u8 0, .int .u8 0, .int .u8 0, .int .u8 0, .int .u8 0, .int .u8 0, .int .u8 0, .int .u8 0, .int .u8 0, .int .u8 0, .int .u8 0, .int .u8 0, .int .u8 0, .int .u8 0, .int .u8 0, .int .u8 0, .int .u8 0, .int .u8 0, .int .u8 0, .int .u8 0, .int .u8 0, .int .u8 0, .int .u8 0, .int .u8 0, .int .u8 0, .int .u8 0, .int .u8 0, .int .u8 0, .int .u8 0, .int .u8 0, .int .u8 0, .int .u8 0, .int .u8 0, .int .u8 0, .int .u8 0, .int .u8 0, .int .u8 0, .int .u8 0, .int .u8 0, .int .u8 0, .int .u8 0, .int .u8 0, .int .u8 0, .int .u8 0, .int .u8 0, .int .u8 0, .int .u8 0, .int .u8 0, .int .u8 0, .int .u8 0, .int .u8 0, .int .u8 0, .int .u8 0, .int .u8 0, .int .u8 0, .int .u8 0, .int .u8 0, .int .u8 0, .int .u8 0, .int .u8 0, .int .u8 0, .int .u8 0, .int .u8 0, .int .u8 0, .int .u8 0, .int .u8 0, .int .u8 0, .int .u8 0, .int .u8 0, .int .u8 0, .int .u8 0, .int .u8 0, .int .u8 0, .int .u8 0, .int .u8 0, .int .u8 0, .int .u8 0, .int .u8 0, .int .u8 0, .int .u8 0, .int .u8 0, .int .u8 0, .int .u8 0, .int .u8 0, .int .u8 0, .int .u8 0, .int .u8 0, .int .u8 0, .int .u8 0, .int .u8 0, .int .u8 0, .int .u8 0, .int .u8 0, .int .u8 0, .int .u8 0, .int .u8 0, .int .u8 0, .int .u8 0, .int .u8 0, .int .u8 0, .int .u8 0, .int .u8 0, .int .u8 0, .int .u8 0, .int .u8 0, .int .u8 0, .int .u8 0, .int .u8 0, .int .u8 0, .int .u8 0, .int .u8 0, .int .u8 0, .int .u8 0, .int .u8 0, .int .u8 0, .int .u8 0, .int .u8 0, .int .u8 0, .int .u8 0, .int .u8 0, .int .u8 0, .int .u8 0, .int .u8 0, .int .u8 0, .int .u8 0, .int .u8 0, .int .u8 0, .int .u8 0, .int .u8 0, .int .u8 0, .int .u8 0, .int .u8 0, .int .u8 0, .int .u8 0, .int .u8 0, .int .u8 0] 256 256 := ⟨by kernel_rfl⟩
instance : Agg Tryz.prog 170 256 := ⟨by kernel_rfl⟩
instance : Inf Tryz.prog 172 [.int .u8 0, .int .u8 0] 2 2 := ⟨by kernel_rfl⟩
instance : Agg Tryz.prog 172 2 := ⟨by kernel_rfl⟩
instance : Phys Tryz.prog 172 ((KInt .u8) × (KInt .u8)) inferInstance := ⟨trivial⟩
instance : Inf Tryz.prog 173 [.int .u8 0, .int .u8 0, .int .u8 0, .int .u8 0, .int .u8 0, .int .u8 0, .int .u8 0, .int .u8 0, .int .u8 0, .int .u8 0, .int .u8 0, .int .u8 0, .int .u8 0, .int .u8 0, .int .u8 0, .int .u8 0, .int .u8 0, .int .u8 0, .int .u8 0, .int .u8 0, .int .u8 0, .int .u8 0, .int .u8 0, .int .u8 0, .int .u8 0, .int .u8 0, .int .u8 0, .int .u8 0, .int .u8 0, .int .u8 0, .int .u8 0, .int .u8 0] 32 32 := ⟨by kernel_rfl⟩
instance : Agg Tryz.prog 173 32 := ⟨by kernel_rfl⟩
instance : MkI Tryz.prog 9 := ⟨fun _ _ => by kernel_rfl⟩
instance : MkI Tryz.prog 60 := ⟨fun _ _ => by kernel_rfl⟩
instance : StructT Tryz.prog 25 [3, 22, 23] := ⟨by kernel_rfl⟩
instance : StructT Tryz.prog 42 [40, 3, 3] := ⟨by kernel_rfl⟩
instance : StructT Tryz.prog 49 [46, 47] := ⟨by kernel_rfl⟩
instance : StructT Tryz.prog 51 [49] := ⟨by kernel_rfl⟩
instance : StructT Tryz.prog 60 [3, 28] := ⟨by kernel_rfl⟩
instance : StructT Tryz.prog 64 [9, 3] := ⟨by kernel_rfl⟩
instance : StructT Tryz.prog 76 [22, 3, 3] := ⟨by kernel_rfl⟩
instance : StructT Tryz.prog 83 [3, 22, 42] := ⟨by kernel_rfl⟩
instance : StructT Tryz.prog 107 [3, 22, 3, 3] := ⟨by kernel_rfl⟩
instance : StructT Tryz.prog 116 [114] := ⟨by kernel_rfl⟩
instance : StructT Tryz.prog 135 [132, 133, 53] := ⟨by kernel_rfl⟩
instance : StructT Tryz.prog 137 [22, 135] := ⟨by kernel_rfl⟩
instance : StructT Tryz.prog 172 [5, 5] := ⟨by kernel_rfl⟩
instance : FieldO Tryz.prog 25 0 0 := ⟨by kernel_rfl⟩
instance : FieldO Tryz.prog 25 1 1 := ⟨by kernel_rfl⟩
instance : FieldO Tryz.prog 25 2 2 := ⟨by kernel_rfl⟩
instance : FieldO Tryz.prog 42 0 0 := ⟨by kernel_rfl⟩
instance : FieldO Tryz.prog 42 1 1 := ⟨by kernel_rfl⟩
instance : FieldO Tryz.prog 42 2 2 := ⟨by kernel_rfl⟩
instance : FieldO Tryz.prog 49 0 0 := ⟨by kernel_rfl⟩
instance : FieldO Tryz.prog 49 1 1 := ⟨by kernel_rfl⟩
instance : FieldO Tryz.prog 51 0 0 := ⟨by kernel_rfl⟩
instance : FieldO Tryz.prog 60 0 0 := ⟨by kernel_rfl⟩
instance : FieldO Tryz.prog 60 1 1 := ⟨by kernel_rfl⟩
instance : FieldO Tryz.prog 64 0 0 := ⟨by kernel_rfl⟩
instance : FieldO Tryz.prog 64 1 1 := ⟨by kernel_rfl⟩
instance : FieldO Tryz.prog 76 0 0 := ⟨by kernel_rfl⟩
instance : FieldO Tryz.prog 76 1 1 := ⟨by kernel_rfl⟩
instance : FieldO Tryz.prog 76 2 2 := ⟨by kernel_rfl⟩
instance : FieldO Tryz.prog 83 0 0 := ⟨by kernel_rfl⟩
instance : FieldO Tryz.prog 83 1 1 := ⟨by kernel_rfl⟩
instance : FieldO Tryz.prog 83 2 2 := ⟨by kernel_rfl⟩
instance : FieldO Tryz.prog 107 0 0 := ⟨by kernel_rfl⟩
instance : FieldO Tryz.prog 107 1 1 := ⟨by kernel_rfl⟩
instance : FieldO Tryz.prog 107 2 2 := ⟨by kernel_rfl⟩
instance : FieldO Tryz.prog 107 3 3 := ⟨by kernel_rfl⟩
instance : FieldO Tryz.prog 116 0 0 := ⟨by kernel_rfl⟩
instance : FieldO Tryz.prog 135 0 0 := ⟨by kernel_rfl⟩
instance : FieldO Tryz.prog 135 1 1 := ⟨by kernel_rfl⟩
instance : FieldO Tryz.prog 135 2 2 := ⟨by kernel_rfl⟩
instance : FieldO Tryz.prog 137 0 0 := ⟨by kernel_rfl⟩
instance : FieldO Tryz.prog 137 1 1 := ⟨by kernel_rfl⟩
instance : FieldO Tryz.prog 172 0 0 := ⟨by kernel_rfl⟩
instance : FieldO Tryz.prog 172 1 1 := ⟨by kernel_rfl⟩
instance : BInfo Tryz.prog 25 [.int .i64 0, .slice none 0 0, .slice none 0 0] [(0, 1), (1, 1), (2, 1)] := ⟨by kernel_rfl⟩
instance : BInfo Tryz.prog 42 [.slice none 0 0, .int .i64 0, .int .i64 0] [(0, 1), (1, 1), (2, 1)] := ⟨by kernel_rfl⟩
instance : BInfo Tryz.prog 51 [.pointer none, .slice none 0 0] [(0, 2)] := ⟨by kernel_rfl⟩
instance : BInfo Tryz.prog 60 [.int .i64 0, .int .i64 0] [(0, 1), (1, 1)] := ⟨by kernel_rfl⟩
instance : BInfo Tryz.prog 64 [.string ⟨#[]⟩, .int .i64 0] [(0, 1), (1, 1)] := ⟨by kernel_rfl⟩
instance : BInfo Tryz.prog 76 [.slice none 0 0, .int .i64 0, .int .i64 0] [(0, 1), (1, 1), (2, 1)] := ⟨by kernel_rfl⟩
instance : BInfo Tryz.prog 83 [.int .i64 0, .slice none 0 0, .slice none 0 0, .int .i64 0, .int .i64 0] [(0, 1), (1, 1), (2, 3)] := ⟨by kernel_rfl⟩
instance : BInfo Tryz.prog 107 [.int .i64 0, .slice none 0 0, .int .i64 0, .int .i64 0] [(0, 1), (1, 1), (2, 1), (3, 1)] := ⟨by kernel_rfl⟩
instance : BInfo Tryz.prog 116 [.pointer none] [(0, 1)] := ⟨by kernel_rfl⟩
instance : BInfo Tryz.prog 135 [.slice none 0 0, .nilFunc, .nilFunc] [(0, 1), (1, 1), (2, 1)] := ⟨by kernel_rfl⟩
instance : BInfo Tryz.prog 137 [.slice none 0 0, .slice none 0 0, .nilFunc, .nilFunc] [(0, 1), (1, 3)] := ⟨by kernel_rfl⟩
instance : BInfo Tryz.prog 172 [.int .u8 0, .int .u8 0] [(0, 1), (1, 1)] := ⟨by kernel_rfl⟩
end Go.Proofs.YthkhneimfjaohaaGreatDoor
