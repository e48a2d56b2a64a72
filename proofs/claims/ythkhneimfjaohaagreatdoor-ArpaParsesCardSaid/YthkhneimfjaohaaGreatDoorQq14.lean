/- Texts that ArpaParses_law leans on, part 14. Conditions: none. -/
import Derived.Lib.SmallJoins
import Derived.Shelf.Strings.OnBuilder
import Derived.RecoverIn
import Derived.Test.YthkhneimfjaohaaGreatDoorQq13
namespace Go.Proofs.YthkhneimfjaohaaGreatDoor
open Go Go.Fw Go.RowKit
set_option linter.unusedVariables false
set_option linter.unusedSimpArgs false
set_option maxRecDepth 100000
set_option maxHeartbeats 16000000
set_option synthInstance.maxHeartbeats 200000
set_option synthInstance.maxSize 100000
attribute [local irreducible] WPA WLA WDA WDQ WDE QQ seqQ blockQ loopQ fnQ OpP OpT Tr TrP SL SLd OwnS LitS Bk BkE Ob
open Go.Lib Go.Sort
theorem sl_grew {w0 : World} {I : Foot} {L : List HP} {w : World} {k : Nat} {os : Array Obj} (h : SL w0 I L w) : SL w0 I L (grow (w.drewN k) os) := by
  unfold SL at h ⊢
  obtain ⟨H, Rs, h1, h2, h⟩ := h
  have hk : ∀ b u, w.heap[b]? = some u → (grow (w.drewN k) os).heap[b]? = some u := fun b u e => by
    have hb := (Array.getElem?_eq_some_iff.1 e).1
    show (w.heap ++ os)[b]? = some u
    rw [Array.getElem?_append_left hb]; exact e
  have hsz : w.heap.size ≤ (grow (w.drewN k) os).heap.size := by show w.heap.size ≤ (w.heap ++ os).size; rw [Array.size_append]; omega
  refine ⟨H, Rs, h1, h2, ⟨⟨h.below.os, h.below.tape, h.below.output, Nat.le_trans h.below.size hsz, fun j hj => ?_⟩, fun b u e => hk b u (h.imm b u e), fun p hp => ?_, h.nodup, ?_⟩⟩
  · have hb := h.below.block j hj
    rw [← hb]
    have hb2 : j < w.heap.size := Nat.lt_of_lt_of_le hj h.below.size
    show (w.heap ++ os)[j]? = _
    rw [Array.getElem?_append_left hb2]
  · obtain ⟨g1, g2, g3⟩ := h.own p hp; exact ⟨hk _ _ g1, g2, g3⟩
  · have := h.drw
    show w0.drawn ≤ w.drawn + k
    omega
theorem sl_below {w0 : World} {I : Foot} {L : List HP} {w : World} (h : SL w0 I L w) : Below w0.heap.size w0 w := by
  unfold SL at h
  obtain ⟨H, Rs, h1, h2, h⟩ := h
  exact h.below
def TabP (w : World) : Prop := Lib.TabIs Tryz.prog w "internal/strconv.uint64pow10" .u64 Lib.pow10Tab
theorem digits_dec : ∀ v : Nat, (⟨(Lib.decDigits v).toArray⟩ : ByteArray) = decL v := by
  intro v
  induction v using Nat.strongRecOn with
  | ind v ih =>
    rw [Lib.decDigits, decL]
    by_cases h : v < 10
    · rw [dif_pos h, dif_pos h]
    · rw [dif_neg h, dif_neg h, ← ih (v / 10) (by omega)]
      apply ByteArray.ext
      rw [ByteArray.data_append]
      simp
theorem itoa_intS (n : Int) : (⟨(Lib.itoa n).toArray⟩ : ByteArray) = intS n := by
  unfold Lib.itoa intS
  split
  · rename_i h
    rw [← digits_dec]
    have e : n.natAbs = (-n).toNat := by omega
    rw [e]
    apply ByteArray.ext
    rw [ByteArray.data_append]
    simp [mnB]
  · rw [← digits_dec]
section
variable {L L' : List HP} {w0 : World} {I : Foot}
theorem Itoa_tr {n : Int} (hT : TabP w0) (hn : -9223372036854775808 ≤ n ∧ n ≤ 9223372036854775807) : Tr Tryz.prog 17 #[.int .i64 n] (SL w0 I L) (fun _ : Unit => .string (intS n)) (fun _ => SL w0 I L) := by
  unfold Tr
  intro w hw
  have hT2 : TabP w := Go.Joins.tab_stays Tryz.itoa.m17 hT (sl_below hw) (Nat.le_refl _)
  refine (Go.Proofs.Any.strconv_Itoa Tryz.itoa n hn.1 hn.2 w hT2).mono ?_
  rintro e w' ⟨rfl, k, os, rfl⟩
  rw [itoa_intS]
  exact ⟨(), rfl, sl_grew hw⟩
theorem Tr.lend {f : FuncId} {args : Array Value} {τ : Type} {val : τ → Value} {e : TypeId} {s : SV} {α : Type} [en : Enc α] {xs : List α} (h : ∀ (J : Foot), SlI J s α en xs → Tr Tryz.prog f args (SL w0 J L) val (fun _ => SL w0 J L')) : Tr Tryz.prog f args (SL w0 I (OwnS e s xs :: L)) val (fun _ => SL w0 I L') := by
  unfold Tr at h ⊢
  intro w hw
  obtain ⟨R, hR, h2⟩ := hw.freeze
  have q : SlI (R ++ I) s α en xs := by have := SlI.ofOwn hR; infer_instance
  refine (h _ q w h2).mono ?_
  rintro ed w' ⟨x, h3, h4⟩
  exact ⟨x, h3, SL.unI h4⟩
theorem lineO_tr {b : Nat} {t : ByteArray} {s : SV} {e : TypeId} {xs : List ByteArray} {L1 L2 : List HP} [h : FindK L PrnR b t L1] [ho : FindOwn L1 s e ByteArray inferInstance xs L2] (hz : t.size + sumB xs + 1 ≤ 1000000000) (hn : xs.length ≤ 1000000) :
    Tr Tryz.prog 16 #[.pointer (some ⟨b, 0, none⟩), .slice s.a s.n s.cap] (SL w0 I L) (fun _ : Unit => .tuple #[]) (fun _ => SL w0 I (PrnR b (xs.foldl (· ++ ·) t ++ ⟨#[10]⟩) :: L2)) := by
  have hE : Ent L (OwnS e s xs :: PrnR b t :: L2) := h.out.trans ((Ent.cons ho.out).trans Ent.swap)
  refine Tr.at hE (Tr.lend fun J hJ => ?_)
  exact line_tr hz hn
theorem line0_tr {b : Nat} {t : ByteArray} [h : FindK L PrnR b t L'] (hz : t.size + 1 ≤ 1000000000) :
    Tr Tryz.prog 16 #[.pointer (some ⟨b, 0, none⟩), .slice none 0 0] (SL w0 I L) (fun _ : Unit => .tuple #[]) (fun _ => SL w0 I (PrnR b (t ++ ⟨#[10]⟩) :: L')) := by
  have q : SlI I SV.nil ByteArray inferInstance [] := SlI.nil
  exact line_tr (s := SV.nil) (xs := []) (by unfold sumB; simpa using hz) (Nat.zero_le _)
end
end Go.Proofs.YthkhneimfjaohaaGreatDoor
namespace Go.Fw
open Go Go.RowKit
set_option linter.unusedVariables false
theorem SL.grown {w0 : World} {I : Foot} {L : List HP} {w w' : World} (h0 : w0.drawn = 0) (h : SL w0 I L w) (hb : Below w.heap.size w w') : SL w0 I L w' := by
  obtain ⟨H, Rs, h1, h2, h⟩ := h
  have hk : ∀ b u, w.heap[b]? = some u → w'.heap[b]? = some u := fun b u e => by
    rw [hb.block b (Array.getElem?_eq_some_iff.1 e).1]; exact e
  refine ⟨H, Rs, h1, h2, ⟨⟨hb.os.trans h.below.os, hb.tape.trans h.below.tape, hb.output.trans h.below.output, Nat.le_trans h.below.size hb.size, fun k hk' => ?_⟩, fun b u e => hk b u (h.imm b u e), fun p hp => ?_, h.nodup, by omega⟩⟩
  · rw [hb.block k (Nat.lt_of_lt_of_le hk' h.below.size)]; exact h.below.block k hk'
  · obtain ⟨g1, g2, g3⟩ := h.own p hp; exact ⟨hk _ _ g1, g2, g3⟩
def joinB (xs : List ByteArray) (sep : ByteArray) : ByteArray := ⟨(Go.Lib.join (xs.map (·.data.toList)) sep.data.toList).toArray⟩
theorem Join_trL {P : Program} {ρ : Go.Shelf.Ren} {w0 : World} {I : Foot} {L : List HP} (Ly : Go.Proofs.Lays.n156 P ρ) (X : Go.Proofs.Builder.Extra P ρ) (h0 : w0.drawn = 0) {s : SV} {xs : List ByteArray} {sep : ByteArray} [hr : RdS I L s ByteArray inferInstance xs] (hlen : (joinB xs sep).size ≤ 140737488355328) (hn : xs.length ≤ 1000000000) :
    Tr P (ρ.f 156) #[.slice s.a s.n s.cap, .string sep] (SL w0 I L) (fun _ : Unit => .string (joinB xs sep)) (fun _ => SL w0 I L) := by
  intro w hw
  have h := hr.out w0 w hw
  have hl := h.len
  by_cases hx : xs = []
  · subst hx
    have hsn : s.n = 0 := by have := h.len; simpa using this
    rw [hsn]
    refine (Go.Proofs.Any.strings_Join_none Ly X s.a s.cap sep w).mono ?_
    rintro e w' ⟨rfl, rfl⟩
    exact ⟨(), rfl, hw⟩
  · have hpos : 0 < xs.length := List.length_pos_iff.2 hx
    rcases h.plain with h1 | ⟨b, o, ha⟩
    · omega
    · have hc : ∀ (j : Nat) x, xs[j]? = some x → w.cell? ⟨b, o + j, none⟩ = some (.string x) := fun j x hj => by
        have hjl := (List.getElem?_eq_some_iff.1 hj).1
        have hc := h.cells j 0 (.string x) hjl (by rw [List.getD_eq_getElem?_getD, hj]; rfl)
        simp only [eAddr, ha, Option.getD_some] at hc
        have e1 : Enc.sz ByteArray = 1 := rfl
        rw [e1] at hc
        simpa using hc
      have hb : b < w.heap.size := by
        have := hc 0 _ (List.getElem?_eq_getElem hpos)
        unfold World.cell? at this
        cases hh : w.heap[b]? with
        | none => simp [hh] at this
        | some u => exact (Array.getElem?_eq_some_iff.1 hh).1
      have key := Go.Proofs.Any.strings_Join Ly X b o s.cap xs sep w hc hb (by omega) (by have := h.cap; omega) (by
        unfold joinB at hlen
        rw [ByteArray.size, List.size_toArray] at hlen; exact hlen)
      rw [ha, hl]
      refine key.mono ?_
      rintro e w' ⟨rfl, hb'⟩
      exact ⟨(), rfl, hw.grown h0 hb'⟩
theorem Calls.below0 {P : Program} {f : FuncId} {args : Array Value} {w : World} {I : Foot} {L : List HP} (h : Tr P f args (SL { w with drawn := 0 } (allB w) []) (fun _ : Unit => .bool true) (fun _ => SL { w with drawn := 0 } I L)) : Calls P f args w fun e w' => e = .returned (.bool true) ∧ Below w.heap.size w w' := by
  have h0 : SL { w with drawn := 0 } (allB w) [] w := ⟨fun b => w.heap[b]?, [], fun b o hb => mem_allB.1 hb, trivial, ⟨⟨rfl, rfl, rfl, Nat.le_refl _, fun _ _ => rfl⟩, fun _ _ h => h, fun _ h => (by cases h), List.nodup_nil, Nat.zero_le _⟩⟩
  refine (h w h0).mono fun e w' ⟨_, he, hs⟩ => ⟨he, ?_⟩
  have hb := hs.below
  exact ⟨hb.os, hb.tape, hb.output, hb.size, hb.block⟩
end Go.Fw
namespace Go.Proofs.YthkhneimfjaohaaGreatDoor
open Go Go.Fw Go.RowKit
set_option linter.unusedVariables false
set_option linter.unusedSimpArgs false
set_option maxRecDepth 100000
set_option maxHeartbeats 16000000
set_option synthInstance.maxHeartbeats 200000
set_option synthInstance.maxSize 100000
attribute [local irreducible] WPA WLA WDA WDQ WDE QQ seqQ blockQ loopQ fnQ OpP OpT Tr TrP SL SLd OwnS LitS Bk BkE Ob
attribute [local irreducible] TblH VocH TabP PrnR
theorem extraP : Go.Proofs.Builder.Extra Tryz.prog Tryz.join_ren where
  sizeBuilder := by kernel_rfl
  liesBuilder := by kernel_rfl
  t5 := by kernel_rfl
  a5 := fun w => by kernel_rfl
  z5 := fun w => by kernel_rfl
  v5 := fun w => by kernel_rfl
  infoByte := by kernel_rfl
  cellsByte := by kernel_rfl
  sizeByte := by kernel_rfl
  neB5 := by decide
abbrev nlB : ByteArray := ⟨#[10]⟩
abbrev tabB : ByteArray := ⟨#[9]⟩
abbrev spB : ByteArray := ⟨#[32]⟩
def wordsB (ws : List ByteArray) (G : List Int) : List ByteArray := G.map fun i => at_ ws i
def entB (ws : List ByteArray) (top : Bool) (e : EV) : ByteArray := (((intS e.1.1 ++ tabB) ++ joinB (wordsB ws e.2) spB) ++ (if top then ⟨#[]⟩ else tabB ++ intS e.1.2)) ++ nlB
def entsB (ws : List ByteArray) (top : Bool) : List EV → ByteArray
  | [] => ⟨#[]⟩
  | e :: l => entB ws top e ++ entsB ws top l
def secTB (ws : List ByteArray) (top : Bool) (n : Nat) (es : List EV) : ByteArray := ((secB n ++ nlB) ++ entsB ws top es) ++ nlB
def fillB (l : List ByteArray) (j : Nat) : List ByteArray := l.take j ++ List.replicate (l.length - j) ⟨#[]⟩
theorem fillB_len {l : List ByteArray} {j : Nat} (h : j ≤ l.length) : (fillB l j).length = l.length := by unfold fillB; rw [List.length_append, List.length_take, List.length_replicate]; omega
theorem fillB_all (l : List ByteArray) : fillB l l.length = l := by unfold fillB; rw [Nat.sub_self, List.take_length]; simp
theorem fillB_get {l : List ByteArray} {j m : Nat} (h : j ≤ l.length) : (fillB l j)[m]? = if m < j then l[m]? else if m < l.length then some ⟨#[]⟩ else none := by
  unfold fillB
  rw [List.getElem?_append, List.length_take, Nat.min_eq_left h]
  split
  · rename_i h1; rw [List.getElem?_take_of_lt h1]
  · rw [List.getElem?_replicate]
    split
    · rw [if_pos (by omega)]
    · rw [if_neg (by omega)]
theorem fillB_set {l : List ByteArray} {j : Nat} (h : j < l.length) : (fillB l j).set j l[j] = fillB l (j + 1) := by
  apply List.ext_getElem?
  intro m
  rw [List.getElem?_set, fillB_len (by omega), fillB_get (by omega), fillB_get (by omega)]
  by_cases e : j = m
  · subst e
    rw [if_pos rfl, if_pos h, if_pos (by omega), List.getElem?_eq_getElem h]
  · rw [if_neg e]
    by_cases h1 : m < j
    · rw [if_pos h1, if_pos (show m < j + 1 by omega)]
    · rw [if_neg h1, if_neg (show ¬ m < j + 1 by omega)]
def EntG (nW n : Nat) (e : EV) : Prop := e.2.length = n ∧ (∀ x ∈ e.2, 0 ≤ x ∧ x < nW) ∧ CodeP e.1.1 ∧ CodeP e.1.2
section
variable {kg : SV → List Int} {re : SV → List En} {L L' : List HP} {w0 : World} {I : Foot}
theorem pJoin_tr (h0 : w0.drawn = 0) {s : SV} {xs : List ByteArray} {sep : ByteArray} [hr : RdS I L s ByteArray inferInstance xs] (hlen : (joinB xs sep).size ≤ 140737488355328) (hn : xs.length ≤ 1000000000) :
    Tr Tryz.prog 45 #[.slice s.a s.n s.cap, .string sep] (SL w0 I L) (fun _ : Unit => .string (joinB xs sep)) (fun _ => SL w0 I L) := Join_trL (ρ := Tryz.join_ren) Tryz.join extraP h0 hlen hn
theorem section_tr {b k : Nat} {t : ByteArray} {fr : Int} {w g : SV} {ws : List ByteArray} {gr : List SV} [h : FindK L PrnR b t L'] (hT : TabP w0) (h0 : w0.drawn = 0) (hM : MdI I kg re w g ws gr) (hk : k < gr.length) (hn : gr.length ≤ 8)
    (hE : ∀ p ∈ re (at_ gr (k : Int)), EntG ws.length (k + 1) (p.2, kg p.1)) (hz : (t ++ secTB ws (decide (k + 1 = gr.length)) (k + 1) (enV kg (re (at_ gr (k : Int))))).size ≤ 900000000) :
    Tr Tryz.prog 18 #[.pointer (some ⟨b, 0, none⟩), .agg #[.int .i64 fr, .slice w.a w.n w.cap, .slice g.a g.n g.cap], .int .i64 ((k + 1 : Nat) : Int)] (SL w0 I L) (fun _ : Unit => .tuple #[])
      (fun _ => SL w0 I (PrnR b (t ++ secTB ws (decide (k + 1 = gr.length)) (k + 1) (enV kg (re (at_ gr (k : Int))))) :: L')) := by
  refine Tr.at h.out ?_
  refine Tr.intro Tryz.func18 rfl Tryz.ntmps18 rfl ?_
  have hr1 : SlI I g SV inferInstance gr := hM.grams
  have hr2 : SlI I w ByteArray inferInstance ws := hM.words
  have hm : at_ gr (k : Int) ∈ gr := by rw [at_nat gr k hk]; exact List.getElem_mem _
  have hr3 : SlI I (at_ gr (k : Int)) En inferInstance (re (at_ gr (k : Int))) := hM.rows _ hm
  obtain ⟨v, hv⟩ : ∃ v, at_ gr (k : Int) = v := ⟨_, rfl⟩
  obtain ⟨es, hes⟩ : ∃ es, re v = es := ⟨_, rfl⟩
  have hG := hM.elems _ hm
  have hlen := hM.rln _ hm
  rw [hv, hes] at hr3 hE hz hG hlen ⊢
  obtain ⟨top, htop⟩ : ∃ top, decide (k + 1 = gr.length) = top := ⟨_, rfl⟩
  rw [htop] at hz ⊢
  obtain ⟨T, hTT⟩ : ∃ T, t ++ secTB ws top (k + 1) (enV kg es) = T := ⟨_, rfl⟩
  rw [hTT] at hz ⊢
  have hsz : (intS ((k + 1 : Nat) : Int)).size = 1 := by unfold intS; rw [if_neg (by omega), Int.toNat_natCast, dec_lt (by omega)]; rfl
  have hT1 : T = ((t ++ (secB (k + 1) ++ nlB)) ++ entsB ws top (enV kg es)) ++ nlB := by rw [← hTT]; unfold secTB; simp only [ByteArray.append_assoc]
  have ht1 : (t ++ (secB (k + 1) ++ nlB)).size ≤ 900000000 := by rw [hT1] at hz; simp only [ByteArray.size_append] at hz ⊢; omega
  have hs1 : t.size + sumB [⟨#[92]⟩, intS ((k + 1 : Nat) : Int), ⟨#[45, 103, 114, 97, 109, 115, 58]⟩] + 1 ≤ 1000000000 := by
    have e1 : sumB [⟨#[92]⟩, intS ((k + 1 : Nat) : Int), ⟨#[45, 103, 114, 97, 109, 115, 58]⟩] = 1 + (1 + 7) := by unfold sumB; simp only [List.map_cons, List.map_nil, List.sum_cons, List.sum_nil, hsz]; rfl
    simp only [ByteArray.size_append] at ht1
    omega
  have hf1 : [⟨#[92]⟩, intS ((k + 1 : Nat) : Int), ⟨#[45, 103, 114, 97, 109, 115, 58]⟩].foldl (· ++ ·) t ++ ⟨#[10]⟩ = t ++ (secB (k + 1) ++ nlB) := by
    simp only [List.foldl_cons, List.foldl_nil]; unfold secB; simp only [ByteArray.append_assoc]
  have hit := fun {L : List HP} => Itoa_tr (w0 := w0) (I := I) (L := L) (n := ((k + 1 : Nat) : Int)) hT ⟨by omega, by omega⟩
  have hk1 : 0 ≤ ((k + 1 : Nat) : Int) - 1 ∧ ((k + 1 : Nat) : Int) - 1 < gr.length := by omega
  have hke : ((k + 1 : Nat) : Int) - 1 = (k : Int) := by omega
  repeat' (first | ((rw [hf1])) | ((rw [hke])) | ((rw [hv])) | ((first | refine WLA.m rfl rfl ?_ ?_ | refine WLA.st rfl ?_ ?_ | refine WLA.x rfl rfl ?_ (fun x => ?_) | refine WLA.x0 rfl ?_ (fun x => ?_)); first | exact sdT | skip) | (refine Stp.go ?_) | (guard_target =~ WLA _ _ _ _ _ (⟨_, .call ⟨.value (.func 17), _, _⟩, _, _, _, _⟩ :: _) _ _; refine WLA.call rfl rfl (hit) ?_; rintro ⟨⟩) | (guard_target =~ WLA _ _ _ _ _ (⟨_, .call ⟨.value (.func 16), _, _⟩, _, _, _, _⟩ :: _) _ _; refine WLA.call rfl rfl (lineO_tr hs1 (by simp)) ?_; rintro ⟨⟩) | (refine WPA.ifT ?_) | (refine WPA.ifF ?_) | ((first | refine WPA.dec ?_); first | refine orL ?_ | refine orR ?_) | ((first | refine WPA.ifBt ?_ ?_ | refine WPA.ifBnf ?_ ?_); assumption) | ((first | refine WPA.ifBnt ?_ ?_ | refine WPA.ifBf ?_ ?_); assumption) | ((first | refine WPA.ifs ?_ ?_ | refine WPA.ifB ?_ ?_) <;> intro hc))
  revert x; intro _; revert x; intro t4
  refine WPA.loopS (σ := Nat × ByteArray) (fun y => [(0, .pointer (some ⟨b, 0, none⟩)), (2, .int .i64 ((k + 1 : Nat) : Int)), (4, .pointer (some ⟨t4, 0, none⟩)), (22, .slice v.a v.n v.cap), (23, .int .i64 es.length), (24, .int .i64 y.1)])
    (fun y => y.1 ≤ es.length ∧ (y.2 ++ entsB ws top ((enV kg es).drop y.1)) ++ nlB = T) (fun y => SL w0 I (PrnR b y.2 :: Bk t4 25 [.int .i64 fr, .slice w.a w.n w.cap, .slice g.a g.n g.cap] :: L')) (fun y => es.length - y.1) (0, t ++ (secB (k + 1) ++ nlB)) ⟨rfl, rfl, rfl, rfl, rfl, rfl, trivial⟩
    ⟨Nat.zero_le _, by dsimp only; rw [List.drop_zero]; exact hT1.symm⟩ (fun w h => h.to) ?_
  rintro ⟨i, u⟩ ρ ⟨hi, hu⟩
  dsimp only at hi hu ⊢
  have hel : (enV kg es).length = es.length := by unfold enV; rw [List.length_map]
  by_cases hlt : i < es.length
  · have hlt' : (i : Int) < es.length := by omega
    have hir : (0 : Int) ≤ i ∧ (i : Int) < es.length := by omega
    have hmem : at_ es (i : Int) ∈ es := by rw [at_nat es i hlt]; exact List.getElem_mem _
    have hGi := hG _ hmem
    have hEi := hE _ hmem
    rw [List.drop_eq_getElem_cons (by omega), ← (show aE (enV kg es) (i : Int) = (enV kg es)[i] by unfold aE; rw [Int.toNat_natCast, List.getD_eq_getElem?_getD, List.getElem?_eq_getElem]; rfl), at_enV (by omega) (by omega), entsB] at hu
    obtain ⟨p, hp⟩ : ∃ p, at_ es (i : Int) = p := ⟨_, rfl⟩
    rw [hp] at hGi hEi hu
    obtain ⟨xg, pr, bk⟩ := p
    obtain ⟨G, hGG⟩ : ∃ G, kg xg = G := ⟨_, rfl⟩
    dsimp only at hGi hEi hu
    rw [hGG] at hGi hEi hu
    obtain ⟨hl, hin, hc1, hc2⟩ := hEi
    dsimp only at hl hin hc1 hc2
    have hk64 : (0 : Int) ≤ ((k + 1 : Nat) : Int) ∧ ((k + 1 : Nat) : Int) ≤ 100 := by omega
    repeat' (first | ((rw [hp])) | ((first | refine WLA.m rfl rfl ?_ ?_ | refine WLA.st rfl ?_ ?_ | refine WLA.x rfl rfl ?_ (fun x => ?_) | refine WLA.x0 rfl ?_ (fun x => ?_)); first | exact sdT | skip) | (refine Stp.go ?_) | (refine WPA.ifT ?_) | (refine WPA.ifF ?_) | ((first | refine WPA.dec ?_); first | refine orL ?_ | refine orR ?_) | ((first | refine WPA.ifBt ?_ ?_ | refine WPA.ifBnf ?_ ?_); assumption) | ((first | refine WPA.ifBnt ?_ ?_ | refine WPA.ifBf ?_ ?_); assumption) | ((first | refine WPA.ifs ?_ ?_ | refine WPA.ifB ?_ ?_) <;> intro hc))
    revert x; intro q; revert x; intro t7
    dsimp only
    have hwl : (wordsB ws G).length = k + 1 := by unfold wordsB; rw [List.length_map, hl]
    have e0 : List.replicate (((k + 1 : Nat) : Int)).toNat (⟨#[]⟩ : ByteArray) = fillB (wordsB ws G) 0 := by unfold fillB; rw [List.take_zero, Int.toNat_natCast, hwl]; rfl
    rw [e0]
    have hlG : (G.length : Int) = ((k + 1 : Nat) : Int) := by omega
    refine WPA.loopS (σ := Nat) (fun j => [(0, .pointer (some ⟨b, 0, none⟩)), (2, .int .i64 ((k + 1 : Nat) : Int)), (4, .pointer (some ⟨t4, 0, none⟩)), (7, .pointer (some ⟨t7, 0, none⟩)), (8, .slice q.a q.n q.cap), (22, .slice v.a v.n v.cap), (23, .int .i64 es.length), (24, .int .i64 i), (31, .slice xg.a xg.n xg.cap), (32, .int .i64 G.length), (33, .int .i64 j)])
      (fun j => j ≤ G.length) (fun j => SL w0 I (OwnS 9 q (fillB (wordsB ws G) j) :: Bk t7 42 [.slice xg.a xg.n xg.cap, .int .i64 pr, .int .i64 bk] :: PrnR b u :: Bk t4 25 [.int .i64 fr, .slice w.a w.n w.cap, .slice g.a g.n g.cap] :: L')) (fun j => G.length - j) 0 ⟨rfl, rfl, rfl, rfl, rfl, rfl, rfl, rfl, rfl, rfl, rfl, trivial⟩
      (Nat.zero_le _) (fun w h => h.to) ?_
    rintro j ρ hj
    by_cases hltj : j < G.length
    · have hltj' : (j : Int) < G.length := by omega
      have hjr : (0 : Int) ≤ j ∧ (j : Int) < G.length := by omega
      have hmj : at_ G (j : Int) ∈ G := by rw [at_nat G j hltj]; exact List.getElem_mem _
      have hidx := hin _ hmj
      obtain ⟨c, hc⟩ : ∃ c, at_ G (j : Int) = c := ⟨_, rfl⟩
      rw [hc] at hidx
      have hfl : (fillB (wordsB ws G) j).length = k + 1 := by rw [fillB_len (by omega), hwl]
      have hfi : (0 : Int) ≤ j ∧ (j : Int) < (fillB (wordsB ws G) j).length := by omega
      have hjn : ((j : Int)).toNat = j := by omega
      have hst : (fillB (wordsB ws G) j).set j (at_ ws c) = fillB (wordsB ws G) (j + 1) := by
        rw [← fillB_set (by omega)]
        congr 1
        unfold wordsB
        rw [List.getElem_map, ← at_nat G j hltj, hc]
      repeat' (first | ((rw [hc])) | ((first | refine WLA.m rfl rfl ?_ ?_ | refine WLA.st rfl ?_ ?_ | refine WLA.x rfl rfl ?_ (fun x => ?_) | refine WLA.x0 rfl ?_ (fun x => ?_)); first | exact sdT | skip) | (refine Stp.go ?_) | (refine WPA.ifT ?_) | (refine WPA.ifF ?_) | ((first | refine WPA.dec ?_); first | refine orL ?_ | refine orR ?_) | ((first | refine WPA.ifBt ?_ ?_ | refine WPA.ifBnf ?_ ?_); assumption) | ((first | refine WPA.ifBnt ?_ ?_ | refine WPA.ifBf ?_ ?_); assumption) | ((first | refine WPA.ifs ?_ ?_ | refine WPA.ifB ?_ ?_) <;> intro hc))
      rw [hjn, hst]
      exact QQ.loopS (j + 1) ⟨rfl, rfl, rfl, rfl, rfl, rfl, rfl, rfl, rfl, rfl, rfl, trivial⟩ hltj (by omega) (fun w h => h.to)
    · have hltj' : ¬ (j : Int) < G.length := by omega
      obtain rfl : j = G.length := by omega
      have hall : fillB (wordsB ws G) G.length = wordsB ws G := by have := fillB_all (wordsB ws G); rwa [hwl, ← hl] at this
      rw [hall]
      have hend : ∀ bb : ByteArray, bb = (if top then ⟨#[]⟩ else tabB ++ intS bk) → ([intS pr, ⟨#[9]⟩, joinB (wordsB ws G) ⟨#[32]⟩, bb].foldl (· ++ ·) u ++ ⟨#[10]⟩ = u ++ entB ws top ((pr, bk), G)) ∧ u.size + sumB [intS pr, ⟨#[9]⟩, joinB (wordsB ws G) ⟨#[32]⟩, bb] + 1 ≤ 1000000000 ∧ (joinB (wordsB ws G) ⟨#[32]⟩).size ≤ 140737488355328 ∧ bb.size ≤ 900000000 := fun bb hb => by
        have h1 : [intS pr, ⟨#[9]⟩, joinB (wordsB ws G) ⟨#[32]⟩, bb].foldl (· ++ ·) u ++ ⟨#[10]⟩ = u ++ entB ws top ((pr, bk), G) := by
          simp only [List.foldl_cons, List.foldl_nil]
          unfold entB
          rw [hb]
          simp only [ByteArray.append_assoc]
        have h2 := congrArg ByteArray.size hu
        have h3 := congrArg ByteArray.size h1
        simp only [ByteArray.size_append, List.foldl_cons, List.foldl_nil] at h2 h3
        refine ⟨h1, ?_, by omega, by omega⟩
        have e1 : sumB [intS pr, ⟨#[9]⟩, joinB (wordsB ws G) ⟨#[32]⟩, bb] = (intS pr).size + ((⟨#[9]⟩ : ByteArray).size + ((joinB (wordsB ws G) ⟨#[32]⟩).size + bb.size)) := by unfold sumB; simp only [List.map_cons, List.map_nil, List.sum_cons, List.sum_nil, Nat.add_zero]
        rw [e1]
        have e2 : (⟨#[10]⟩ : ByteArray).size = 1 := rfl
        omega
      have hu2 : ((u ++ entB ws top ((pr, bk), G)) ++ entsB ws top (List.drop (i + 1) (enV kg es))) ++ nlB = T := by rw [← hu]; simp only [ByteArray.append_assoc]
      have hitb := fun {L : List HP} => Itoa_tr (w0 := w0) (I := I) (L := L) (n := bk) hT ⟨by omega, by omega⟩
      have hitp := fun {L : List HP} => Itoa_tr (w0 := w0) (I := I) (L := L) (n := pr) hT ⟨by omega, by omega⟩
      have hwn : (wordsB ws G).length ≤ 1000000000 := by omega
      cases top
      · have htl : ((k + 1 : Nat) : Int) < gr.length := by have := of_decide_eq_false htop; omega
        obtain ⟨hf2, hs2, hj2, hb2⟩ := hend (tabB ++ intS bk) rfl
        rw [ByteArray.size_append] at hb2
        have hb3 : (⟨#[9]⟩ : ByteArray).size + (intS bk).size ≤ 9223372036854775807 := by have e3 : (⟨#[9]⟩ : ByteArray).size = tabB.size := rfl; omega
        repeat' (first | ((first | refine WLA.m rfl rfl ?_ ?_ | refine WLA.st rfl ?_ ?_ | refine WLA.x rfl rfl ?_ (fun x => ?_) | refine WLA.x0 rfl ?_ (fun x => ?_)); first | exact sdT | skip) | (refine Stp.go ?_) | (guard_target =~ WLA _ _ _ _ _ (⟨_, .call ⟨.value (.func 17), _, _⟩, _, _, _, _⟩ :: _) _ _; refine WLA.call rfl rfl (hitb) ?_; rintro ⟨⟩) | (refine WPA.ifT ?_) | (refine WPA.ifF ?_) | ((first | refine WPA.dec ?_); first | refine orL ?_ | refine orR ?_) | ((first | refine WPA.ifBt ?_ ?_ | refine WPA.ifBnf ?_ ?_); assumption) | ((first | refine WPA.ifBnt ?_ ?_ | refine WPA.ifBf ?_ ?_); assumption) | ((first | refine WPA.ifs ?_ ?_ | refine WPA.ifB ?_ ?_) <;> intro hc))
        repeat' (first | ((rw [hf2])) | ((first | refine WLA.m rfl rfl ?_ ?_ | refine WLA.st rfl ?_ ?_ | refine WLA.x rfl rfl ?_ (fun x => ?_) | refine WLA.x0 rfl ?_ (fun x => ?_)); first | exact sdT | skip) | (refine Stp.go ?_) | (guard_target =~ WLA _ _ _ _ _ (⟨_, .call ⟨.value (.func 17), _, _⟩, _, _, _, _⟩ :: _) _ _; refine WLA.call rfl rfl (hitp) ?_; rintro ⟨⟩) | (guard_target =~ WLA _ _ _ _ _ (⟨_, .call ⟨.value (.func 45), _, _⟩, _, _, _, _⟩ :: _) _ _; refine WLA.call rfl rfl (pJoin_tr h0 hj2 hwn) ?_; rintro ⟨⟩) | (guard_target =~ WLA _ _ _ _ _ (⟨_, .call ⟨.value (.func 16), _, _⟩, _, _, _, _⟩ :: _) _ _; refine WLA.call rfl rfl (lineO_tr hs2 (by simp)) ?_; rintro ⟨⟩) | (refine WPA.ifT ?_) | (refine WPA.ifF ?_) | ((first | refine WPA.dec ?_); first | refine orL ?_ | refine orR ?_) | ((first | refine WPA.ifBt ?_ ?_ | refine WPA.ifBnf ?_ ?_); assumption) | ((first | refine WPA.ifBnt ?_ ?_ | refine WPA.ifBf ?_ ?_); assumption) | ((first | refine WPA.ifs ?_ ?_ | refine WPA.ifB ?_ ?_) <;> intro hc))
        exact QQ.loopS (i + 1, u ++ entB ws false ((pr, bk), G)) ⟨rfl, rfl, rfl, rfl, rfl, rfl, trivial⟩ ⟨hlt, hu2⟩ (by dsimp only; omega) (fun w h => h.to)
      · have htl : ¬ ((k + 1 : Nat) : Int) < gr.length := by have := of_decide_eq_true htop; omega
        obtain ⟨hf2, hs2, hj2, hb2⟩ := hend ⟨#[]⟩ rfl
        repeat' (first | ((first | refine WLA.m rfl rfl ?_ ?_ | refine WLA.st rfl ?_ ?_ | refine WLA.x rfl rfl ?_ (fun x => ?_) | refine WLA.x0 rfl ?_ (fun x => ?_)); first | exact sdT | skip) | (refine Stp.go ?_) | (refine WPA.ifT ?_) | (refine WPA.ifF ?_) | ((first | refine WPA.dec ?_); first | refine orL ?_ | refine orR ?_) | ((first | refine WPA.ifBt ?_ ?_ | refine WPA.ifBnf ?_ ?_); assumption) | ((first | refine WPA.ifBnt ?_ ?_ | refine WPA.ifBf ?_ ?_); assumption) | ((first | refine WPA.ifs ?_ ?_ | refine WPA.ifB ?_ ?_) <;> intro hc))
        repeat' (first | ((rw [hf2])) | ((first | refine WLA.m rfl rfl ?_ ?_ | refine WLA.st rfl ?_ ?_ | refine WLA.x rfl rfl ?_ (fun x => ?_) | refine WLA.x0 rfl ?_ (fun x => ?_)); first | exact sdT | skip) | (refine Stp.go ?_) | (guard_target =~ WLA _ _ _ _ _ (⟨_, .call ⟨.value (.func 17), _, _⟩, _, _, _, _⟩ :: _) _ _; refine WLA.call rfl rfl (hitp) ?_; rintro ⟨⟩) | (guard_target =~ WLA _ _ _ _ _ (⟨_, .call ⟨.value (.func 45), _, _⟩, _, _, _, _⟩ :: _) _ _; refine WLA.call rfl rfl (pJoin_tr h0 hj2 hwn) ?_; rintro ⟨⟩) | (guard_target =~ WLA _ _ _ _ _ (⟨_, .call ⟨.value (.func 16), _, _⟩, _, _, _, _⟩ :: _) _ _; refine WLA.call rfl rfl (lineO_tr hs2 (by simp)) ?_; rintro ⟨⟩) | (refine WPA.ifT ?_) | (refine WPA.ifF ?_) | ((first | refine WPA.dec ?_); first | refine orL ?_ | refine orR ?_) | ((first | refine WPA.ifBt ?_ ?_ | refine WPA.ifBnf ?_ ?_); assumption) | ((first | refine WPA.ifBnt ?_ ?_ | refine WPA.ifBf ?_ ?_); assumption) | ((first | refine WPA.ifs ?_ ?_ | refine WPA.ifB ?_ ?_) <;> intro hc))
        exact QQ.loopS (i + 1, u ++ entB ws true ((pr, bk), G)) ⟨rfl, rfl, rfl, rfl, rfl, rfl, trivial⟩ ⟨hlt, hu2⟩ (by dsimp only; omega) (fun w h => h.to)
  · have hlt' : ¬ (i : Int) < es.length := by omega
    rw [List.drop_of_length_le (by omega), entsB] at hu
    have hu3 : u ++ ⟨#[10]⟩ = T := by
      have e9 : u ++ (⟨#[]⟩ : ByteArray) = u := ByteArray.append_empty
      rw [← hu, e9]
    have hs3 : u.size + 1 ≤ 1000000000 := by rw [← hu3, ByteArray.size_append] at hz; have e2 : (⟨#[10]⟩ : ByteArray).size = 1 := rfl; omega
    repeat' (first | ((rw [hu3])) | ((first | refine WLA.m rfl rfl ?_ ?_ | refine WLA.st rfl ?_ ?_ | refine WLA.x rfl rfl ?_ (fun x => ?_) | refine WLA.x0 rfl ?_ (fun x => ?_)); first | exact sdT | skip) | (refine Stp.go ?_) | (guard_target =~ WLA _ _ _ _ _ (⟨_, .call ⟨.value (.func 16), _, _⟩, _, _, _, _⟩ :: _) _ _; refine WLA.call rfl rfl (line0_tr hs3) ?_; rintro ⟨⟩) | (refine WPA.ifT ?_) | (refine WPA.ifF ?_) | ((first | refine WPA.dec ?_); first | refine orL ?_ | refine orR ?_) | ((first | refine WPA.ifBt ?_ ?_ | refine WPA.ifBnf ?_ ?_); assumption) | ((first | refine WPA.ifBnt ?_ ?_ | refine WPA.ifBf ?_ ?_); assumption) | ((first | refine WPA.ifs ?_ ?_ | refine WPA.ifB ?_ ?_) <;> intro hc))
    exact QQ.endn rfl () rfl fun w h => h.to
end
end Go.Proofs.YthkhneimfjaohaaGreatDoor
namespace Go.Proofs.YthkhneimfjaohaaGreatDoor
open Go Go.Fw Go.RowKit
set_option linter.unusedVariables false
set_option linter.unusedSimpArgs false
set_option maxRecDepth 100000
set_option maxHeartbeats 16000000
set_option synthInstance.maxHeartbeats 200000
set_option synthInstance.maxSize 100000
attribute [local irreducible] WPA WLA WDA WDQ WDE QQ seqQ blockQ loopQ fnQ OpP OpT Tr TrP SL SLd OwnS LitS Bk BkE Ob
attribute [local irreducible] TblH VocH TabP PrnR
def cntsB : Nat → List (List EV) → ByteArray
  | _, [] => ⟨#[]⟩
  | k, l :: A => ((ngB (k + 1) ++ intS l.length) ++ nlB) ++ cntsB (k + 1) A
def secsB (ws : List ByteArray) (N : Nat) : Nat → List (List EV) → ByteArray
  | _, [] => ⟨#[]⟩
  | k, l :: A => secTB ws (decide (k + 1 = N)) (k + 1) l ++ secsB ws N (k + 1) A
def printB (fr : Int) (ws : List ByteArray) (A : List (List EV)) : ByteArray := (((((dataB ++ nlB) ++ ((fracB ++ intS fr) ++ nlB)) ++ cntsB 0 A) ++ nlB) ++ secsB ws A.length 0 A) ++ (endB ++ nlB)
theorem entE_G {xs : List Int} {p b n words : Int} {last : Bool} (h : entE xs p b n words last = 0) : (((xs.length : Int) = n ∧ ¬ BadW words xs) ∧ CodeP p ∧ CodeP b) ∧ ¬ 1 ∈ xs.drop 1 ∧ (last = true → b = 0) := by
  unfold entE at h
  split at h
  · cases h
  split at h
  · cases h
  split at h
  · cases h
  split at h
  · cases h
  split at h
  · cases h
  · rename_i h1 h2 h3 h4 h5
    have h4' := Classical.byContradiction h4
    exact ⟨⟨⟨Classical.byContradiction h1, h2⟩, h4'.1, h4'.2⟩, h3, fun hl => Classical.byContradiction fun hb => h5 ⟨hl, hb⟩⟩
theorem chkEA_ent {nW : Nat} {top : Bool} {k : Nat} {es ps : List EV} {i : Nat} (h : chkEA nW top k es ps i = 0) : entE (aE es (i : Int)).2 (aE es (i : Int)).1.1 (aE es (i : Int)).1.2 ((k : Int) + 1) nW top = 0 := by
  unfold chkEA at h
  split at h
  · rename_i h1; exact absurd h h1
  · rename_i h1; exact Classical.byContradiction h1
theorem chkLsA_ent {nW : Nat} {top : Bool} {k : Nat} {es ps : List EV} (h : chkLsA nW top k es ps = 0) : (∀ i, i < es.length → chkEA nW top k es ps i = 0) ∧ (k = 0 → es.length = nW) := by
  unfold chkLsA at h
  split at h
  · rename_i h1; exact absurd h h1
  · rename_i h1
    refine ⟨firstN_zero (Classical.byContradiction h1), fun hk => Classical.byContradiction fun hne => ?_⟩
    rw [if_pos ⟨hk, hne⟩] at h
    cases h
theorem aE_mem {es : List EV} {e : EV} (h : e ∈ es) : ∃ i : Nat, i < es.length ∧ aE es (i : Int) = e := by
  obtain ⟨i, hi, rfl⟩ := List.getElem_of_mem h
  exact ⟨i, hi, by unfold aE; rw [Int.toNat_natCast, List.getD_eq_getElem?_getD, List.getElem?_eq_getElem hi]; rfl⟩
theorem chkA_zero {fr : Int} {ws : List ByteArray} {A : List (List EV)} (h : chkA fr ws A = 0) : (0 ≤ fr ∧ fr ≤ 12 ∧ 1 ≤ A.length ∧ A.length ≤ 8) ∧ ofE ws = 0 ∧ ∀ k : Nat, k < A.length → ((∀ e ∈ aL A (k : Int), EntG ws.length (k + 1) e ∧ ¬ 1 ∈ e.2.drop 1 ∧ (k + 1 = A.length → e.1.2 = 0)) ∧ (k = 0 → (aL A (k : Int)).length = ws.length)) := by
  unfold chkA at h
  split at h
  · cases h
  split at h
  · rename_i h1; exact absurd h h1
  · rename_i h1 h2
    refine ⟨by omega, Classical.byContradiction h2, fun k hk => ?_⟩
    have hk2 := firstN_zero h k hk
    unfold chkLA at hk2
    obtain ⟨a1, a2⟩ := chkLsA_ent hk2
    refine ⟨fun e he => ?_, a2⟩
    obtain ⟨i, hi, rfl⟩ := aE_mem he
    obtain ⟨⟨⟨b1, b2⟩, b3, b4⟩, b5, b6⟩ := entE_G (chkEA_ent (a1 i hi))
    refine ⟨⟨by omega, fun x hx => ?_, b3, b4⟩, b5, fun e => b6 (decide_eq_true (by omega))⟩
    constructor
    · exact Classical.byContradiction fun hc => b2 ⟨x, hx, .inl (by omega)⟩
    · exact Classical.byContradiction fun hc => b2 ⟨x, hx, .inr (by omega)⟩
theorem WPA.prn {ro : Option Nat} {n : Nat} {Q : Hnd} {c : Code} {ρ : Env} {w0 : World} {I : Foot} {L : List HP} {b : Nat} (k : WPA ro Tryz.prog n c Q ρ (SL w0 I (PrnR b ⟨#[]⟩ :: L))) : WPA ro Tryz.prog n c Q ρ (SL w0 I (Bk b 51 [.pointer none, .slice none 0 0] :: L)) :=
  WPA.mono (fun w h => PrnR.new.sl h) k
section
variable {kg : SV → List Int} {re : SV → List En} {L : List HP} {w0 : World} {I : Foot}
theorem Print_trK {fr : Int} {w g : SV} {ws : List ByteArray} {gr : List SV} {A : List (List EV)} (hT : TabP w0) (h0 : w0.drawn = 0) (hM : MdI I kg re w g ws gr) (hA : (gr.map fun h => enV kg (re h)) = A) (hz : chkA fr ws A = 0 → (printB fr ws A).size ≤ 900000000) :
    Tr Tryz.prog 8 #[.agg #[.int .i64 fr, .slice w.a w.n w.cap, .slice g.a g.n g.cap]] (SL w0 I L) (fun _ : Unit => .tuple #[.string (if chkA fr ws A = 0 then printB fr ws A else ⟨#[]⟩), .int .i64 (chkA fr ws A)]) (fun _ => SL w0 I L) := by
  refine Tr.intro Tryz.func8 rfl Tryz.ntmps8 rfl ?_
  have hchk := fun {L : List HP} => Check_tr (w0 := w0) (L := L) (fr := fr) hM
  have hcA : chkM kg re fr ws gr = chkA fr ws A := by rw [chkM_A, hA]
  rw [hcA] at hchk
  by_cases hc : chkA fr ws A = 0
  · rw [if_pos hc]
    have hz := hz hc
    obtain ⟨⟨f1, f2, f3, f4⟩, f5, f6⟩ := chkA_zero hc
    rw [hc] at hchk ⊢
    have hAl : A.length = gr.length := by rw [← hA, List.length_map]
    have hr1 : SlI I g SV inferInstance gr := hM.grams
    obtain ⟨T, hTT⟩ : ∃ T, printB fr ws A = T := ⟨_, rfl⟩
    rw [hTT] at hz ⊢
    have nl1 : nlB.size = 1 := rfl
    have ht0 : dataB ++ nlB = dataB ++ nlB := rfl
    obtain ⟨T1, hT1⟩ : ∃ T1, dataB ++ nlB = T1 := ⟨_, rfl⟩
    obtain ⟨T2, hT2⟩ : ∃ T2, T1 ++ ((fracB ++ intS fr) ++ nlB) = T2 := ⟨_, rfl⟩
    obtain ⟨T3, hT3⟩ : ∃ T3, T2 ++ cntsB 0 A = T3 := ⟨_, rfl⟩
    obtain ⟨T4, hT4⟩ : ∃ T4, T3 ++ nlB = T4 := ⟨_, rfl⟩
    obtain ⟨T5, hT5⟩ : ∃ T5, T4 ++ secsB ws A.length 0 A = T5 := ⟨_, rfl⟩
    have hTe : T5 ++ (endB ++ nlB) = T := by rw [← hTT, ← hT5, ← hT4, ← hT3, ← hT2, ← hT1]; rfl
    have z5 := congrArg ByteArray.size hTe
    have z4 := congrArg ByteArray.size hT5
    have z3 := congrArg ByteArray.size hT4
    have z2 := congrArg ByteArray.size hT3
    have z1 := congrArg ByteArray.size hT2
    simp only [ByteArray.size_append] at z1 z2 z3 z4 z5
    have g1 : [dataB].foldl (· ++ ·) ⟨#[]⟩ ++ nlB = T1 := by
      have e9 : (⟨#[]⟩ : ByteArray) ++ dataB = dataB := ByteArray.empty_append
      simp only [List.foldl_cons, List.foldl_nil]
      rw [e9, hT1]
    have g1s : (⟨#[]⟩ : ByteArray).size + sumB [dataB] + 1 ≤ 1000000000 := by decide
    have g2 : [fracB, intS fr].foldl (· ++ ·) T1 ++ nlB = T2 := by simp only [List.foldl_cons, List.foldl_nil]; rw [← hT2]; simp only [ByteArray.append_assoc]
    have g2s : T1.size + sumB [fracB, intS fr] + 1 ≤ 1000000000 := by
      have e1 : sumB [fracB, intS fr] = fracB.size + (intS fr).size := by unfold sumB; simp only [List.map_cons, List.map_nil, List.sum_cons, List.sum_nil, Nat.add_zero]
      rw [e1]; omega
    have hitf := fun {L : List HP} => Itoa_tr (w0 := w0) (I := I) (L := L) (n := fr) hT ⟨by omega, by omega⟩
    repeat' ((fail_if_success (guard_target =~ WPA _ _ _ (.region 5 _ _) _ _ _)); first | ((first | refine WLA.m rfl rfl ?_ ?_ | refine WLA.st rfl ?_ ?_ | refine WLA.x rfl rfl ?_ (fun x => ?_) | refine WLA.x0 rfl ?_ (fun x => ?_)); first | exact sdT | skip) | (refine Stp.go ?_) | (guard_target =~ WLA _ _ _ _ _ (⟨_, .call ⟨.value (.func 15), _, _⟩, _, _, _, _⟩ :: _) _ _; refine WLA.call rfl rfl (hchk) ?_; rintro ⟨⟩) | (refine WPA.ifT ?_) | (refine WPA.ifF ?_) | ((first | refine WPA.dec ?_); first | refine orL ?_ | refine orR ?_) | ((first | refine WPA.ifBt ?_ ?_ | refine WPA.ifBnf ?_ ?_); assumption) | ((first | refine WPA.ifBnt ?_ ?_ | refine WPA.ifBf ?_ ?_); assumption) | ((first | refine WPA.ifs ?_ ?_ | refine WPA.ifB ?_ ?_) <;> intro hc))
    revert x; intro b; revert x; intro t1
    refine WPA.prn ?_
    repeat' (first | ((rw [g1])) | ((rw [g2])) | ((first | refine WLA.m rfl rfl ?_ ?_ | refine WLA.st rfl ?_ ?_ | refine WLA.x rfl rfl ?_ (fun x => ?_) | refine WLA.x0 rfl ?_ (fun x => ?_)); first | exact sdT | skip) | (refine Stp.go ?_) | (guard_target =~ WLA _ _ _ _ _ (⟨_, .call ⟨.value (.func 16), _, _⟩, _, _, _, _⟩ :: _) _ _; refine WLA.call rfl rfl (lineO_tr g1s (by simp)) ?_; rintro ⟨⟩) | (guard_target =~ WLA _ _ _ _ _ (⟨_, .call ⟨.value (.func 16), _, _⟩, _, _, _, _⟩ :: _) _ _; refine WLA.call rfl rfl (lineO_tr g2s (by simp)) ?_; rintro ⟨⟩) | (guard_target =~ WLA _ _ _ _ _ (⟨_, .call ⟨.value (.func 17), _, _⟩, _, _, _, _⟩ :: _) _ _; refine WLA.call rfl rfl (hitf) ?_; rintro ⟨⟩) | (refine WPA.ifT ?_) | (refine WPA.ifF ?_) | ((first | refine WPA.dec ?_); first | refine orL ?_ | refine orR ?_) | ((first | refine WPA.ifBt ?_ ?_ | refine WPA.ifBnf ?_ ?_); assumption) | ((first | refine WPA.ifBnt ?_ ?_ | refine WPA.ifBf ?_ ?_); assumption) | ((first | refine WPA.ifs ?_ ?_ | refine WPA.ifB ?_ ?_) <;> intro hc))
    have hkA : ∀ k : Nat, k < gr.length → A.drop k = enV kg (re (at_ gr (k : Int))) :: A.drop (k + 1) := fun k hk => by
      rw [List.drop_eq_getElem_cons (by omega)]
      congr 1
      have : A[k]? = some (enV kg (re (at_ gr (k : Int)))) := by rw [← hA, List.getElem?_map, List.getElem?_eq_getElem hk, at_nat gr k hk]; rfl
      rw [List.getElem?_eq_getElem (by omega)] at this
      injection this
    refine WPA.loopS (σ := Nat × ByteArray) (fun y => [(1, .pointer (some ⟨t1, 0, none⟩)), (5, .pointer (some ⟨b, 0, none⟩)), (26, .slice g.a g.n g.cap), (27, .int .i64 gr.length), (28, .int .i64 y.1)])
      (fun y => y.1 ≤ gr.length ∧ y.2 ++ cntsB y.1 (A.drop y.1) = T3) (fun y => SL w0 I (PrnR b y.2 :: Bk t1 25 [.int .i64 fr, .slice w.a w.n w.cap, .slice g.a g.n g.cap] :: L)) (fun y => gr.length - y.1) (0, T2) ⟨rfl, rfl, rfl, rfl, rfl, trivial⟩ ⟨Nat.zero_le _, by dsimp only; rw [List.drop_zero]; exact hT3⟩ (fun w h => h.to) ?_
    rintro ⟨k, u⟩ ρ ⟨hk, hu⟩
    dsimp only at hk hu ⊢
    by_cases hlt : k < gr.length
    · have hlt' : (k : Int) < gr.length := by omega
      have hir : (0 : Int) ≤ k ∧ (k : Int) < gr.length := by omega
      have hm : at_ gr (k : Int) ∈ gr := by rw [at_nat gr k hlt]; exact List.getElem_mem _
      rw [hkA k hlt, cntsB] at hu
      have hrv := hM.rows _ hm
      have hrl := hM.rln _ hm
      obtain ⟨v, hv⟩ : ∃ v, at_ gr (k : Int) = v := ⟨_, rfl⟩
      rw [hv] at hu hrv hrl
      obtain ⟨es, hes⟩ : ∃ es, re v = es := ⟨_, rfl⟩
      rw [hes] at hu hrv hrl
      have hel : (enV kg es).length = es.length := by unfold enV; rw [List.length_map]
      rw [hel] at hu
      have en : (k : Int) + 1 = ((k + 1 : Nat) : Int) := by omega
      have q1 : [⟨#[110, 103, 114, 97, 109, 32]⟩, intS ((k + 1 : Nat) : Int), ⟨#[61]⟩, intS (es.length : Int)].foldl (· ++ ·) u ++ nlB = u ++ ((ngB (k + 1) ++ intS (es.length : Int)) ++ nlB) := by
        simp only [List.foldl_cons, List.foldl_nil]; unfold ngB; simp only [ByteArray.append_assoc]
      have z6 := congrArg ByteArray.size hu
      have z7 := congrArg ByteArray.size q1
      simp only [ByteArray.size_append, List.foldl_cons, List.foldl_nil] at z6 z7
      have q1s : u.size + sumB [⟨#[110, 103, 114, 97, 109, 32]⟩, intS ((k + 1 : Nat) : Int), ⟨#[61]⟩, intS (es.length : Int)] + 1 ≤ 1000000000 := by
        have e1 : sumB [⟨#[110, 103, 114, 97, 109, 32]⟩, intS ((k + 1 : Nat) : Int), ⟨#[61]⟩, intS (es.length : Int)] = (⟨#[110, 103, 114, 97, 109, 32]⟩ : ByteArray).size + ((intS ((k + 1 : Nat) : Int)).size + ((⟨#[61]⟩ : ByteArray).size + (intS (es.length : Int)).size)) := by unfold sumB; simp only [List.map_cons, List.map_nil, List.sum_cons, List.sum_nil, Nat.add_zero]
        rw [e1]; omega
      have hi1 := fun {L : List HP} => Itoa_tr (w0 := w0) (I := I) (L := L) (n := ((k + 1 : Nat) : Int)) hT ⟨by omega, by omega⟩
      have hi2 := fun {L : List HP} => Itoa_tr (w0 := w0) (I := I) (L := L) (n := (es.length : Int)) hT ⟨by omega, by omega⟩
      repeat' (first | ((rw [hv])) | ((rw [q1])) | ((guard_target =~ WLA _ _ _ _ _ (⟨_, .call ⟨.value (.func _), _, _⟩, _, _, _, _⟩ :: _) _ _; rw [en])) | ((first | refine WLA.m rfl rfl ?_ ?_ | refine WLA.st rfl ?_ ?_ | refine WLA.x rfl rfl ?_ (fun x => ?_) | refine WLA.x0 rfl ?_ (fun x => ?_)); first | exact sdT | skip) | (refine Stp.go ?_) | (guard_target =~ WLA _ _ _ _ _ (⟨_, .call ⟨.value (.func 17), _, _⟩, _, _, _, _⟩ :: _) _ _; refine WLA.call rfl rfl (hi1) ?_; rintro ⟨⟩) | (guard_target =~ WLA _ _ _ _ _ (⟨_, .call ⟨.value (.func 17), _, _⟩, _, _, _, _⟩ :: _) _ _; refine WLA.call rfl rfl (hi2) ?_; rintro ⟨⟩) | (guard_target =~ WLA _ _ _ _ _ (⟨_, .call ⟨.value (.func 16), _, _⟩, _, _, _, _⟩ :: _) _ _; refine WLA.call rfl rfl (lineO_tr q1s (by simp)) ?_; rintro ⟨⟩) | (refine WPA.ifT ?_) | (refine WPA.ifF ?_) | ((first | refine WPA.dec ?_); first | refine orL ?_ | refine orR ?_) | ((first | refine WPA.ifBt ?_ ?_ | refine WPA.ifBnf ?_ ?_); assumption) | ((first | refine WPA.ifBnt ?_ ?_ | refine WPA.ifBf ?_ ?_); assumption) | ((first | refine WPA.ifs ?_ ?_ | refine WPA.ifB ?_ ?_) <;> intro hc))
      exact QQ.loopS (k + 1, u ++ ((ngB (k + 1) ++ intS (es.length : Int)) ++ nlB)) ⟨rfl, rfl, rfl, rfl, rfl, trivial⟩ ⟨hlt, by dsimp only; rw [← hu]; simp only [ByteArray.append_assoc]⟩ (by dsimp only; omega) (fun w h => h.to)
    have hlt' : ¬ (k : Int) < gr.length := by omega
    rw [List.drop_of_length_le (by omega), cntsB] at hu
    have hu3 : u = T3 := by
      have e9 : u ++ (⟨#[]⟩ : ByteArray) = u := ByteArray.append_empty
      rw [← hu, e9]
    rw [hu3]
    have g4 : T3.size + 1 ≤ 1000000000 := by omega
    repeat' (first | ((rw [hT4])) | ((first | refine WLA.m rfl rfl ?_ ?_ | refine WLA.st rfl ?_ ?_ | refine WLA.x rfl rfl ?_ (fun x => ?_) | refine WLA.x0 rfl ?_ (fun x => ?_)); first | exact sdT | skip) | (refine Stp.go ?_) | (guard_target =~ WLA _ _ _ _ _ (⟨_, .call ⟨.value (.func 16), _, _⟩, _, _, _, _⟩ :: _) _ _; refine WLA.call rfl rfl (line0_tr g4) ?_; rintro ⟨⟩) | (refine WPA.ifT ?_) | (refine WPA.ifF ?_) | ((first | refine WPA.dec ?_); first | refine orL ?_ | refine orR ?_) | ((first | refine WPA.ifBt ?_ ?_ | refine WPA.ifBnf ?_ ?_); assumption) | ((first | refine WPA.ifBnt ?_ ?_ | refine WPA.ifBf ?_ ?_); assumption) | ((first | refine WPA.ifs ?_ ?_ | refine WPA.ifB ?_ ?_) <;> intro hc))
    refine WPA.loopS (σ := Nat × ByteArray) (fun y => [(1, .pointer (some ⟨t1, 0, none⟩)), (5, .pointer (some ⟨b, 0, none⟩)), (46, .slice g.a g.n g.cap), (47, .int .i64 gr.length), (48, .int .i64 y.1)])
      (fun y => y.1 ≤ gr.length ∧ y.2 ++ secsB ws A.length y.1 (A.drop y.1) = T5) (fun y => SL w0 I (PrnR b y.2 :: Bk t1 25 [.int .i64 fr, .slice w.a w.n w.cap, .slice g.a g.n g.cap] :: L)) (fun y => gr.length - y.1) (0, T4) ⟨rfl, rfl, rfl, rfl, rfl, trivial⟩ ⟨Nat.zero_le _, by dsimp only; rw [List.drop_zero]; exact hT5⟩ (fun w h => h.to) ?_
    rintro ⟨m, q⟩ ρ ⟨hm, hq⟩
    dsimp only at hm hq ⊢
    by_cases hltm : m < gr.length
    · have hltm' : (m : Int) < gr.length := by omega
      rw [hkA m hltm, secsB] at hq
      have en : (m : Int) + 1 = ((m + 1 : Nat) : Int) := by omega
      have z6 := congrArg ByteArray.size hq
      simp only [ByteArray.size_append] at z6
      have haL : aL A (m : Int) = enV kg (re (at_ gr (m : Int))) := by
        unfold aL
        rw [Int.toNat_natCast, List.getD_eq_getElem?_getD, ← hA, List.getElem?_map, List.getElem?_eq_getElem hltm, at_nat gr m hltm]; rfl
      have hsec := fun {L L' : List HP} [FindK L PrnR b q L'] => section_tr (w0 := w0) (I := I) (L := L) (L' := L') (b := b) (t := q) (fr := fr) hT h0 hM hltm (by omega) (fun p hp => ((f6 m (by omega)).1 (p.2, kg p.1) (by rw [haL]; exact List.mem_map.2 ⟨p, hp, rfl⟩)).1) (by rw [hAl] at z6; rw [ByteArray.size_append]; omega)
      rw [hAl] at hq
      repeat' (first | ((guard_target =~ WLA _ _ _ _ _ (⟨_, .call ⟨.value (.func _), _, _⟩, _, _, _, _⟩ :: _) _ _; rw [en])) | ((first | refine WLA.m rfl rfl ?_ ?_ | refine WLA.st rfl ?_ ?_ | refine WLA.x rfl rfl ?_ (fun x => ?_) | refine WLA.x0 rfl ?_ (fun x => ?_)); first | exact sdT | skip) | (refine Stp.go ?_) | (guard_target =~ WLA _ _ _ _ _ (⟨_, .call ⟨.value (.func 18), _, _⟩, _, _, _, _⟩ :: _) _ _; refine WLA.call rfl rfl (hsec) ?_; rintro ⟨⟩) | (refine WPA.ifT ?_) | (refine WPA.ifF ?_) | ((first | refine WPA.dec ?_); first | refine orL ?_ | refine orR ?_) | ((first | refine WPA.ifBt ?_ ?_ | refine WPA.ifBnf ?_ ?_); assumption) | ((first | refine WPA.ifBnt ?_ ?_ | refine WPA.ifBf ?_ ?_); assumption) | ((first | refine WPA.ifs ?_ ?_ | refine WPA.ifB ?_ ?_) <;> intro hc))
      exact QQ.loopS (m + 1, q ++ secTB ws (decide (m + 1 = gr.length)) (m + 1) (enV kg (re (at_ gr (m : Int))))) ⟨rfl, rfl, rfl, rfl, rfl, trivial⟩ ⟨hltm, by dsimp only; rw [← hq, hAl]; simp only [ByteArray.append_assoc]⟩ (by dsimp only; omega) (fun w h => h.to)
    have hltm' : ¬ (m : Int) < gr.length := by omega
    rw [List.drop_of_length_le (by omega), secsB] at hq
    have hq3 : q = T5 := by
      have e9 : q ++ (⟨#[]⟩ : ByteArray) = q := ByteArray.append_empty
      rw [← hq, e9]
    rw [hq3]
    have g5 : [endB].foldl (· ++ ·) T5 ++ nlB = T := by simp only [List.foldl_cons, List.foldl_nil]; rw [← hTe]; simp only [ByteArray.append_assoc]
    have g5s : T5.size + sumB [endB] + 1 ≤ 1000000000 := by
      have e1 : sumB [endB] = endB.size := by unfold sumB; simp only [List.map_cons, List.map_nil, List.sum_cons, List.sum_nil, Nat.add_zero]
      rw [e1]; omega
    repeat' (first | ((rw [g5])) | ((first | refine WLA.m rfl rfl ?_ ?_ | refine WLA.st rfl ?_ ?_ | refine WLA.x rfl rfl ?_ (fun x => ?_) | refine WLA.x0 rfl ?_ (fun x => ?_)); first | exact sdT | skip) | (refine Stp.go ?_) | (guard_target =~ WLA _ _ _ _ _ (⟨_, .call ⟨.value (.func 16), _, _⟩, _, _, _, _⟩ :: _) _ _; refine WLA.call rfl rfl (lineO_tr g5s (by simp)) ?_; rintro ⟨⟩) | (guard_target =~ WLA _ _ _ _ _ (⟨_, .call ⟨.value (.func 19), _, _⟩, _, _, _, _⟩ :: _) _ _; refine WLA.call rfl rfl (pString_tr) ?_; rintro ⟨⟩) | (refine WPA.ifT ?_) | (refine WPA.ifF ?_) | ((first | refine WPA.dec ?_); first | refine orL ?_ | refine orR ?_) | ((first | refine WPA.ifBt ?_ ?_ | refine WPA.ifBnf ?_ ?_); assumption) | ((first | refine WPA.ifBnt ?_ ?_ | refine WPA.ifBf ?_ ?_); assumption) | ((first | refine WPA.ifs ?_ ?_ | refine WPA.ifB ?_ ?_) <;> intro hc))
    exact QQ.end_ rfl () rfl fun w h => h.to
  · rw [if_neg hc]
    repeat' (first | ((first | refine WLA.m rfl rfl ?_ ?_ | refine WLA.st rfl ?_ ?_ | refine WLA.x rfl rfl ?_ (fun x => ?_) | refine WLA.x0 rfl ?_ (fun x => ?_)); first | exact sdT | skip) | (refine Stp.go ?_) | (guard_target =~ WLA _ _ _ _ _ (⟨_, .call ⟨.value (.func 15), _, _⟩, _, _, _, _⟩ :: _) _ _; refine WLA.call rfl rfl (hchk) ?_; rintro ⟨⟩) | (refine WPA.ifT ?_) | (refine WPA.ifF ?_) | ((first | refine WPA.dec ?_); first | refine orL ?_ | refine orR ?_) | ((first | refine WPA.ifBt ?_ ?_ | refine WPA.ifBnf ?_ ?_); assumption) | ((first | refine WPA.ifBnt ?_ ?_ | refine WPA.ifBf ?_ ?_); assumption) | ((first | refine WPA.ifs ?_ ?_ | refine WPA.ifB ?_ ?_) <;> intro hc))
    exact QQ.end_ rfl () rfl fun w h => h.to
end
end Go.Proofs.YthkhneimfjaohaaGreatDoor
namespace Go.Proofs.YthkhneimfjaohaaGreatDoor
open Go Go.Fw Go.RowKit
set_option linter.unusedVariables false
set_option linter.unusedSimpArgs false
set_option maxRecDepth 100000
set_option maxHeartbeats 16000000
set_option synthInstance.maxHeartbeats 200000
set_option synthInstance.maxSize 100000
attribute [local irreducible] WPA WLA WDA WDQ WDE QQ seqQ blockQ loopQ fnQ OpP OpT Tr TrP SL SLd OwnS LitS Bk BkE Ob
theorem ba_ext {s t : ByteArray} (h : s.data.toList = t.data.toList) : s = t := ByteArray.ext (Array.toList_inj.1 h)
theorem tl_app (a b : ByteArray) : (a ++ b).data.toList = a.data.toList ++ b.data.toList := by rw [ByteArray.data_append, Array.toList_append]
theorem tl_ext (s : ByteArray) (a b : Nat) : (s.extract a b).data.toList = (s.data.toList.drop a).take (b - a) := by
  simp only [ByteArray.data_extract, Array.toList_extract, List.extract_eq_take_drop]
theorem tl_len (s : ByteArray) : s.data.toList.length = s.size := by rw [Array.length_toList]; rfl
theorem at_of {l1 l2 : List UInt8} {c : UInt8} {s : ByteArray} (h : s.data.toList = l1 ++ c :: l2) (hc : c ∉ l1) : atB s c = l1.length ∧ (befB s c).data.toList = l1 ∧ (aftB s c).data.toList = l2 := by
  have h1 : atB s c = l1.length := by
    unfold atB
    rcases ib_specA s.data.toList c with ⟨h1, h2⟩ | ⟨i, h1, h2, h3⟩
    · exact absurd (by rw [h, List.getElem?_append_right (Nat.le_refl _), Nat.sub_self]; rfl) (h2 l1.length)
    · rw [h1]
      rw [h] at h2 h3
      rcases Nat.lt_trichotomy i l1.length with hi | hi | hi
      · rw [List.getElem?_append_left hi, List.getElem?_eq_getElem hi] at h2
        injection h2 with h2
        exact absurd (h2 ▸ List.getElem_mem hi) hc
      · rw [hi]
      · exact absurd (by rw [List.getElem?_append_right (Nat.le_refl _), Nat.sub_self]; rfl) (h3 l1.length hi)
  refine ⟨h1, ?_, ?_⟩
  · unfold befB
    rw [tl_ext, h1, h, List.drop_zero, Int.toNat_natCast, Nat.sub_zero, List.take_left']
    rfl
  · unfold aftB
    have e1 : ((l1.length : Int) + 1).toNat = (l1 ++ [c]).length := by rw [List.length_append, List.length_singleton]; omega
    have e2 : l1 ++ c :: l2 = (l1 ++ [c]) ++ l2 := by simp
    rw [tl_ext, h1, e1, h, e2, List.drop_left' rfl, List.take_of_length_le]
    rw [← tl_len s, h, e2, List.length_append]; omega
theorem at_no {c : UInt8} {s : ByteArray} : ¬ 0 ≤ atB s c ↔ c ∉ s.data.toList := by
  constructor
  · intro h hm
    obtain ⟨l1, l2, e, hn⟩ : ∃ l1 l2, s.data.toList = l1 ++ c :: l2 ∧ c ∉ l1 := by
      generalize s.data.toList = l at hm
      induction l with
      | nil => cases hm
      | cons x l ih =>
        by_cases hx : c = x
        · subst hx; exact ⟨[], l, rfl, by simp⟩
        · obtain ⟨l1, l2, e, hn⟩ := ih (by rcases List.mem_cons.1 hm with h | h; exact absurd h hx; exact h)
          exact ⟨x :: l1, l2, by rw [e]; rfl, fun k => by rcases List.mem_cons.1 k with k | k; exact hx k; exact hn k⟩
    have := (at_of e hn).1
    omega
  · intro h hp
    unfold atB at hp
    rcases ib_specA s.data.toList c with ⟨h1, h2⟩ | ⟨i, h1, h2, h3⟩
    · rw [h1] at hp; omega
    · exact h (List.mem_of_getElem? h2)
theorem at_cut {a b : ByteArray} {c : UInt8} (h : c ∉ a.data.toList) : 0 ≤ atB ((a ++ oneB c) ++ b) c ∧ befB ((a ++ oneB c) ++ b) c = a ∧ aftB ((a ++ oneB c) ++ b) c = b := by
  have e : ((a ++ oneB c) ++ b).data.toList = a.data.toList ++ c :: b.data.toList := by rw [tl_app, tl_app]; show (_ ++ [c]) ++ _ = _; simp
  obtain ⟨h1, h2, h3⟩ := at_of e h
  exact ⟨by omega, ba_ext h2, ba_ext h3⟩
theorem spl_yes {c : UInt8} {s : ByteArray} (h : 0 ≤ atB s c) : splB s c = befB s c :: splB (aftB s c) c := by unfold splB; rw [cnt_some h, splF]
theorem spl_no {c : UInt8} {s : ByteArray} (h : ¬ 0 ≤ atB s c) : splB s c = [s] := by unfold splB; rw [cnt_none h, splF]
theorem spl_ne (s : ByteArray) (c : UInt8) : splB s c ≠ [] := by
  by_cases h : 0 ≤ atB s c
  · rw [spl_yes h]; simp
  · rw [spl_no h]; simp
end Go.Proofs.YthkhneimfjaohaaGreatDoor
namespace Go.Proofs.YthkhneimfjaohaaGreatDoor
open Go Go.Fw Go.RowKit
set_option linter.unusedVariables false
set_option linter.unusedSimpArgs false
set_option maxRecDepth 100000
set_option maxHeartbeats 16000000
set_option synthInstance.maxHeartbeats 200000
set_option synthInstance.maxSize 100000
attribute [local irreducible] WPA WLA WDA WDQ WDE QQ seqQ blockQ loopQ fnQ OpP OpT Tr TrP SL SLd OwnS LitS Bk BkE Ob
def kn0 : ByteArray := ⟨#[92, 100, 97, 116, 97, 92, 10, 102, 114, 97, 99, 61, 52, 10, 110, 103, 114, 97, 109, 32, 49, 61, 51, 10, 10, 92, 49, 45, 103, 114, 97, 109, 115, 58, 10, 45, 49, 54, 9, 60, 117, 110, 107, 62, 10, 45, 49, 48, 55, 51, 55, 52, 49, 56, 50, 52, 9, 60, 115, 62, 10, 45, 49, 54, 9, 60, 47, 115, 62, 10, 10, 92, 101, 110, 100, 92, 10]⟩
def kn1 : ByteArray := ⟨#[102, 114, 97, 99, 61, 52, 10, 110, 103, 114, 97, 109, 32, 49, 61, 51, 10, 10, 92, 49, 45, 103, 114, 97, 109, 115, 58, 10, 45, 49, 54, 9, 60, 117, 110, 107, 62, 10, 45, 49, 48, 55, 51, 55, 52, 49, 56, 50, 52, 9, 60, 115, 62, 10, 45, 49, 54, 9, 60, 47, 115, 62, 10, 10, 92, 101, 110, 100, 92, 10]⟩
def kn2 : ByteArray := ⟨#[110, 103, 114, 97, 109, 32, 49, 61, 51, 10, 10, 92, 49, 45, 103, 114, 97, 109, 115, 58, 10, 45, 49, 54, 9, 60, 117, 110, 107, 62, 10, 45, 49, 48, 55, 51, 55, 52, 49, 56, 50, 52, 9, 60, 115, 62, 10, 45, 49, 54, 9, 60, 47, 115, 62, 10, 10, 92, 101, 110, 100, 92, 10]⟩
def kn3 : ByteArray := ⟨#[10, 92, 49, 45, 103, 114, 97, 109, 115, 58, 10, 45, 49, 54, 9, 60, 117, 110, 107, 62, 10, 45, 49, 48, 55, 51, 55, 52, 49, 56, 50, 52, 9, 60, 115, 62, 10, 45, 49, 54, 9, 60, 47, 115, 62, 10, 10, 92, 101, 110, 100, 92, 10]⟩
def kn4 : ByteArray := ⟨#[92, 49, 45, 103, 114, 97, 109, 115, 58, 10, 45, 49, 54, 9, 60, 117, 110, 107, 62, 10, 45, 49, 48, 55, 51, 55, 52, 49, 56, 50, 52, 9, 60, 115, 62, 10, 45, 49, 54, 9, 60, 47, 115, 62, 10, 10, 92, 101, 110, 100, 92, 10]⟩
def kn5 : ByteArray := ⟨#[45, 49, 54, 9, 60, 117, 110, 107, 62, 10, 45, 49, 48, 55, 51, 55, 52, 49, 56, 50, 52, 9, 60, 115, 62, 10, 45, 49, 54, 9, 60, 47, 115, 62, 10, 10, 92, 101, 110, 100, 92, 10]⟩
def kn6 : ByteArray := ⟨#[45, 49, 48, 55, 51, 55, 52, 49, 56, 50, 52, 9, 60, 115, 62, 10, 45, 49, 54, 9, 60, 47, 115, 62, 10, 10, 92, 101, 110, 100, 92, 10]⟩
def kn7 : ByteArray := ⟨#[45, 49, 54, 9, 60, 47, 115, 62, 10, 10, 92, 101, 110, 100, 92, 10]⟩
def kn8 : ByteArray := ⟨#[10, 92, 101, 110, 100, 92, 10]⟩
def kn9 : ByteArray := ⟨#[92, 101, 110, 100, 92, 10]⟩
def kn10 : ByteArray := ⟨#[]⟩
def ln0 : ByteArray := ⟨#[92, 100, 97, 116, 97, 92]⟩
def ln1 : ByteArray := ⟨#[102, 114, 97, 99, 61, 52]⟩
def ln2 : ByteArray := ⟨#[110, 103, 114, 97, 109, 32, 49, 61, 51]⟩
def ln3 : ByteArray := ⟨#[]⟩
def ln4 : ByteArray := ⟨#[92, 49, 45, 103, 114, 97, 109, 115, 58]⟩
def ln5 : ByteArray := ⟨#[45, 49, 54, 9, 60, 117, 110, 107, 62]⟩
def ln6 : ByteArray := ⟨#[45, 49, 48, 55, 51, 55, 52, 49, 56, 50, 52, 9, 60, 115, 62]⟩
def ln7 : ByteArray := ⟨#[45, 49, 54, 9, 60, 47, 115, 62]⟩
def ln8 : ByteArray := ⟨#[]⟩
def ln9 : ByteArray := ⟨#[92, 101, 110, 100, 92]⟩
theorem ka0 : aftB kn0 10 = kn1 := by decide +kernel
theorem kb0 : befB kn0 10 = ln0 := by decide +kernel
theorem kc0 : ¬ ¬ 0 ≤ atB kn0 10 := by decide +kernel
theorem ka1 : aftB kn1 10 = kn2 := by decide +kernel
theorem kb1 : befB kn1 10 = ln1 := by decide +kernel
theorem kc1 : ¬ ¬ 0 ≤ atB kn1 10 := by decide +kernel
theorem ka2 : aftB kn2 10 = kn3 := by decide +kernel
theorem kb2 : befB kn2 10 = ln2 := by decide +kernel
theorem kc2 : ¬ ¬ 0 ≤ atB kn2 10 := by decide +kernel
theorem ka3 : aftB kn3 10 = kn4 := by decide +kernel
theorem kb3 : befB kn3 10 = ln3 := by decide +kernel
theorem kc3 : ¬ ¬ 0 ≤ atB kn3 10 := by decide +kernel
theorem ka4 : aftB kn4 10 = kn5 := by decide +kernel
theorem kb4 : befB kn4 10 = ln4 := by decide +kernel
theorem kc4 : ¬ ¬ 0 ≤ atB kn4 10 := by decide +kernel
theorem ka5 : aftB kn5 10 = kn6 := by decide +kernel
theorem kb5 : befB kn5 10 = ln5 := by decide +kernel
theorem kc5 : ¬ ¬ 0 ≤ atB kn5 10 := by decide +kernel
theorem ka6 : aftB kn6 10 = kn7 := by decide +kernel
theorem kb6 : befB kn6 10 = ln6 := by decide +kernel
theorem kc6 : ¬ ¬ 0 ≤ atB kn6 10 := by decide +kernel
theorem ka7 : aftB kn7 10 = kn8 := by decide +kernel
theorem kb7 : befB kn7 10 = ln7 := by decide +kernel
theorem kc7 : ¬ ¬ 0 ≤ atB kn7 10 := by decide +kernel
theorem ka8 : aftB kn8 10 = kn9 := by decide +kernel
theorem kb8 : befB kn8 10 = ln8 := by decide +kernel
theorem kc8 : ¬ ¬ 0 ≤ atB kn8 10 := by decide +kernel
theorem ka9 : aftB kn9 10 = kn10 := by decide +kernel
theorem kb9 : befB kn9 10 = ln9 := by decide +kernel
theorem kc9 : ¬ ¬ 0 ≤ atB kn9 10 := by decide +kernel
theorem ki1 : intS (1) = ⟨#[49]⟩ := by
  unfold intS
  first | rw [if_pos (by decide)] | rw [if_neg (by decide)]
  rw [show (1 : Int).toNat = 1 by decide]
  rw [decL, dif_pos (by decide)]
  decide +kernel
theorem ki3 : intS (3) = ⟨#[51]⟩ := by
  unfold intS
  first | rw [if_pos (by decide)] | rw [if_neg (by decide)]
  rw [show (3 : Int).toNat = 3 by decide]
  rw [decL, dif_pos (by decide)]
  decide +kernel
theorem ki4 : intS (4) = ⟨#[52]⟩ := by
  unfold intS
  first | rw [if_pos (by decide)] | rw [if_neg (by decide)]
  rw [show (4 : Int).toNat = 4 by decide]
  rw [decL, dif_pos (by decide)]
  decide +kernel
theorem kim16 : intS (-16) = ⟨#[45, 49, 54]⟩ := by
  unfold intS
  first | rw [if_pos (by decide)] | rw [if_neg (by decide)]
  rw [show (-(-16) : Int).toNat = 16 by decide]
  rw [decL, dif_neg (by decide), show 16 / 10 = 1 by decide]
  rw [decL, dif_pos (by decide)]
  decide +kernel
theorem kim1073741824 : intS (-1073741824) = ⟨#[45, 49, 48, 55, 51, 55, 52, 49, 56, 50, 52]⟩ := by
  unfold intS
  first | rw [if_pos (by decide)] | rw [if_neg (by decide)]
  rw [show (-(-1073741824) : Int).toNat = 1073741824 by decide]
  rw [decL, dif_neg (by decide), show 1073741824 / 10 = 107374182 by decide]
  rw [decL, dif_neg (by decide), show 107374182 / 10 = 10737418 by decide]
  rw [decL, dif_neg (by decide), show 10737418 / 10 = 1073741 by decide]
  rw [decL, dif_neg (by decide), show 1073741 / 10 = 107374 by decide]
  rw [decL, dif_neg (by decide), show 107374 / 10 = 10737 by decide]
  rw [decL, dif_neg (by decide), show 10737 / 10 = 1073 by decide]
  rw [decL, dif_neg (by decide), show 1073 / 10 = 107 by decide]
  rw [decL, dif_neg (by decide), show 107 / 10 = 10 by decide]
  rw [decL, dif_neg (by decide), show 10 / 10 = 1 by decide]
  rw [decL, dif_pos (by decide)]
  decide +kernel
def nu3 : ByteArray := ⟨#[51]⟩
theorem ko3 : NumOk nu3 := by unfold NumOk DigP; decide +kernel
theorem kv3 : numV nu3 = 3 := (num_yes ko3).1.trans (by decide +kernel)
def nu4 : ByteArray := ⟨#[52]⟩
theorem ko4 : NumOk nu4 := by unfold NumOk DigP; decide +kernel
theorem kv4 : numV nu4 = 4 := (num_yes ko4).1.trans (by decide +kernel)
def num16 : ByteArray := ⟨#[45, 49, 54]⟩
theorem kom16 : NumOk num16 := by unfold NumOk DigP; decide +kernel
theorem kvm16 : numV num16 = -16 := (num_yes kom16).1.trans (by decide +kernel)
def num1073741824 : ByteArray := ⟨#[45, 49, 48, 55, 51, 55, 52, 49, 56, 50, 52]⟩
theorem kom1073741824 : NumOk num1073741824 := by unfold NumOk DigP; decide +kernel
theorem kvm1073741824 : numV num1073741824 = -1073741824 := (num_yes kom1073741824).1.trans (by decide +kernel)
def kng : ByteArray := ⟨#[110, 103, 114, 97, 109, 32, 49, 61]⟩
theorem kngB : ngB 1 = kng := by unfold ngB; rw [show ((1 : Nat) : Int) = 1 from rfl, ki1]; decide +kernel
theorem ksec : secB 1 = ln4 := by unfold secB; rw [show ((1 : Nat) : Int) = 1 from rfl, ki1]; decide +kernel
theorem kcut1 : cutP ln1 fracB = nu4 := by decide +kernel
theorem khas1 : hasP ln1 fracB := by decide +kernel
theorem kcut2 : cutP ln2 kng = nu3 := by decide +kernel
theorem khas2 : hasP ln2 kng := by decide +kernel
def kw0 : ByteArray := ⟨#[60, 117, 110, 107, 62]⟩
theorem ksp0 : splB ln5 9 = [num16, kw0] := by decide +kernel
theorem ksq0 : splB kw0 32 = [kw0] := by decide +kernel
theorem kpi0 : PieceP kw0 := by unfold PieceP; decide +kernel
theorem ken0 : EntOk ((0 + 1 : Nat) : Int) true ln5 := by
  unfold EntOk
  rw [ksp0]
  show (((2 : Nat) : Int) = 2 ∧ (NumOk num16 ∧ ((splB kw0 32).length : Int) = _) ∧ (∀ w ∈ splB kw0 32, PieceP w) ∧ (true = false → _))
  rw [ksq0]
  exact ⟨rfl, ⟨kom16, rfl⟩, (fun w hw => by rw [List.mem_singleton.1 hw]; exact kpi0), (fun h => by cases h)⟩
theorem kgr0 : grF true 5 ln5 = ⟨5 + 1, [kw0], -16, 0⟩ := by
  unfold grF
  rw [ksp0]
  show (⟨5 + 1, splB kw0 32, numV num16, 0⟩ : GrL) = _
  rw [ksq0, kvm16]
def kw1 : ByteArray := ⟨#[60, 115, 62]⟩
theorem ksp1 : splB ln6 9 = [num1073741824, kw1] := by decide +kernel
theorem ksq1 : splB kw1 32 = [kw1] := by decide +kernel
theorem kpi1 : PieceP kw1 := by unfold PieceP; decide +kernel
theorem ken1 : EntOk ((0 + 1 : Nat) : Int) true ln6 := by
  unfold EntOk
  rw [ksp1]
  show (((2 : Nat) : Int) = 2 ∧ (NumOk num1073741824 ∧ ((splB kw1 32).length : Int) = _) ∧ (∀ w ∈ splB kw1 32, PieceP w) ∧ (true = false → _))
  rw [ksq1]
  exact ⟨rfl, ⟨kom1073741824, rfl⟩, (fun w hw => by rw [List.mem_singleton.1 hw]; exact kpi1), (fun h => by cases h)⟩
theorem kgr1 : grF true 6 ln6 = ⟨6 + 1, [kw1], -1073741824, 0⟩ := by
  unfold grF
  rw [ksp1]
  show (⟨6 + 1, splB kw1 32, numV num1073741824, 0⟩ : GrL) = _
  rw [ksq1, kvm1073741824]
def kw2 : ByteArray := ⟨#[60, 47, 115, 62]⟩
theorem ksp2 : splB ln7 9 = [num16, kw2] := by decide +kernel
theorem ksq2 : splB kw2 32 = [kw2] := by decide +kernel
theorem kpi2 : PieceP kw2 := by unfold PieceP; decide +kernel
theorem ken2 : EntOk ((0 + 1 : Nat) : Int) true ln7 := by
  unfold EntOk
  rw [ksp2]
  show (((2 : Nat) : Int) = 2 ∧ (NumOk num16 ∧ ((splB kw2 32).length : Int) = _) ∧ (∀ w ∈ splB kw2 32, PieceP w) ∧ (true = false → _))
  rw [ksq2]
  exact ⟨rfl, ⟨kom16, rfl⟩, (fun w hw => by rw [List.mem_singleton.1 hw]; exact kpi2), (fun h => by cases h)⟩
theorem kgr2 : grF true 7 ln7 = ⟨7 + 1, [kw2], -16, 0⟩ := by
  unfold grF
  rw [ksp2]
  show (⟨7 + 1, splB kw2 32, numV num16, 0⟩ : GrL) = _
  rw [ksq2, kvm16]
theorem khead : headF kn0 0 = .ok ((4, [3]), kn4, 4) := by
  unfold headF
  rw [ka0, ka1, ka2, kb0, kb1, kcut1, kv4]
  rw [if_neg kc0, if_neg (show ¬ ln0 ≠ dataB by decide +kernel), if_neg kc1, if_neg (fun h => h ⟨khas1, ko4⟩), if_neg kc2, kb2]
  rw [cntF, if_neg (fun h => h.2 rfl), if_neg (by decide)]
  rw [show ([] : List Int).length + 1 = 1 from rfl, kngB, kcut2, kv3]
  rw [if_neg (fun h => h ⟨khas2, ko3⟩), if_neg (by decide), if_neg kc3, ka3, kb3, show kn3.size = 52 + 1 by decide +kernel, cntF, if_pos ⟨by decide +kernel, by simp⟩]
  rfl
theorem ksecF : secF ((0 + 1 : Nat) : Int) true 3 kn5 5 = .ok ([⟨6, [kw0], -16, 0⟩, ⟨7, [kw1], -1073741824, 0⟩, ⟨8, [kw2], -16, 0⟩], kn8, 8) := by
  rw [secF, if_neg kc5, kb5, if_neg (fun h => h ken0), ka5, kgr0, show (5 : Int) + 1 = 6 from rfl, secF, if_neg kc6, kb6, if_neg (fun h => h ken1), ka6, kgr1, show (6 : Int) + 1 = 7 from rfl, secF, if_neg kc7, kb7, if_neg (fun h => h ken2), ka7, kgr2, secF]
  rfl
def kgss : List (List GrL) := [[⟨6, [kw0], -16, 0⟩, ⟨7, [kw1], -1073741824, 0⟩, ⟨8, [kw2], -16, 0⟩]]
theorem kall : allF 1 [3] 0 kn4 4 = .ok (kgss, kn10, 11) := by
  rw [allF, if_neg kc4, kb4, show 0 + 1 = 1 from rfl, if_neg (fun h => h ksec.symm), ka4, show decide (((0 : Nat) : Int) = ((1 : Nat) : Int) - 1) = true by decide, show (3 : Int).toNat = 3 from rfl, show (4 : Int) + 1 = 5 from rfl]
  have h := ksecF
  rw [show 0 + 1 = 1 from rfl] at h
  rw [h]
  dsimp only
  rw [if_neg kc8, kb8, if_neg (show ¬ ln8 ≠ ⟨#[]⟩ by decide +kernel), ka8, allF, if_neg kc9, kb9, if_neg (show ¬ ln9 ≠ endB by decide +kernel), ka9, if_neg (show ¬ kn10 ≠ ⟨#[]⟩ by decide +kernel)]
  rfl
def krows : List (List EnL) := [[([0], -16, 0), ([1], -1073741824, 0), ([2], -16, 0)]]
theorem krow : rowsF (idF (kgss.getD 0 [])) kgss = .ok krows := by rfl
def kA : List (List EV) := [[((-16, 0), [0]), ((-1073741824, 0), [1]), ((-16, 0), [2])]]
theorem kofE : ofE [kw0, kw1, kw2] = 0 := ofE_ok ⟨⟨by decide, by decide +kernel⟩, by decide, fun j h1 h2 => absurd h1 (by simp at h2; omega)⟩
theorem kchk : chkA 4 [kw0, kw1, kw2] kA = 0 := by
  unfold chkA
  rw [if_neg (by decide), kofE, if_neg (fun h => h rfl)]
  decide +kernel
theorem kparse : parseF kn0 = .ok (4, [kw0, kw1, kw2], kA) := by
  unfold parseF
  rw [khead]
  dsimp only
  rw [show ([3] : List Int).length = 1 from rfl, kall]
  dsimp only
  rw [krow]
  dsimp only
  rw [show wdsF (kgss.getD 0 []) = [kw0, kw1, kw2] from rfl, show evs krows = kA from rfl, kchk, if_neg (fun h => h rfl)]
theorem kprint : printB 4 [kw0, kw1, kw2] kA = kn0 := by
  unfold printB kA
  rw [cntsB, cntsB, secsB, secsB, show 0 + 1 = 1 from rfl, kngB]
  unfold secTB
  rw [ksec, entsB, entsB, entsB, entsB]
  unfold entB
  dsimp only
  rw [ki4, kim16, kim1073741824]
  simp only [List.length_cons, List.length_nil]
  rw [show ((0 + 1 + 1 + 1 : Nat) : Int) = 3 from rfl, ki3, show wordsB [kw0, kw1, kw2] [0] = [kw0] from rfl, show wordsB [kw0, kw1, kw2] [1] = [kw1] from rfl, show wordsB [kw0, kw1, kw2] [2] = [kw2] from rfl, show joinB [kw0] spB = kw0 by decide +kernel, show joinB [kw1] spB = kw1 by decide +kernel, show joinB [kw2] spB = kw2 by decide +kernel]
  decide +kernel
def kz0 : ByteArray := ⟨#[92, 100, 97, 116, 97, 92, 10, 102, 114, 97, 99, 61, 48, 52, 10]⟩
def kz1 : ByteArray := ⟨#[102, 114, 97, 99, 61, 48, 52, 10]⟩
def kzl : ByteArray := ⟨#[102, 114, 97, 99, 61, 48, 52]⟩
def kzn : ByteArray := ⟨#[48, 52]⟩
theorem kzbad : ¬ NumOk kzn := by unfold NumOk DigP; decide +kernel
theorem kzparse : parseF kz0 = .error (2, 3) := by
  unfold parseF headF
  rw [show aftB kz0 10 = kz1 by decide +kernel, show befB kz0 10 = dataB by decide +kernel, if_neg (show ¬ ¬ 0 ≤ atB kz0 10 by decide +kernel), if_neg (fun h => h rfl), if_neg (show ¬ ¬ 0 ≤ atB kz1 10 by decide +kernel), show befB kz1 10 = kzl by decide +kernel, if_pos (fun h => kzbad (by have := h.2; rwa [show cutP kzl fracB = kzn by decide +kernel] at this))]
  rfl
end Go.Proofs.YthkhneimfjaohaaGreatDoor
namespace Go.Fw
open Go Go.RowKit
set_option linter.unusedVariables false
set_option linter.unusedSimpArgs false
def dfc (g : FuncId) (caps : List Value) : Deferred := { target := .fn (.func g) caps.toArray, args := #[] }
section
variable {P : Program}
theorem wl_defer {n m : Nat} {ops : Array Oper} {Q : Exit → Act → World → Prop} {rest : List Oper} {a : Act} {w : World} {ρ : Env} {ds : List Deferred} {t : Tmp} {g : FuncId} {caps : List Value} {ts : Array TypeId} {ty : TypeId} {pos : String} {af : Array Edge} (ha : Agree n ρ a ds) (hv : evalE ρ (.tmp t) = .func (.func g) #[] caps.toArray)
    (k : wpListIn (FR none) m P ops Q rest { a with defers := dfc g caps :: a.defers } w) : wpListIn (FR none) m P ops Q (⟨none, .defer { callee := .value (.tmp t), args := #[], argTypes := ts }, ty, pos, af, none⟩ :: rest) a w := by
  refine wpListIn_plain rfl fun K hK => ?_
  unfold Oper.wpIn
  rw [ha.eval]
  refine ⟨fun _ _ => trivial, ?_⟩
  have e : (Oper.semAt (FR none).round (evalE ρ) ⟨none, .defer { callee := .value (.tmp t), args := #[], argTypes := ts }, ty, pos, af, none⟩).run P w = .ok (.defer (dfc g caps)) w := by
    rw [show (FR none).round = none from rfl, Oper.semAt_none]
    simp [execOp, resolve, hv, Deferred.ofValue, dfc, go_sem]
  rw [e, Oper.uponIn_defer]
  exact hK _ _ k
theorem wl_mkfn {n m : Nat} {ops : Array Oper} {Q : Exit → Act → World → Prop} {rest : List Oper} {a : Act} {w : World} {ρ : Env} {ds : List Deferred} {d : Tmp} {g : FuncId} {xs : List Operand} {vs : List Value} {ty : TypeId} {pos : String} {af : Array Edge} (ha : Agree n ρ a ds) [hx : EvAll ρ xs vs] (hd : Nat.blt d n = true)
    (k : ∀ a', Agree n (put1 ρ d (.func (.func g) #[] vs.toArray)) a' ds → wpListIn (FR none) m P ops Q rest a' w) : wpListIn (FR none) m P ops Q (⟨some d, .makeFunc (.func g) #[] xs.toArray, ty, pos, af, none⟩ :: rest) a w := by
  refine wpListIn_plain rfl fun K hK => ?_
  unfold Oper.wpIn
  rw [ha.eval]
  refine ⟨fun _ _ => trivial, ?_⟩
  have e : (Oper.semAt (FR none).round (evalE ρ) ⟨some d, .makeFunc (.func g) #[] xs.toArray, ty, pos, af, none⟩).run P w = .ok (.value (.func (.func g) #[] vs.toArray)) w := by
    rw [show (FR none).round = none from rfl, Oper.semAt_none]
    simp [execOp, Instr.makeFunc, go_sem, ← hx.out]
  rw [e]
  refine hK _ _ (k _ ?_)
  have h1 : Agree n (upd n ρ d (.func (.func g) #[] vs.toArray)) (a.put (some d) (.func (.func g) #[] vs.toArray)) ds := ha.put (some d) (.func (.func g) #[] vs.toArray)
  rw [upd_put1 hd] at h1
  exact h1
theorem wl_mkdefer {n m : Nat} {ops : Array Oper} {Q : Exit → Act → World → Prop} {a : Act} {w : World} {ρ : Env} {d : Tmp} {g : FuncId} {xs : List Operand} {vs : List Value} {ty ty2 : TypeId} {pos pos2 : String} {af af2 : Array Edge} {ts : Array TypeId} (ha : Agree n ρ a []) (hm : ρ.ms = []) [hx : EvAll ρ xs vs] (hd : Nat.blt d n = true)
    (k : ∀ a', Agree n (put1 ρ d (.func (.func g) #[] vs.toArray)) a' [dfc g vs] → Q .normal a' w) : wpListIn (FR none) m P ops Q [⟨some d, .makeFunc (.func g) #[] xs.toArray, ty, pos, af, none⟩, ⟨none, .defer { callee := .value (.tmp d), args := #[], argTypes := ts }, ty2, pos2, af2, none⟩] a w := by
  refine wl_mkfn ha hd fun a' ha' => ?_
  refine wl_defer (caps := vs) (g := g) ha' ?_ ?_
  · show (put1 ρ d _) d = _
    unfold put1
    show (bif Nat.beq d d then _ else _) = _
    rw [Nat.beq_refl]; rfl
  · refine k _ ⟨ha'.sz, ha'.get, ?_⟩
    show dfc g vs :: a'.defers = marks ρ.ms ++ [dfc g vs]
    have h1 := ha'.df
    have h2 : (put1 ρ d (.func (.func g) #[] vs.toArray)).ms = ρ.ms := rfl
    rw [h2, hm] at h1
    rw [h1, hm]; rfl
def HasT (t : Array Value) : List (Nat × Value) → Prop
  | [] => True
  | (i, v) :: l => t.getD i undef = v ∧ HasT t l
theorem HasT.of {t : Array Value} {ρ : Env} (h : ∀ i, t.getD i undef = ρ i) : ∀ {l : List (Nat × Value)}, Has ρ l → HasT t l
  | [], _ => trivial
  | (i, v) :: l, hh => ⟨(h i).trans hh.1, HasT.of h hh.2⟩
theorem HasT.env {t : Array Value} : ∀ {l : List (Nat × Value)}, HasT t l → Has ⟨fun i => t.getD i undef, []⟩ l
  | [], _ => trivial
  | (i, v) :: l, hh => ⟨hh.1, hh.2.env⟩
def awayB (o : Oper) (K : List (Nat × Value)) : Bool := K.all fun p => match o.dst with | some d => !Nat.beq d p.1 | none => true
theorem HasT.put {o : Oper} {v : Value} {a : Act} : ∀ {K : List (Nat × Value)}, awayB o K = true → HasT a.tmps K → HasT (a.put o.dst v).tmps K
  | [], _, _ => trivial
  | (i, u) :: K, h, hh => by
    unfold awayB at h
    rw [List.all_cons, Bool.and_eq_true] at h
    refine ⟨?_, HasT.put (o := o) (K := K) h.2 hh.2⟩
    cases hd : o.dst with
    | none => exact hh.1
    | some d =>
      have h1 := h.1
      rw [hd] at h1
      have hne : d ≠ i := fun e => by subst e; simp at h1
      show (a.tmps.setIfInBounds d v).getD i undef = u
      rw [getD_setIfInBounds, if_neg (fun e => hne e.1.symm)]
      exact hh.1
theorem wpList_keep {F : Fence} {n : Nat} {ops : Array Oper} {K : List (Nat × Value)} {Q : Exit → Act → World → Prop} (hO : ¬ LetsOut Q) : ∀ (l : List Oper) (a : Act) (w : World), (l.all fun o => awayB o K) = true → HasT a.tmps K → wpListIn F n P ops Q l a w → wpListIn F n P ops (fun e a w => Q e a w ∧ HasT a.tmps K) l a w
  | [], a, w, _, hk, h => ⟨h, hk⟩
  | o :: l, a, w, hl, hk, h => by
    rw [List.all_cons, Bool.and_eq_true] at hl
    rw [wpListIn] at h ⊢
    have ih := fun (v : Value) (a : Act) (w : World) (hk : HasT a.tmps K) (h : wpListIn F n P ops Q l (a.put o.dst v) w) => wpList_keep hO l (a.put o.dst v) w hl.2 (HasT.put hl.1 hk) h
    split
    · rename_i hw
      rw [if_pos hw] at h
      unfold Oper.wpIn at h ⊢
      refine ⟨h.1, ?_⟩
      have h2 := h.2
      revert h2
      generalize (Oper.semAt F.round a.eval o).run P w = r
      intro h2
      cases r with
      | ok x w' =>
        cases x <;> simp only [Oper.uponIn] at h2 ⊢
        case value v => exact ih v a w' hk h2
        case skip => exact ih undef a w' hk h2
        case defer d => exact ih undef { a with defers := d :: a.defers } w' hk h2
        case enter f args =>
          refine ⟨h2.1, h2.2.mono ?_⟩
          intro e w'' he
          cases e with
          | returned v => exact ih v a w'' hk he
          | panicked c => exact ⟨he, hk⟩
          | outgrown => exact absurd he hO
        case row row args => exact ⟨h2.1, h2.2.mono fun v w'' he => ih v a w'' hk he⟩
        case round l f tmps assign body =>
          refine ⟨h2.1, h2.2.mono ?_⟩
          intro e w'' he
          cases e with
          | returned v => exact ih v a w'' hk he
          | panicked c => exact ⟨he, hk⟩
          | outgrown => exact absurd he hO
      | halt x w' => cases x <;> simp only [Oper.uponIn] at h2 ⊢ <;> exact ⟨h2, hk⟩
    · rename_i hw
      rw [if_neg hw] at h
      exact ⟨h.1, ih undef a w hk h.2⟩
def dfP (D : Deferred) (Qr : Array Value → World → Prop) (Qp : List PanicEntry → Array Value → World → Prop) : Exit → Act → World → Prop
  | .ret, a, w => a.defers = [D] ∧ Qr a.tmps w
  | .panic c, a, w => a.defers = [D] ∧ Qp c a.tmps w
  | _, _, _ => False
def dfR (Qr : Env → World → Prop) : Hnd
  | .ret, ρ, w => ρ.ms = [] ∧ Qr ρ w
  | _, _, _ => False
theorem QQ.dret {ρ : Env} {A : World → Prop} {Qr : Env → World → Prop} (h : ∀ w, A w → Qr ρ w) (hmk : ρ.ms = [] := by rfl) : QQ (dfR Qr) .ret ρ A := fun w hA => ⟨hmk, h w hA⟩
theorem wp_dfR {N : Nat} {D : Deferred} {Qr : Array Value → World → Prop} {Qr' : Env → World → Prop} {Qp : List PanicEntry → Array Value → World → Prop} {c : Code} {ρ : Env} {A : World → Prop} {a : Act} {w : World} (ha : Agree N ρ a [D]) (hA : A w) (h : WPA none P N c (dfR Qr') ρ A)
    (hr : ∀ ρ w (t : Array Value), (∀ i, t.getD i undef = ρ i) → Qr' ρ w → Qr t w) : c.wpIn (FR none) 0 P (dfP D Qr Qp) a w :=
  wpIn_mono (h (0, [D]) a w ha hA) fun e a w hq => by
    cases e with
    | ret => obtain ⟨ρ, ha, hm, hq⟩ := hq; exact ⟨by rw [ha.df, hm]; rfl, hr ρ w a.tmps ha.get hq⟩
    | normal => obtain ⟨ρ, ha, hq⟩ := hq; exact hq.elim
    | panic c => obtain ⟨ρ, ha, hq⟩ := hq; exact hq.elim
    | outgrown => exact hq.elim
    | exit id => obtain ⟨ρ, ha, hq⟩ := hq; exact hq.elim
    | goto l => obtain ⟨ρ, ha, hq⟩ := hq; exact hq.elim
def rgX (Qn : Env → World → Prop) (Qp : List PanicEntry → World → Prop) : Hnd
  | .normal, ρ, w => ρ.ms = [] ∧ Qn ρ w
  | .panic c, ρ, w => ρ.ms = [] ∧ Qp c w
  | _, _, _ => False
instance {Qn : Env → World → Prop} {Qp : List PanicEntry → World → Prop} : Pas (rgX Qn Qp) (rgX Qn Qp) := ⟨fun _ _ _ h => h⟩
theorem QQ.rthrown {ρ : Env} {A : World → Prop} {ε : Type} {pv : ε → Value} {E : ε → World → Prop} {Qn : Env → World → Prop} {c : List PanicEntry} (y : ε) (hc : c = pan1 (pv y)) (hB : ∀ w, A w → E y w) (hmk : ρ.ms = [] := by rfl) :
    QQ (rgX Qn fun c w => ∃ y, c = pan1 (pv y) ∧ E y w) (.panic c) ρ A := fun w hA => ⟨hmk, y, hc, hB w hA⟩
theorem QQ.rend {ρ : Env} {A : World → Prop} {Qn : Env → World → Prop} {Qp : List PanicEntry → World → Prop} (h : ∀ w, A w → Qn ρ w) (hmk : ρ.ms = [] := by rfl) : QQ (rgX Qn Qp) .normal ρ A := fun w hA => ⟨hmk, h w hA⟩
theorem wp_rgX {N : Nat} {D : Deferred} {Qr : Array Value → World → Prop} {Qp : List PanicEntry → Array Value → World → Prop} {Qn : Env → World → Prop} {Qp' : List PanicEntry → World → Prop} {id : Nat} {l : List Oper} {rest : Code} {ρ : Env} {A : World → Prop} {a : Act} {w : World} (K : List (Nat × Value)) (hl : (l.all fun o => awayB o K) = true)
    (ha : Agree N ρ a [D]) (hK : Has ρ K) (hA : A w) (h : WLA none P N l.toArray (rgX Qn Qp') l ρ A) (hn : ∀ ρ w a, Agree N ρ a [D] → ρ.ms = [] → Qn ρ w → rest.wpIn (FR none) 0 P (dfP D Qr Qp) a w)
    (hp : ∀ c w (t : Array Value), HasT t K → Qp' c w → Qp c t w) : ((Code.region id l.toArray false).seq rest).wpIn (FR none) 0 P (dfP D Qr Qp) a w := by
  have h1 := wpList_keep (P := P) (K := K) (ops := l.toArray) (F := FR none) (n := 0) (Q := QA N [D] (rgX Qn Qp')) (fun ⟨_, _, h⟩ => h) l a w hl (HasT.of ha.get hK) (h (0, [D]) a w ha hA)
  refine wpIn_seq (wpIn_mono (wpIn_region_lit h1) ?_)
  rintro e a w ⟨hq, hk⟩
  cases e with
  | normal => obtain ⟨ρ, ha, hm, hq⟩ := hq; exact hn ρ w a ha hm hq
  | panic c => obtain ⟨ρ, ha, hm, hq⟩ := hq; exact ⟨by rw [ha, hm]; rfl, hp c w a.tmps hk hq⟩
  | ret => obtain ⟨ρ, ha, hq⟩ := hq; exact hq.elim
  | outgrown => exact hq.elim
  | exit id => obtain ⟨ρ, ha, hq⟩ := hq; exact hq.elim
  | goto l => obtain ⟨ρ, ha, hq⟩ := hq; exact hq.elim
theorem Tr.introD {f : FuncId} {fn : Func} {c0 rest : Code} {id : Nat} {l : List Oper} {args : List Value} {A : World → Prop} {τ : Type} {val : τ → Value} {B : τ → World → Prop} {N : Nat} {δ : Type} (d : δ → Deferred) (K0 K1 : δ → Env → World → Prop) (Qr : δ → Array Value → World → Prop) (Qp : δ → List PanicEntry → Array Value → World → Prop)
    (hf : P.funcs[f]? = some fn) (hb : fn.body = some (c0.seq ((Code.region id l.toArray false).seq rest))) (hn : fn.ntmps = N) (hle : Nat.ble args.length N = true)
    (h0 : WPA none P N c0 (fun e ρ w => e = .normal ∧ ρ.ms = [] ∧ ∃ z, K0 z ρ w) (envOf args) A)
    (h1 : ∀ z ρ w a, Agree N ρ a [] → ρ.ms = [] → K0 z ρ w → ∀ Q : Exit → Act → World → Prop, (∀ ρ' a' w', Agree N ρ' a' [d z] → ρ'.ms = [] → K1 z ρ' w' → Q .normal a' w') → wpListIn (FR none) 0 P l.toArray Q l a w)
    (h2 : ∀ z ρ w a, Agree N ρ a [d z] → ρ.ms = [] → K1 z ρ w → rest.wpIn (FR none) 0 P (dfP (d z) (Qr z) (Qp z)) a w)
    (hr : ∀ z w (tmps : Array Value), Qr z tmps w → LeavesInM Fence.wide 0 P fn tmps (fun e w' => ∃ x, e = .returned (val x) ∧ B x w') [d z] .returning w)
    (hp : ∀ z c w (tmps : Array Value), Qp z c tmps w → LeavesInM Fence.wide 0 P fn tmps (fun e w' => ∃ x, e = .returned (val x) ∧ B x w') [d z] (.panicking c) w) : Tr P f args.toArray A val B := by
  intro w hA
  subst hn
  have leave : ∀ (z : δ) (e : Exit) (a : Act) (w : World), dfP (d z) (Qr z) (Qp z) e a w → bodyPostM (FR none) 0 P fn (fun e w' => ∃ x, e = .returned (val x) ∧ B x w') e a w := by
    intro z e a w hq
    cases e with
    | ret => show LeavesInM _ _ _ _ _ _ a.defers _ _; rw [hq.1]; exact hr z w a.tmps hq.2
    | panic c => show LeavesInM _ _ _ _ _ _ a.defers _ _; rw [hq.1]; exact hp z c w a.tmps hq.2
    | normal => exact hq.elim
    | outgrown => exact hq.elim
    | exit id => exact hq.elim
    | goto l => exact hq.elim
  refine callsIn_wide.1 (callsIn_of_wp_marks (n := 0) hf hb trivial (wpIn_seq (wpIn_mono (h0 (0, []) _ w ⟨?_, ?_, rfl⟩ hA) ?_)))
  · have : args.length ≤ fn.ntmps := Nat.le_of_ble_eq_true hle
    simp; omega
  · intro i
    simp only [envOf, Array.getD_eq_getD_getElem?, List.getD_eq_getElem?_getD]
    rw [Array.getElem?_append]
    split
    · rename_i hi; simp
    · rename_i hi
      have : args[i]? = none := by simp at hi; simp [hi]
      rw [this]
      rw [Array.getElem?_replicate]
      split <;> rfl
  · intro e a w1 hq
    cases e with
    | normal =>
      obtain ⟨ρ, ha, _, hm, z, hk⟩ := hq
      show ((Code.region id l.toArray false).seq rest).wpIn _ _ _ _ a w1
      refine wpIn_seq (wpIn_region_lit (h1 z ρ w1 a ha hm hk _ ?_))
      intro ρ' a' w' ha' hm' hk'
      exact wpIn_mono (h2 z ρ' w' a' ha' hm' hk') (leave z)
    | panic c => obtain ⟨ρ, _, he, _⟩ := hq; cases he
    | outgrown => exact hq.elim
    | ret => obtain ⟨ρ, _, he, _⟩ := hq; cases he
    | exit id => obtain ⟨ρ, _, he, _⟩ := hq; cases he
    | goto l => obtain ⟨ρ, _, he, _⟩ := hq; cases he
theorem wpS_walk {N : Nat} {c : Code} {ρ : Env} {fn : Func} {c₀ : Frame} {cs : List Frame} {U : FrameMode} {a : Act} {w : World} {R : World → Prop} (ha : Agree N ρ a []) (hres : fn.results = #[])
    (h : WPA none P N c (fun e ρ w => (e = .normal ∨ e = .ret) ∧ ρ.ms = [] ∧ R w) ρ (fun u => u = w)) :
    c.wpSIn Fence.wide 0 P (bodyPostS P fn c₀ cs fun e u' w' => e = .returned (.tuple #[]) ∧ u' = U ∧ R w') a ({ c₀ with mode := U } :: cs) w := by
  refine wpSIn_of_wpIn rfl (wpIn_mono (h (0, []) a w ha rfl) ?_)
  intro e a' w' hq
  have fin : ∀ ρ' : Env, Agree N ρ' a' [] → ρ'.ms = [] → R w' → a'.defers = [] ∧ ∃ u', ({ c₀ with mode := U } :: cs : List Frame) = { c₀ with mode := u' } :: cs ∧ ∃ v, (results fn a'.tmps).run P w' = .ok v w' ∧ (Ending.returned v = .returned (.tuple #[]) ∧ u' = U ∧ R w') := fun ρ' ha' hm hR =>
    ⟨by rw [ha'.df, hm]; rfl, U, rfl, _, results_none (by rw [hres]) _ _ _, rfl, rfl, hR⟩
  cases e with
  | normal => obtain ⟨ρ', ha', _, hm, hR⟩ := hq; exact fin ρ' ha' hm hR
  | ret => obtain ⟨ρ', ha', _, hm, hR⟩ := hq; exact fin ρ' ha' hm hR
  | panic x => obtain ⟨ρ', _, h1, _⟩ := hq; rcases h1 with h1 | h1 <;> cases h1
  | outgrown => exact hq.elim
  | exit id => obtain ⟨ρ', _, h1, _⟩ := hq; rcases h1 with h1 | h1 <;> cases h1
  | goto l => obtain ⟨ρ', _, h1, _⟩ := hq; rcases h1 with h1 | h1 <;> cases h1
theorem wpS_walkL {N : Nat} {c : Code} {fn : Func} {c₀ : Frame} {cs : List Frame} {U : FrameMode} {a : Act} {w : World} {R : World → Prop} (l : List (Nat × Value)) (hsz : a.tmps.size = N) (hdf : a.defers = []) (hl : Has ⟨fun i => a.tmps.getD i undef, []⟩ l) (hres : fn.results = #[])
    (h : ∀ f, WPA none P N c (fun e ρ w => (e = .normal ∨ e = .ret) ∧ ρ.ms = [] ∧ R w) (envM [] (envL l ⟨f, []⟩)) (fun u => u = w)) :
    c.wpSIn Fence.wide 0 P (bodyPostS P fn c₀ cs fun e u' w' => e = .returned (.tuple #[]) ∧ u' = U ∧ R w') a ({ c₀ with mode := U } :: cs) w := by
  have hk := h fun i => a.tmps.getD i undef
  rw [envL_has hl] at hk
  exact wpS_walk (ρ := ⟨fun i => a.tmps.getD i undef, []⟩) ⟨hsz, fun i => rfl, by rw [hdf]; rfl⟩ hres hk
end
end Go.Fw
namespace Go.Proofs.YthkhneimfjaohaaGreatDoor
open Go Go.Fw Go.RowKit
set_option linter.unusedVariables false
set_option linter.unusedSimpArgs false
set_option maxRecDepth 100000
set_option maxHeartbeats 16000000
set_option synthInstance.maxHeartbeats 200000
set_option synthInstance.maxSize 100000
attribute [local irreducible] WPA WLA WDA WDQ WDE QQ seqQ blockQ loopQ fnQ OpP OpT Tr TrP SL SLd OwnS LitS Bk BkE Ob
theorem as_yes (v : Value) (w : World) : (Instr.typeAssert (.iface 60 v) 20 60 true).run Tryz.prog w = .ok (.tuple #[v, .bool true]) w := by kernel_rfl
theorem as_nil (w : World) : (Instr.typeAssert .nilIface 20 60 true).run Tryz.prog w = .ok (.tuple #[.agg #[.int .i64 0, .int .i64 0], .bool false]) w := by kernel_rfl
theorem bk_self (b : Nat) (t : TypeId) (cs : List Value) : Bk b t cs [(b, .cells cs.toArray t (0, 0))] := by
  unfold Bk; rfl
section
variable {w0 : World} {I : Foot} {L : List HP}
theorem clo_idle {p q r : Nat} {w : World} (hw : SL w0 I L w) : CallsDIn Fence.wide 0 Tryz.prog 24 #[.pointer (some ⟨p, 0, none⟩), .pointer (some ⟨q, 0, none⟩), .pointer (some ⟨r, 0, none⟩)] .returning w fun e u' w' => e = .returned (.tuple #[]) ∧ u' = .returning ∧ SL w0 I L w' := by
  refine callsDIn_of_wpSIn Tryz.func24 rfl (by simp [Fence.wide]) fun c₀ cs hu => ?_
  have hc : c₀ = { c₀ with mode := .returning } := by cases c₀; simp_all
  rw [hc]
  clear hc
  apply wpSIn_seq
  apply wpSIn_region
  simp [wpOpsSIn, go_sem, recoverD, Tryz.ntmps24, Exit.thenS, as_nil]
  refine wpS_walkL (N := 16) [(0, .pointer (some ⟨p, 0, none⟩)), (4, .bool false)] ?_ ?_ ?_ rfl fun f => ?_
  · simp
  · rfl
  · refine ⟨?_, ?_, trivial⟩
    · simp
    · simp
  refine WPA.mono (B := SL w0 I (Bk w.heap.size 60 [.int .i64 0, .int .i64 0] :: L)) (fun u hu => by subst hu; exact hw.push _ _ (bk_self _ _ _)) ?_
  repeat' (first | ((first | refine WLA.m rfl rfl ?_ ?_ | refine WLA.st rfl ?_ ?_ | refine WLA.x rfl rfl ?_ (fun x => ?_) | refine WLA.x0 rfl ?_ (fun x => ?_)); first | exact sdT | skip) | (refine Stp.go ?_) | (refine WPA.ifT ?_) | (refine WPA.ifF ?_) | ((first | refine WPA.dec ?_); first | refine orL ?_ | refine orR ?_) | ((first | refine WPA.ifBt ?_ ?_ | refine WPA.ifBnf ?_ ?_); assumption) | ((first | refine WPA.ifBnt ?_ ?_ | refine WPA.ifBf ?_ ?_); assumption) | ((first | refine WPA.ifs ?_ ?_ | refine WPA.ifB ?_ ?_) <;> intro hc))
  unfold QQ
  exact fun w h => ⟨.inl rfl, rfl, Ent.drop1.sl h⟩
theorem clo_caught {p q r : Nat} {w : World} {y : Int × Int} {a0 b0 c0 : Value} {l0 e0 : Int} (hw : SL w0 I (Bk p 25 [a0, b0, c0] :: Bk q 3 [.int .i64 l0] :: Bk r 28 [.int .i64 e0] :: L) w) :
    CallsDIn Fence.wide 0 Tryz.prog 24 #[.pointer (some ⟨p, 0, none⟩), .pointer (some ⟨q, 0, none⟩), .pointer (some ⟨r, 0, none⟩)] (.panicking (pan1 (wrV y))) w fun e u' w' => e = .returned (.tuple #[]) ∧ u' = .panicking [{ v := wrV y, recovered := true }] ∧ SL w0 I (Bk p 25 [.int .i64 0, .slice none 0 0, .slice none 0 0] :: Bk q 3 [.int .i64 y.1] :: Bk r 28 [.int .i64 y.2] :: L) w' := by
  refine callsDIn_of_wpSIn Tryz.func24 rfl (by simp [Fence.wide]) fun c₀ cs hu => ?_
  unfold pan1 at hu
  apply wpSIn_seq
  apply wpSIn_region
  simp [wpOpsSIn, go_sem, recoverD, hu, Tryz.ntmps24, Exit.thenS, as_yes, wrV]
  refine wpS_walkL (N := 16) [(0, .pointer (some ⟨p, 0, none⟩)), (1, .pointer (some ⟨q, 0, none⟩)), (2, .pointer (some ⟨r, 0, none⟩)), (3, .pointer (some ⟨w.heap.size, 0, none⟩)), (4, .bool true)] ?_ ?_ ?_ rfl fun f => ?_
  · simp
  · rfl
  · refine ⟨?_, ?_, ?_, ?_, ?_, trivial⟩ <;> simp
  refine WPA.mono (B := SL w0 I (Bk w.heap.size 60 [.int .i64 y.1, .int .i64 y.2] :: Bk p 25 [a0, b0, c0] :: Bk q 3 [.int .i64 l0] :: Bk r 28 [.int .i64 e0] :: L)) (fun u hu => by subst hu; exact hw.push _ _ (bk_self _ _ _)) ?_
  refine WPA.freezeBk (b := w.heap.size) ?_
  repeat' (first | ((first | refine WLA.m rfl rfl ?_ ?_ | refine WDQ.m rfl rfl ?_ ?_ | refine WDP.m rfl rfl ?_ ?_ | refine WLA.st rfl ?_ ?_ | refine WLA.x rfl rfl ?_ (fun x => ?_) | refine WLA.x0 rfl ?_ (fun x => ?_) | refine WDW.x rfl rfl ?_ (fun x => ?_) | refine WDW.st rfl ?_ ?_); first | exact sdT | skip) | (refine Stp.go ?_) | (refine WPA.ifT ?_) | (refine WPA.ifF ?_) | ((first | refine WPA.dec ?_); first | refine orL ?_ | refine orR ?_) | ((first | refine WPA.ifBt ?_ ?_ | refine WPA.ifBnf ?_ ?_); assumption) | ((first | refine WPA.ifBnt ?_ ?_ | refine WPA.ifBf ?_ ?_); assumption) | ((first | refine WPA.ifs ?_ ?_ | refine WPA.ifB ?_ ?_) <;> intro hc) | (guard_target =~ WPA _ _ _ (.region 2 _ true) _ _ _; refine WPA.drawT 7 (.p 0 (.p 1 (.p 2 (.p 3 (.p 4 (.w 5 (.w 6 .fin))))))) mixed ?_ ?_; kernel_rfl) | (refine WDA.finish (tl := [⟨_, _, _, _, _, _⟩]) rfl ?_) | (refine WDQ.see rfl ?_) | (refine WDP.see rfl ?_) | (refine WDW.see rfl ?_))
  unfold QQ
  exact fun w h => ⟨.inl rfl, rfl, h.unI.to⟩
end
end Go.Proofs.YthkhneimfjaohaaGreatDoor
