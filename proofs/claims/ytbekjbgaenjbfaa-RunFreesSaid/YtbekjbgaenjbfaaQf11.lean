/- Texts that RunFrees_law leans on, part 11. Conditions: none. -/
import Derived.Shelf.SlSortCmp.NoneTotal
import Derived.Shelf.Slices.In.SortNone
import Derived.Shelf.Sort.Plain
import Derived.Shelf.Slices.CompactI
import Derived.Shelf.Slices.SearchI
import Derived.Shelf.Slices.Empties
import Derived.Shelf.Strconv.Itoa0
import Derived.Test.YtbekjbgaenjbfaaProg
import Derived.Test.YtbekjbgaenjbfaaQf10
namespace Go.Proofs.Ytbekjbgaenjbfaa
open Go Go.Fw Go.RowKit
set_option linter.unusedVariables false
set_option linter.unusedSimpArgs false
set_option maxRecDepth 100000
set_option maxHeartbeats 16000000
set_option synthInstance.maxHeartbeats 200000
set_option synthInstance.maxSize 100000
attribute [local irreducible] WPA WLA WDA WDQ WDE QQ seqQ blockQ loopQ fnQ OpP OpT Tr TrP SL SLd OwnS LitS Bk BkE Ob
def catB (m : BS) (l : List Int) : ByteArray := l.foldr (fun i t => at_ m.ts i ++ t) ⟨#[]⟩
structure Filled (m m' : BS) (new : List Int) (u : ByteArray) : Prop where
  ok : m'.Ok
  sz : m'.size = m.size ∧ m'.most = m.most
  used : m'.used = m.used + new.length
  peak : m.used ≤ m.peak → m'.peak = max m.peak m'.used
  txb : TxB m → TxB m'
  keep : ∀ i : Int, Has m.tk i → Has m'.tk i ∧ at_ m'.ts i = at_ m.ts i
  has : ∀ i ∈ new, Has m'.tk i ∧ ¬ Has m.tk i
  nodup : new.Nodup
  cat : catB m' new = u
  num : (new.length : Int) * m.size < u.size + m.size ∧ (u.size : Int) ≤ new.length * m.size
theorem not_has_free (tk : List Bool) : ¬ Has tk (firstFree tk : Nat) := fun h => by
  have h1 := has_nat.1 h
  have h2 := padB_at tk
  unfold padB at h2
  split at h2
  · rw [h2] at h1; cases h1
  · rename_i h3; rw [List.getElem?_eq_none (by omega)] at h1; cases h1
theorem has_int {tk : List Bool} {i : Int} (h : Has tk i) : ∃ j : Nat, i = j ∧ tk[j]? = some true := by
  have h0 := h.1.1
  refine ⟨i.toNat, by omega, ?_⟩
  exact has_nat.1 (by rw [Int.toNat_of_nonneg h0]; exact h)
theorem keep_one {m : BS} {u : ByteArray} (ok : m.Ok) {i : Int} (h : Has m.tk i) : Has (m.alloc.write (firstFree m.tk : Nat) u).tk i ∧ at_ (m.alloc.write (firstFree m.tk : Nat) u).ts i = at_ m.ts i := by
  obtain ⟨j, rfl, hj⟩ := has_int h
  have hne : j ≠ firstFree m.tk := fun e => not_has_free m.tk (by rw [← e]; exact h)
  have hlt : j < m.tk.length := (List.getElem?_eq_some_iff.1 hj).1
  have hl := ok.lens
  constructor
  · refine has_nat.2 ?_
    show ((padB m.tk).set (firstFree m.tk) true)[j]? = some true
    rw [List.getElem?_set_ne (Ne.symm hne), padB_ne _ _ hne]; exact hj
  · show at_ ((padT m.tk m.ts).set ((firstFree m.tk : Nat) : Int).toNat u) (j : Int) = _
    unfold at_
    rw [List.getD_eq_getElem?_getD, List.getD_eq_getElem?_getD, Int.toNat_natCast, Int.toNat_natCast, List.getElem?_set_ne (Ne.symm hne), padT_at _ _ _ (by omega)]
theorem at_one {m : BS} {u : ByteArray} (ok : m.Ok) : at_ (m.alloc.write (firstFree m.tk : Nat) u).ts (firstFree m.tk : Nat) = u := by
  show at_ ((padT m.tk m.ts).set ((firstFree m.tk : Nat) : Int).toNat u) ((firstFree m.tk : Nat) : Int) = u
  have h1 := firstFree_padB m.tk
  have h2 := padB_len m.tk m.ts ok.lens
  unfold at_
  rw [List.getD_eq_getElem?_getD, Int.toNat_natCast, List.getElem?_set_self (by omega)]; rfl
theorem ext_app (t : ByteArray) (a b : Nat) (h : a ≤ b) (hb : b ≤ t.size) : t.extract a b ++ t.extract b t.size = t.extract a t.size := by
  apply ByteArray.ext
  rw [ByteArray.data_append, ByteArray.data_extract, ByteArray.data_extract, ByteArray.data_extract, Array.extract_append_extract]
  congr 1 <;> omega
theorem fillN_law (t : ByteArray) : ∀ (d : Nat) (m : BS) (ids : List Int) (k : Nat), t.size - k = d → k ≤ t.size → m.Ok → ((t.size - k : Nat) : Int) ≤ m.size * (m.most - m.used) →
    ∃ new, (fillN t m ids k).2 = ids ++ new ∧ Filled m (fillN t m ids k).1 new (t.extract k t.size) := by
  intro d
  induction d using Nat.strongRecOn with
  | _ d ih =>
    intro m ids k hd hk ok hR
    have hes := ext_size' t k hk
    by_cases hlt : k < t.size
    · have hz1 := ok.size
      obtain ⟨c1, c2, c3, c4⟩ := fillC_eq hlt hz1
      have hum1 := ok.um
      have hu : m.used < m.most := by
        rcases Int.lt_or_eq_of_le hum1 with h | h
        · exact h
        · rw [h, Int.sub_self, Int.mul_zero] at hR; omega
      rw [fillN_step hlt]
      have hok2 := (ok.alloc hu).write (has_alloc m) (t := t.extract k (k + fillC t m k))
      have hsp : (t.extract k (k + fillC t m k)).size = fillC t m k := by rw [ByteArray.size_extract]; omega
      have hR2 : ((t.size - (k + fillC t m k) : Nat) : Int) ≤ m.size * (m.most - (m.used + 1)) := by
        have e : m.size * (m.most - (m.used + 1)) = m.size * (m.most - m.used) - m.size := by rw [← Int.sub_sub, Int.mul_sub m.size (m.most - m.used) 1, Int.mul_one]
        rw [e]
        rcases Int.le_total ((t.size - k : Nat) : Int) m.size with hle | hle
        · have : 0 ≤ m.size * (m.most - m.used - 1) := Int.mul_nonneg (by omega) (by omega)
          rw [Int.mul_sub, Int.mul_one] at this
          omega
        · omega
      have hcat := ext_app t k (k + fillC t m k) (by omega) c3
      have hes2 := ext_size' t (k + fillC t m k) c3
      generalize fillC t m k = c at c1 c2 c3 c4 hok2 hsp hR2 hcat hes2
      obtain ⟨new, e1, F⟩ := ih (t.size - (k + c)) (by omega) (m.alloc.write (firstFree m.tk : Nat) (t.extract k (k + c))) (ids ++ [(firstFree m.tk : Int)]) (k + c) rfl c3 hok2 hR2
      have hk1 : ∀ {i : Int}, Has m.tk i → _ := fun {i} h => keep_one (u := t.extract k (k + c)) ok h
      have ha1 := at_one (u := t.extract k (k + c)) ok
      have hh1 : Has (m.alloc.write (firstFree m.tk : Nat) (t.extract k (k + c))).tk (firstFree m.tk : Nat) := has_alloc m
      have hnum := F.num
      have hused := F.used
      have hpeak := F.peak
      have hsz := F.sz
      have htxb := F.txb
      refine ⟨(firstFree m.tk : Int) :: new, by rw [e1, List.append_assoc]; rfl, ⟨F.ok, hsz, ?_, fun h => ?_, fun h => htxb (TxB.write h.alloc (by omega)), fun i h => ?_, fun i h => ?_, ?_, ?_, ?_⟩⟩
      · rw [hused, List.length_cons]
        show m.used + 1 + _ = _
        omega
      · rw [hpeak (by show m.used + 1 ≤ max m.peak (m.used + 1); omega), hused]
        show max (max m.peak (m.used + 1)) (m.used + 1 + _) = max m.peak (m.used + 1 + _)
        omega
      · have h1 := hk1 h
        have h2 := F.keep i h1.1
        exact ⟨h2.1, h2.2.trans h1.2⟩
      · rcases List.mem_cons.1 h with rfl | h
        · exact ⟨(F.keep _ hh1).1, not_has_free m.tk⟩
        · exact ⟨(F.has i h).1, fun h2 => (F.has i h).2 (hk1 h2).1⟩
      · exact List.nodup_cons.2 ⟨fun h => (F.has _ h).2 hh1, F.nodup⟩
      · show at_ _ _ ++ catB _ new = _
        rw [F.cat, (F.keep _ hh1).2, ha1, hcat]
      · have hmz : (m.alloc.write (firstFree m.tk : Nat) (t.extract k (k + c))).size = m.size := rfl
        rw [hmz, hes2] at hnum
        rw [hes, List.length_cons]
        have e : ((new.length + 1 : Nat) : Int) * m.size = new.length * m.size + m.size := by push_cast; rw [Int.add_mul, Int.one_mul]
        rw [e]
        have h0 : new.length ≠ 0 → m.size ≤ new.length * m.size := fun h => by
          have := Int.mul_le_mul_of_nonneg_right (a := 1) (b := (new.length : Int)) (c := m.size) (by omega) (by omega)
          rwa [Int.one_mul] at this
        by_cases hn0 : new.length = 0
        · rw [hn0] at hnum ⊢
          simp only [Int.natCast_zero, Int.zero_mul, Int.ofNat_eq_natCast] at hnum ⊢
          omega
        · have := h0 hn0
          omega
    · rw [fillN_end hlt]
      have he : t.extract k t.size = ⟨#[]⟩ := by
        apply ByteArray.ext
        apply Array.eq_empty_of_size_eq_zero
        show (t.extract k t.size).size = 0
        omega
      have hz := ok.size
      refine ⟨[], by simp, ⟨ok, ⟨rfl, rfl⟩, by simp, fun h => by dsimp only; omega, id, fun i h => ⟨h, rfl⟩, fun i h => (by cases h), List.nodup_nil, he.symm, ?_⟩⟩
      rw [hes]
      simp only [List.length_nil, Int.natCast_zero, Int.zero_mul]
      omega
theorem txtN_all {m : BS} {ids : List Int} (h : ∀ i ∈ ids, Has m.tk i) : ∀ (n : Nat), n ≤ ids.length → ∃ t, txtN m ids n = some t ∧ t ++ catB m (ids.drop n) = catB m ids
  | 0, _ => ⟨⟨#[]⟩, rfl, by rw [List.drop_zero, bnil_app]⟩
  | n + 1, hn => by
    obtain ⟨t, h1, h2⟩ := txtN_all h n (by omega)
    have hm : ids.getD n 0 ∈ ids := by rw [List.getD_eq_getElem?_getD, List.getElem?_eq_getElem (by omega)]; exact List.getElem_mem _
    refine ⟨t ++ at_ m.ts (ids.getD n 0), by rw [txtN, h1]; show (if _ then _ else _) = _; rw [if_pos (h _ hm)], ?_⟩
    rw [← h2, ByteArray.append_assoc]
    have e : ids.drop n = ids.getD n 0 :: ids.drop (n + 1) := by
      rw [List.drop_eq_getElem_cons (by omega), List.getD_eq_getElem?_getD, List.getElem?_eq_getElem (by omega)]; rfl
    rw [e]; rfl
theorem txtN_cat {m : BS} {ids : List Int} (h : ∀ i ∈ ids, Has m.tk i) : txtN m ids ids.length = some (catB m ids) := by
  obtain ⟨t, h1, h2⟩ := txtN_all h ids.length (Nat.le_refl _)
  rw [List.drop_length] at h2
  have : catB m [] = ⟨#[]⟩ := rfl
  rw [this, app_bnil] at h2
  rw [h1, h2]
theorem fill_law {t : ByteArray} {m : BS} (ok : m.Ok) (h : ¬ m.size * (m.most - m.used) < t.size) : Filled m (fillN t m [] 0).1 (fillN t m [] 0).2 t := by
  obtain ⟨new, e, F⟩ := fillN_law t (t.size - 0) m [] 0 rfl (Nat.zero_le _) ok (by omega)
  rw [List.nil_append] at e
  rw [ext_full'] at F
  rw [e]; exact F
end Go.Proofs.Ytbekjbgaenjbfaa
namespace Go.Proofs.Ytbekjbgaenjbfaa
open Go Go.Fw Go.RowKit
set_option linter.unusedVariables false
set_option linter.unusedSimpArgs false
set_option maxRecDepth 100000
set_option maxHeartbeats 16000000
set_option synthInstance.maxHeartbeats 200000
set_option synthInstance.maxSize 100000
attribute [local irreducible] WPA WLA WDA WDQ WDE QQ seqQ blockQ loopQ fnQ OpP OpT Tr TrP SL SLd OwnS LitS Bk BkE Ob
attribute [local irreducible] vS keyS parL RowH CtsH
theorem CtsH.frozen {x : SV} {ms : List Ct} {R : Foot} (h : CtsH x ms R) : ∃ qs : List Pe, SlI R x Pe inferInstance qs ∧ qs.map Prod.snd = ms.map Prod.snd ∧ ∀ i : Nat, i < qs.length → SlI R (at_ qs (i : Int)).1 Int inferInstance (ms.getD i ([], 0)).1 := by
  unfold CtsH at h
  obtain ⟨qs, hq, R1, R2, h1, h2, rfl⟩ := h
  have hql : qs.length = ms.length := by have := congrArg List.length hq; simpa using this
  have s1 : SubI (R1 ++ R2) R1 := ⟨fun x hx => List.mem_append_left _ hx⟩
  have s2 : SubI (R1 ++ R2) R2 := ⟨fun x hx => List.mem_append_right _ hx⟩
  refine ⟨qs, (SlI.ofOwn h1).sub, hq, fun i hi => ?_⟩
  have h3 := RowH.frozen h2 i (by rw [List.length_map]; exact hi) (by rw [List.length_map]; omega)
  have e1 : (qs.map Prod.fst).getD i SV.nil = (at_ qs (i : Int)).1 := by rw [List.getD_eq_getElem?_getD, List.getElem?_map, List.getElem?_eq_getElem hi, at_nat qs i hi]; rfl
  have e2 : (ms.map Prod.fst).getD i [] = (ms.getD i ([], 0)).1 := by rw [List.getD_eq_getElem?_getD, List.getD_eq_getElem?_getD, List.getElem?_map, List.getElem?_eq_getElem (by omega)]; rfl
  rw [e1, e2] at h3
  exact h3.sub
def exM : List Ct := [([1, 2], 5), ([1, 3], 1)]
theorem exM_wrong : wrong 2 exM = 0 := by decide
theorem exM_size : (byS exM).size = 14 := by
  unfold exM
  rw [byS_cons, byS_cons, ByteArray.size_append, ByteArray.size_append, ByteArray.size_append, ByteArray.size_append, keyS_size, keyS_size, vS_lt (by decide), vS_lt (by decide)]; rfl
theorem live_tr19 (w0 : World) (I : Foot) (L : List HP) : Tr Try.prog 7 #[] (SL w0 I L) (fun _ : Unit => .bool true) (fun _ => SL w0 I L) := by
  refine Tr.intro Try.func7 rfl Try.ntmps7 rfl ?_
  have ok0 : (BS.mk 4 9 [] [] 0 0 0).Ok := BS.Ok.new (by decide) (by decide)
  have hroom : ¬ (BS.mk 4 9 [] [] 0 0 0).size * ((BS.mk 4 9 [] [] 0 0 0).most - (BS.mk 4 9 [] [] 0 0 0).used) < (byS exM).size := by rw [exM_size]; decide
  have F := fill_law ok0 hroom
  repeat' ((fail_if_success (guard_target =~ WPA _ _ _ (.region 3 _ _) _ _ _)); first | ((first | refine WLA.m rfl rfl ?_ ?_ | refine WLA.st rfl ?_ ?_ | refine WLA.x rfl rfl ?_ (fun x => ?_) | refine WLA.x0 rfl ?_ (fun x => ?_)); first | exact trivial | exact rfl | assumption | omega | (refine ⟨?_, ?_⟩ <;> omega) | (simp only [Room, List.length_set, List.length_append, List.length_cons, List.length_nil, List.length_replicate]; omega) | decide | skip) | (refine Stp.go ?_) | (guard_target =~ WLA _ _ _ _ _ (⟨_, .call ⟨.value (.func 8), _, _⟩, _, _, _, _⟩ :: _) _ _; first | (refine WLA.call rfl rfl (New_tr _ _ _ (by decide) (by decide)) ?_; rintro S) | (refine WLA.call0 rfl (New_tr _ _ _ (by decide) (by decide)) ?_; rintro S)) | (refine WPA.ifT ?_) | (refine WPA.ifF ?_) | ((first | refine WPA.dec ?_); first | refine .inl ⟨by first | assumption | omega | with_reducible rfl | (refine fun h => h ?_; first | assumption | with_reducible rfl) | (simp only [List.length_append, List.length_cons, List.length_nil, List.length_set] <;> omega) | decide, ?_⟩ | refine .inr ⟨by first | assumption | omega | with_reducible rfl | (refine fun h => h ?_; first | assumption | with_reducible rfl) | (simp only [List.length_append, List.length_cons, List.length_nil, List.length_set] <;> omega) | decide, ?_⟩) | ((first | refine WPA.ifBt ?_ ?_ | refine WPA.ifBnf ?_ ?_); assumption) | ((first | refine WPA.ifBnt ?_ ?_ | refine WPA.ifBf ?_ ?_); assumption) | ((first | refine WPA.ifs ?_ ?_ | refine WPA.ifB ?_ ?_) <;> intro hc))
  revert x; intro l
  revert x; intro g2
  revert x; intro g1
  refine WPA.ent (EntC.out (L' := LitS 67 l ([(g1, 5), (g2, 1)] : List Pe) :: LitS 3 g1 ([1, 2] : List Int) :: LitS 3 g2 ([1, 3] : List Int) :: StoreR S (BS.mk 4 9 [] [] 0 0 0) :: L)) ?_
  refine WPA.freeze fun R1 h1 => ?_
  refine WPA.freeze fun R2 h2 => ?_
  refine WPA.freeze fun R3 h3 => ?_
  have s1 : SlI (R3 ++ (R2 ++ (R1 ++ I))) l Pe inferInstance [(g1, 5), (g2, 1)] := by have := SlI.ofLit h1; infer_instance
  have s2 : SlI (R3 ++ (R2 ++ (R1 ++ I))) g1 Int inferInstance [1, 2] := by have := SlI.ofLit h2; infer_instance
  have s3 : SlI (R3 ++ (R2 ++ (R1 ++ I))) g2 Int inferInstance [1, 3] := by have := SlI.ofLit h3; infer_instance
  have hJ : I ⊆ R3 ++ (R2 ++ (R1 ++ I)) := fun z hz => List.mem_append_right _ (List.mem_append_right _ (List.mem_append_right _ hz))
  clear h1 h2 h3
  generalize R3 ++ (R2 ++ (R1 ++ I)) = J at s1 s2 s3 hJ
  refine WPA.rd s2 fun e1 => ?_
  refine WPA.rd s3 fun e2 => ?_
  have hms : ([(g1, 5), (g2, 1)] : List Pe).map (ctP (Go.Fw.rd Int J)) = exM := by simp only [List.map_cons, List.map_nil, ctP, e1, e2]; rfl
  have hg : GrG J (Go.Fw.rd Int J) [(g1, 5), (g2, 1)] := fun p hp => by
    rcases List.mem_cons.1 hp with rfl | hp
    · show SlI J g1 Int inferInstance (Go.Fw.rd Int J g1); rw [e1]; exact s2
    · rw [List.mem_singleton.1 hp]; show SlI J g2 Int inferInstance (Go.Fw.rd Int J g2); rw [e2]; exact s3
  have hgl : ∀ p ∈ ([(g1, 5), (g2, 1)] : List Pe), (Go.Fw.rd Int J p.1).length ≤ 1000 := fun p hp => by
    rcases List.mem_cons.1 hp with rfl | hp
    · show (Go.Fw.rd Int J g1).length ≤ 1000; rw [e1]; decide
    · rw [List.mem_singleton.1 hp]; show (Go.Fw.rd Int J g2).length ≤ 1000; rw [e2]; decide
  have he : (0 : Int) = errW 2 (([(g1, 5), (g2, 1)] : List Pe).map (ctP (Go.Fw.rd Int J))) (BS.mk 4 9 [] [] 0 0 0) := by rw [hms, errW_ok exM_wrong, if_neg hroom]
  have hx : WrX 2 (([(g1, 5), (g2, 1)] : List Pe).map (ctP (Go.Fw.rd Int J))) (BS.mk 4 9 [] [] 0 0 0) 0 2 2 (fillN (byS exM) (BS.mk 4 9 [] [] 0 0 0) [] 0).1 (fillN (byS exM) (BS.mk 4 9 [] [] 0 0 0) [] 0).2 := by rw [hms]; exact .inr ⟨rfl, rfl, rfl, rfl, rfl⟩
  generalize (fillN (byS exM) (BS.mk 4 9 [] [] 0 0 0) [] 0).1 = m' at F hx
  generalize (fillN (byS exM) (BS.mk 4 9 [] [] 0 0 0) [] 0).2 = ids at F hx
  have hnum := F.num
  rw [exM_size] at hnum
  dsimp only at hnum
  have hidl : (ids.length : Int) = 4 := by omega
  have hus : m'.used = 4 := by have := F.used; dsimp only at this; omega
  have hrs : readS 2 2 (byS exM) = some exM := readS_back exM_wrong
  have htx := txtN_cat fun i hi => (F.has i hi).1
  rw [F.cat] at htx
  repeat' ((fail_if_success (guard_target =~ WPA _ _ _ (.region 4 _ _) _ _ _)); first | ((first | refine WLA.m rfl rfl ?_ ?_ | refine WLA.st rfl ?_ ?_ | refine WLA.x rfl rfl ?_ (fun x => ?_) | refine WLA.x0 rfl ?_ (fun x => ?_)); first | exact trivial | exact rfl | assumption | omega | (refine ⟨?_, ?_⟩ <;> omega) | (simp only [Room, List.length_set, List.length_append, List.length_cons, List.length_nil, List.length_replicate]; omega) | decide | skip) | (refine Stp.go ?_) | (guard_target =~ WLA _ _ _ _ _ (⟨_, .call ⟨.value (.func 18), _, _⟩, _, _, _, _⟩ :: _) _ _; first | (refine WLA.call rfl rfl (runWrite_tr ok0 s1 hg hgl (by simp) he hx) ?_; rintro r) | (refine WLA.call0 rfl (runWrite_tr ok0 s1 hg hgl (by simp) he hx) ?_; rintro r)) | (refine WPA.ifT ?_) | (refine WPA.ifF ?_) | ((first | refine WPA.dec ?_); first | refine .inl ⟨by first | assumption | omega | with_reducible rfl | (refine fun h => h ?_; first | assumption | with_reducible rfl) | (simp only [List.length_append, List.length_cons, List.length_nil, List.length_set] <;> omega) | decide, ?_⟩ | refine .inr ⟨by first | assumption | omega | with_reducible rfl | (refine fun h => h ?_; first | assumption | with_reducible rfl) | (simp only [List.length_append, List.length_cons, List.length_nil, List.length_set] <;> omega) | decide, ?_⟩) | ((first | refine WPA.ifBt ?_ ?_ | refine WPA.ifBnf ?_ ?_); assumption) | ((first | refine WPA.ifBnt ?_ ?_ | refine WPA.ifBf ?_ ?_); assumption) | ((first | refine WPA.ifs ?_ ?_ | refine WPA.ifB ?_ ?_) <;> intro hc))
  revert x; intro X
  refine WPA.ent (EntC.out (L' := OwnS 3 r ids :: Bk X 25 [.int .i64 2, .int .i64 2, .slice r.a r.n r.cap] :: StoreR S m' :: L)) ?_
  refine WPA.freeze fun R4 h4 => ?_
  have s4 : SlI (R4 ++ J) r Int inferInstance ids := by have := SlI.ofOwn h4; infer_instance
  have hJ2 : I ⊆ R4 ++ J := fun z hz => List.mem_append_right _ (hJ hz)
  have s1 : SlI (R4 ++ J) l Pe inferInstance [(g1, 5), (g2, 1)] := inferInstance
  have s2 : SlI (R4 ++ J) g1 Int inferInstance [1, 2] := inferInstance
  have s3 : SlI (R4 ++ J) g2 Int inferInstance [1, 3] := inferInstance
  clear h4 hg hgl he hx hms
  generalize R4 ++ J = K at s1 s2 s3 s4 hJ2
  repeat' ((fail_if_success (guard_target =~ WPA _ _ _ (.region 5 _ _) _ _ _)); first | ((first | refine WLA.m rfl rfl ?_ ?_ | refine WLA.st rfl ?_ ?_ | refine WLA.x rfl rfl ?_ (fun x => ?_) | refine WLA.x0 rfl ?_ (fun x => ?_)); first | exact trivial | exact rfl | assumption | omega | (refine ⟨?_, ?_⟩ <;> omega) | (simp only [Room, List.length_set, List.length_append, List.length_cons, List.length_nil, List.length_replicate]; omega) | decide | skip) | (refine Stp.go ?_) | (guard_target =~ WLA _ _ _ _ _ (⟨_, .call ⟨.value (.func 13), _, _⟩, _, _, _, _⟩ :: _) _ _; first | (refine WLA.call rfl rfl (runRead_tr (o := 2) (n := 2) (by decide) s4 F.ok.lens (F.txb TxB.new) (by omega) htx hrs) ?_; rintro x; rw [show (some exM).getD [] = exM from rfl]) | (refine WLA.call0 rfl (runRead_tr (o := 2) (n := 2) (by decide) s4 F.ok.lens (F.txb TxB.new) (by omega) htx hrs) ?_; rintro x; rw [show (some exM).getD [] = exM from rfl])) | (refine WPA.ifT ?_) | (refine WPA.ifF ?_) | ((first | refine WPA.dec ?_); first | refine .inl ⟨by first | assumption | omega | with_reducible rfl | (refine fun h => h ?_; first | assumption | with_reducible rfl) | (simp only [List.length_append, List.length_cons, List.length_nil, List.length_set] <;> omega) | decide, ?_⟩ | refine .inr ⟨by first | assumption | omega | with_reducible rfl | (refine fun h => h ?_; first | assumption | with_reducible rfl) | (simp only [List.length_append, List.length_cons, List.length_nil, List.length_set] <;> omega) | decide, ?_⟩) | ((first | refine WPA.ifBt ?_ ?_ | refine WPA.ifBnf ?_ ?_); assumption) | ((first | refine WPA.ifBnt ?_ ?_ | refine WPA.ifBf ?_ ?_); assumption) | ((first | refine WPA.ifs ?_ ?_ | refine WPA.ifB ?_ ?_) <;> intro hc))
  refine WPA.ent (EntC.out (L' := CtsH x exM :: Bk X 25 [.int .i64 2, .int .i64 2, .slice r.a r.n r.cap] :: StoreR S m' :: L)) ?_
  refine WPA.freeze fun R5 h5 => ?_
  obtain ⟨qs, q1, q2, q3⟩ := h5.frozen
  have hJ3 : I ⊆ R5 ++ K := fun z hz => List.mem_append_right _ (hJ2 hz)
  have sx : SlI (R5 ++ K) x Pe inferInstance qs := inferInstance
  have sg : ∀ i : Nat, i < qs.length → SlI (R5 ++ K) (at_ qs (i : Int)).1 Int inferInstance (exM.getD i ([], 0)).1 := fun i hi => by have := q3 i hi; infer_instance
  have sr : SlI (R5 ++ K) r Int inferInstance ids := inferInstance
  have s1 : SlI (R5 ++ K) l Pe inferInstance [(g1, 5), (g2, 1)] := inferInstance
  have s2 : SlI (R5 ++ K) g1 Int inferInstance [1, 2] := inferInstance
  have s3 : SlI (R5 ++ K) g2 Int inferInstance [1, 3] := inferInstance
  clear h5 q1 q3
  generalize R5 ++ K = M at sx sg sr s1 s2 s3 hJ3
  have sl : ∀ i : Nat, i < ([(g1, 5), (g2, 1)] : List Pe).length → SlI M (at_ ([(g1, 5), (g2, 1)] : List Pe) (i : Int)).1 Int inferInstance (exM.getD i ([], 0)).1 := fun i hi => by
    rcases (show i = 0 ∨ i = 1 by simp at hi; omega) with rfl | rfl
    · exact s2
    · exact s3
  have hsame : ∀ {L : List HP}, TrP Try.prog 16 #[.slice x.a x.n x.cap, .slice l.a l.n l.cap] (SL w0 M L) (.bool true) := fun {L} => by
    have := Same_tr (w0 := w0) (I := M) (L := L) (a := x) (b := l) (cs := qs) (ds := [(g1, 5), (g2, 1)]) (ms := exM) (ns := exM) q2 rfl (fun i hi => by have := sg i hi; exact RdS.imm) (fun i hi => by have := sl i hi; exact RdS.imm) (by decide) (by decide)
    rw [decide_eq_true rfl] at this
    exact this
  repeat' (first | ((rw [hus])) | ((first | refine WLA.m rfl rfl ?_ ?_ | refine WLA.st rfl ?_ ?_ | refine WLA.x rfl rfl ?_ (fun x => ?_) | refine WLA.x0 rfl ?_ (fun x => ?_)); first | exact trivial | exact rfl | assumption | omega | (refine ⟨?_, ?_⟩ <;> omega) | (simp only [Room, List.length_set, List.length_append, List.length_cons, List.length_nil, List.length_replicate]; omega) | decide | skip) | (refine Stp.go ?_) | (guard_target =~ WLA _ _ _ _ _ (⟨_, .call ⟨.value (.func 22), _, _⟩, _, _, _, _⟩ :: _) _ _; refine WLA.cq rfl rfl (Used_tr) ?_) | (guard_target =~ WLA _ _ _ _ _ (⟨_, .call ⟨.value (.func 16), _, _⟩, _, _, _, _⟩ :: _) _ _; refine WLA.cq rfl rfl (hsame) ?_) | (refine WPA.ifT ?_) | (refine WPA.ifF ?_) | (refine WLA.no rfl rfl ?_) | ((first | refine WPA.dec ?_ | ((fail_if_success (guard_target =~ WLA _ _ _ _ _ _ (put1 _ _ (.bool true)) _)); (fail_if_success (guard_target =~ WLA _ _ _ _ _ _ (put1 _ _ (.bool false)) _)); refine WLA.dec rfl rfl ?_) | refine WLA.pk ?_); first | refine .inl ⟨by first | assumption | omega | with_reducible rfl | (refine fun h => h ?_; first | assumption | with_reducible rfl) | (simp only [List.length_append, List.length_cons, List.length_nil, List.length_set] <;> omega) | decide, ?_⟩ | refine .inr ⟨by first | assumption | omega | with_reducible rfl | (refine fun h => h ?_; first | assumption | with_reducible rfl) | (simp only [List.length_append, List.length_cons, List.length_nil, List.length_set] <;> omega) | decide, ?_⟩) | ((first | refine WPA.ifBt ?_ ?_ | refine WPA.ifBnf ?_ ?_); assumption) | ((first | refine WPA.ifBnt ?_ ?_ | refine WPA.ifBf ?_ ?_); assumption) | ((first | refine WPA.ifs ?_ ?_ | refine WPA.ifB ?_ ?_) <;> intro hc) | ((fail_if_success (guard_target =~ WLA _ _ _ _ _ _ (put1 _ _ (.bool true)) _)); (fail_if_success (guard_target =~ WLA _ _ _ _ _ _ (put1 _ _ (.bool false)) _)); (first | refine WLA.both rfl rfl ?_ ?_ | refine WLA.bothB rfl rfl ?_ ?_) <;> intro hg))
  exact QQ.end_ rfl () rfl fun w h => (h.to : SL w0 M L w).sub hJ3
end Go.Proofs.Ytbekjbgaenjbfaa
namespace Go.Fw
open Go Go.RowKit Go.Sort
set_option linter.unusedVariables false
set_option linter.unusedSimpArgs false
set_option maxHeartbeats 2000000
theorem St.grown {w0 : World} {H : HeapP} {L : Foot} {w : World} (h : St w0 H L w) (os : Array Obj) : St w0 H L (grow w os) := by
  have hk : ∀ b u, w.heap[b]? = some u → (grow w os).heap[b]? = some u := fun b u e => by
    rw [heap_grow_old w os (Array.getElem?_eq_some_iff.1 e).1]; exact e
  refine ⟨⟨h.below.os, h.below.tape, h.below.output, ?_, fun k hk' => ?_⟩, fun b u e => hk b u (h.imm b u e), fun p hp => ?_, h.nodup, h.drw⟩
  · have := h.below.size; simp only [grow, Array.size_append]; omega
  · rw [heap_grow_old w os (by have := h.below.size; omega)]; exact h.below.block k hk'
  · obtain ⟨h1, h2, h3⟩ := h.own p hp; exact ⟨hk _ _ h1, h2, h3⟩
theorem putCells_take {F c : Array Value} (h : F.size ≤ c.size) : (putCells id 0 F c).toList.take F.size = F.toList ∧ (putCells id 0 F c).size = c.size := by
  refine ⟨List.ext_getElem? fun k => ?_, by simp [putCells]⟩
  by_cases hk : k < F.size
  · rw [List.getElem?_take_of_lt hk]
    simp [putCells, hk, show k < c.size by omega]
  · rw [List.getElem?_take_eq_none (by omega), List.getElem?_eq_none (by simpa using hk)]
theorem SL.reput {α : Type} [Enc α] {w0 : World} {I : Foot} {L : List HP} {w : World} {e : TypeId} {s : SV} {xs ys : List α} {g : Nat} (h : SL w0 I (OwnS e s xs :: L) w) (hs : s.a = some ⟨g, 0, none⟩) (hl : ys.length = xs.length) (n : Nat) (os : Array Obj) {F : Array Value} (hF : F.toList = flat ys) :
    SL w0 I (OwnS e s ys :: L) (grow (putRow id (Sort.ahead w n) g 0 F) os) := by
  obtain ⟨H, R, Rs, h1, hp, h2, h3⟩ := h.uncons
  rcases hp.2 with ⟨q1, q2, q3⟩ | ⟨gb, cap, cur, q1, q2, q3, q4, q5, q6⟩
  · simp only [Value.slice.injEq] at q1
    rw [hs] at q1; exact absurd q1.1 (by simp)
  · simp only [Value.slice.injEq] at q1
    obtain ⟨q1, -, q7⟩ := q1
    rw [hs] at q1
    cases q1
    subst q6
    have hfl := hp.1
    rw [flat_len] at hfl
    have hFs : F.size = s.n * Enc.sz α := by rw [← Array.length_toList, hF, flat_len, hl, hfl]
    have hle : F.size ≤ cur.size := by rw [hFs, q4]; exact Nat.mul_le_mul_right _ q2
    obtain ⟨c1, c2⟩ := putCells_take hle
    have hst : St w0 H ((g, .cells cur e (0, 0)) :: Rs.flatten) (Sort.ahead w n) := h3.drawn (w.drawn + n) (Nat.le_add_right _ _)
    have hput : (putRow id (Sort.ahead w n) g 0 F) = (Sort.ahead w n).setRow g (putCells id 0 F cur) := by
      unfold putRow mapBlock World.setRow
      congr 1
      refine Array.ext_getElem? fun k => ?_
      rw [Array.getElem?_modify, Array.getElem?_modify]
      by_cases hk : g = k
      · subst hk
        rw [if_pos rfl, if_pos rfl, hst.at_ (j := 0) rfl]
        rfl
      · rw [if_neg hk, if_neg hk]
    rw [hput]
    refine SL.cons (R := [(g, .cells (putCells id 0 F cur) e (0, 0))]) h1 ⟨by rw [flat_len, hl, hfl], .inr ⟨g, cap, _, ?_, q2, q3, by rw [c2, q4], ?_, rfl⟩⟩ h2 ((hst.putRow _).grown os)
    · rw [hs, q7]
    · rw [← hFs, c1, hF]
theorem SL.row {α : Type} [Enc α] {w0 : World} {I : Foot} {L : List HP} {w : World} {e : TypeId} {s : SV} {xs : List α} (h : SL w0 I (OwnS e s xs :: L) w) (hn : 0 < xs.length) : ∃ g, s.a = some ⟨g, 0, none⟩ ∧ s.n = xs.length ∧ g < w.heap.size ∧ ∀ F : Array Value, F.toList = flat xs → Holds id w g 0 F := by
  obtain ⟨H, R, Rs, h1, hp, h2, h3⟩ := h.uncons
  have hsn := OwnR.len hp
  rcases hp.2 with ⟨q1, q2, q3⟩ | ⟨gb, cap, cur, q1, q2, q3, q4, q5, q6⟩
  · omega
  · simp only [Value.slice.injEq] at q1
    subst q6
    have hat := h3.at_ (j := 0) rfl
    refine ⟨gb, q1.1, hsn, (Array.getElem?_eq_some_iff.1 hat).1, fun F hF j hj => ⟨?_, ?_⟩⟩
    · have hj' : j < (flat xs).length := by rw [← hF]; simpa using hj
      have hg : (flat xs)[j]? = some (F[j]!) := by
        rw [← hF]; simp [hj]
      rw [← q5, List.getElem?_take] at hg
      split at hg
      · simp only [World.cell?, hat, Nat.zero_add, id]
        simpa using hg
      · cases hg
    · simp only [World.frozen?, hat]
      simp
theorem SL.drw {w0 : World} {I : Foot} {L : List HP} {w : World} (h : SL w0 I L w) : w0.drawn ≤ w.drawn := by
  obtain ⟨H, Rs, _, _, h⟩ := h; exact h.drw
end Go.Fw
namespace Go.Fw
open Go Go.RowKit Go.Sort
set_option linter.unusedVariables false
set_option linter.unusedSimpArgs false
set_option maxHeartbeats 2000000
theorem putRow_id {α : Type} [Inhabited α] (enc : α → Value) (u : World) (g off : Nat) (d : Array α) : putRow enc u g off d = putRow id u g off (d.map enc) := by
  unfold putRow
  congr 1
  funext c
  unfold putCells
  congr 1
  funext k x
  simp only [Array.size_map]
  split
  · rename_i hk
    rw [getElem!_pos d _ (by omega), getElem!_pos (d.map _) _ (by simp; omega)]
    simp
  · rfl
theorem flat_ints : ∀ xs : List Int, ((xs.toArray.map (Value.int .i64)).toList) = flat xs
  | [] => by simp [flat]
  | x :: xs => by
    have := flat_ints xs
    simp only [List.toList_toArray, Array.toList_map] at this ⊢
    rw [List.map_cons, this]
    rfl
theorem holds_ints {w : World} {g : Nat} {xs : List Int} (h : ∀ F : Array Value, F.toList = flat xs → Holds id w g 0 F) : Holds (Value.int .i64) w g 0 xs.toArray := fun j hj => by
  have := h (xs.toArray.map (Value.int .i64)) (flat_ints xs) j (by simpa using hj)
  rw [getElem!_pos (xs.toArray.map (Value.int .i64)) j (by simpa using hj)] at this
  rw [getElem!_pos xs.toArray j hj]
  simpa using this
section
variable {P : Program} {ρ : Go.Shelf.Ren} {w0 : World} {I : Foot} {L : List HP}
theorem sortI_tr (Ly : Go.Proofs.Lays.n189 P ρ) {e : TypeId} {s : SV} {xs : List Int} (hn : xs.length ≤ 1000000000) :
    Tr P (ρ.f 189) #[.slice s.a s.n s.cap] (SL w0 I (OwnS e s xs :: L)) (fun _ : Unit => .tuple #[]) (fun _ => SL w0 I (OwnS e s (xs.mergeSort fun x y => decide (x ≤ y)) :: L)) := by
  intro w hw
  by_cases hx : xs = []
  · subst hx
    have hsn : s.n = 0 := hw.facts.1
    rw [hsn]
    refine (Go.Proofs.Any.slices_Sort_int_none Ly s.a s.cap w).mono ?_
    rintro e w' ⟨rfl, rfl⟩
    exact ⟨(), rfl, by rw [List.mergeSort_nil]; exact hw⟩
  · obtain ⟨g0, hs, hsn, hblk, hH⟩ := hw.row (List.length_pos_iff.2 hx)
    have key := Go.Proofs.Any.slices_Sort_int Ly g0 0 s.cap xs w (holds_ints hH) hblk (by omega)
    rw [hs, hsn]
    refine key.mono ?_
    rintro e w' ⟨rfl, n, os, rfl⟩
    refine ⟨(), rfl, ?_⟩
    rw [putRow_id]
    exact hw.reput hs (by rw [List.length_mergeSort]) n os (flat_ints _)
end
end Go.Fw
namespace Go.Proofs
open Go.Shelf
def Try.sortI_ren : Go.Shelf.Ren := ⟨fun | 189 => 67 | 125 => 78 | 257 => 77 | 128 => 90 | 129 => 91 | 294 => 81 | 295 => 82 | 296 => 83 | 297 => 84 | 298 => 85 | 299 => 86 | 216 => 87 | 300 => 88 | 301 => 89 | 328 => 93 | 329 => 94 | 330 => 95 | 331 => 96 | 332 => 97 | 215 => 92 | 343 => 98 | n => n, fun | 28 => 23 | 3 => 3 | 46 => 127 | 0 => 0 | 51 => 150 | 53 => 100 | 4 => 4 | 183 => 142 | 182 => 141 | 131 => 147 | 5 => 5 | 9 => 9 | 218 => 152 | 222 => 156 | 228 => 158 | 229 => 37 | n => n, fun | n => n⟩
theorem Try.sortI : Go.Proofs.Lays.n189 Try.prog Try.sortI_ren := {
  mixed := by kernel_rfl
  f125 := Try.func78.trans (congrArg some (by kernel_rfl))
  f128 := Try.func90.trans (congrArg some (by kernel_rfl))
  f129 := Try.func91.trans (congrArg some (by kernel_rfl))
  f189 := Try.func67.trans (congrArg some (by kernel_rfl))
  f215 := Try.func92.trans (congrArg some (by kernel_rfl))
  f216 := Try.func87.trans (congrArg some (by kernel_rfl))
  f257 := Try.func77.trans (congrArg some (by kernel_rfl))
  f294 := Try.func81.trans (congrArg some (by kernel_rfl))
  f295 := Try.func82.trans (congrArg some (by kernel_rfl))
  f296 := Try.func83.trans (congrArg some (by kernel_rfl))
  f297 := Try.func84.trans (congrArg some (by kernel_rfl))
  f298 := Try.func85.trans (congrArg some (by kernel_rfl))
  f299 := Try.func86.trans (congrArg some (by kernel_rfl))
  f300 := Try.func88.trans (congrArg some (by kernel_rfl))
  f301 := Try.func89.trans (congrArg some (by kernel_rfl))
  f328 := Try.func93.trans (congrArg some (by kernel_rfl))
  f329 := Try.func94.trans (congrArg some (by kernel_rfl))
  f330 := Try.func95.trans (congrArg some (by kernel_rfl))
  f331 := Try.func96.trans (congrArg some (by kernel_rfl))
  f332 := Try.func97.trans (congrArg some (by kernel_rfl))
  f343 := Try.func98.trans (congrArg some (by kernel_rfl))
  t0 := Try.underlying0
  a0 := Try.isAgg0
  z0 := Try.sizeOf0
  v0 := Try.zeroValue0
  t3 := Try.underlying3
  a3 := Try.isAgg3
  z3 := Try.sizeOf3
  v3 := Try.zeroValue3
  t4 := Try.underlying4
  a4 := Try.isAgg4
  z4 := Try.sizeOf4
  v4 := Try.zeroValue4
  t5 := Try.underlying5
  a5 := Try.isAgg5
  z5 := Try.sizeOf5
  v5 := Try.zeroValue5
  t9 := Try.underlying9
  a9 := Try.isAgg9
  z9 := Try.sizeOf9
  v9 := Try.zeroValue9
  t28 := Try.underlying23
  a28 := Try.isAgg23
  z28 := Try.sizeOf23
  v28 := Try.zeroValue23
  t46 := Try.underlying127
  a46 := Try.isAgg127
  z46 := Try.sizeOf127
  v46 := Try.zeroValue127
  t51 := Try.underlying150
  a51 := Try.isAgg150
  z51 := Try.sizeOf150
  v51 := Try.zeroValue150
  t53 := Try.underlying100
  a53 := Try.isAgg100
  z53 := Try.sizeOf100
  v53 := Try.zeroValue100
  t131 := Try.underlying147
  a131 := Try.isAgg147
  z131 := Try.sizeOf147
  v131 := Try.zeroValue147
  t182 := Try.underlying141
  a182 := Try.isAgg141
  z182 := Try.sizeOf141
  v182 := Try.zeroValue141
  t183 := Try.underlying142
  a183 := Try.isAgg142
  z183 := Try.sizeOf142
  v183 := Try.zeroValue142
  t218 := Try.underlying152
  a218 := Try.isAgg152
  z218 := Try.sizeOf152
  v218 := Try.zeroValue152
  t222 := Try.underlying156
  a222 := Try.isAgg156
  z222 := Try.sizeOf156
  v222 := Try.zeroValue156
  t228 := Try.underlying158
  a228 := Try.isAgg158
  z228 := Try.sizeOf158
  v228 := Try.zeroValue158
  t229 := Try.underlying37
  a229 := Try.isAgg37
  z229 := Try.sizeOf37
  v229 := Try.zeroValue37 }
end Go.Proofs
namespace Go.Proofs.Ytbekjbgaenjbfaa
open Go Go.Fw Go.RowKit
set_option linter.unusedVariables false
set_option linter.unusedSimpArgs false
set_option maxRecDepth 100000
set_option maxHeartbeats 16000000
set_option synthInstance.maxHeartbeats 200000
set_option synthInstance.maxSize 100000
attribute [local irreducible] WPA WLA WDA WDQ WDE QQ seqQ blockQ loopQ fnQ OpP OpT Tr TrP SL SLd OwnS LitS Bk BkE Ob
section
variable {w0 : World} {I : Foot} {L : List HP}
theorem Values_tr {s : SV} : Tr Try.prog 49 #[.slice s.a s.n s.cap] (SL w0 I L) (fun V : Nat => .func (.func 68) #[] #[.pointer (some ⟨V, 0, none⟩)]) (fun V => SL w0 I (Bk V 23 [.slice s.a s.n s.cap] :: L)) := by
  refine Tr.intro Try.func49 rfl Try.ntmps49 rfl ?_
  repeat' (first | ((first | refine WLA.m rfl rfl ?_ ?_ | refine WLA.st rfl ?_ ?_ | refine WLA.x rfl rfl ?_ (fun x => ?_) | refine WLA.x0 rfl ?_ (fun x => ?_)); first | exact trivial | exact rfl | assumption | omega | (refine ⟨?_, ?_⟩ <;> omega) | (simp only [Room, List.length_set, List.length_append, List.length_cons, List.length_nil, List.length_replicate]; omega) | decide | skip) | (refine Stp.go ?_) | (refine WPA.ifT ?_) | (refine WPA.ifF ?_) | ((first | refine WPA.dec ?_); first | refine .inl ⟨by first | assumption | omega | with_reducible rfl | (refine fun h => h ?_; first | assumption | with_reducible rfl) | (simp only [List.length_append, List.length_cons, List.length_nil, List.length_set] <;> omega) | decide, ?_⟩ | refine .inr ⟨by first | assumption | omega | with_reducible rfl | (refine fun h => h ?_; first | assumption | with_reducible rfl) | (simp only [List.length_append, List.length_cons, List.length_nil, List.length_set] <;> omega) | decide, ?_⟩) | ((first | refine WPA.ifBt ?_ ?_ | refine WPA.ifBnf ?_ ?_); assumption) | ((first | refine WPA.ifBnt ?_ ?_ | refine WPA.ifBf ?_ ?_); assumption) | ((first | refine WPA.ifs ?_ ?_ | refine WPA.ifB ?_ ?_) <;> intro hc))
  exact QQ.end_ rfl _ rfl fun w h => h.to
theorem Values1_tr {V lb : Nat} {s : SV} {ids : List Int} {τ ω : Type} (Lk : τ → List HP) (ix : τ → Nat) (C : τ → Prop) (Bz : ω → World → Prop) (hs : SlI I s Int inferInstance ids) (hn : ids.length ≤ 1000000000)
    (hy : ∀ x : τ, C x → ix x < ids.length → YTr Try.prog lb #[.int .i64 (at_ ids (ix x : Int))] (SL w0 I (Bk V 23 [.slice s.a s.n s.cap] :: Lk x)) (fun y : τ ⊕ ω => .bool y.isLeft)
      (fun y w => match y with | .inl x' => (C x' ∧ ix x' = ix x + 1) ∧ SL w0 I (Bk V 23 [.slice s.a s.n s.cap] :: Lk x') w | .inr z => Bz z w))
    (x0 : τ) (hC : C x0) (h0 : ix x0 = 0) (hix : ∀ x, C x → ix x ≤ ids.length) :
    Tr Try.prog 68 #[.func (.yield lb) #[] #[], .pointer (some ⟨V, 0, none⟩)] (SL w0 I (Bk V 23 [.slice s.a s.n s.cap] :: Lk x0)) (fun _ : τ ⊕ ω => .tuple #[])
      (fun y w => match y with | .inl x' => (C x' ∧ ix x' = ids.length) ∧ SL w0 I (Bk V 23 [.slice s.a s.n s.cap] :: Lk x') w | .inr z => Bz z w) := by
  refine Tr.intro Try.func68 rfl Try.ntmps68 rfl ?_
  repeat' (first | ((first | refine WLA.m rfl rfl ?_ ?_ | refine WLA.st rfl ?_ ?_ | refine WLA.x rfl rfl ?_ (fun x => ?_) | refine WLA.x0 rfl ?_ (fun x => ?_)); first | exact trivial | exact rfl | assumption | omega | (refine ⟨?_, ?_⟩ <;> omega) | (simp only [Room, List.length_set, List.length_append, List.length_cons, List.length_nil, List.length_replicate]; omega) | decide | skip) | (refine Stp.go ?_) | (refine WPA.ifT ?_) | (refine WPA.ifF ?_) | ((first | refine WPA.dec ?_); first | refine .inl ⟨by first | assumption | omega | with_reducible rfl | (refine fun h => h ?_; first | assumption | with_reducible rfl) | (simp only [List.length_append, List.length_cons, List.length_nil, List.length_set] <;> omega) | decide, ?_⟩ | refine .inr ⟨by first | assumption | omega | with_reducible rfl | (refine fun h => h ?_; first | assumption | with_reducible rfl) | (simp only [List.length_append, List.length_cons, List.length_nil, List.length_set] <;> omega) | decide, ?_⟩) | ((first | refine WPA.ifBt ?_ ?_ | refine WPA.ifBnf ?_ ?_); assumption) | ((first | refine WPA.ifBnt ?_ ?_ | refine WPA.ifBf ?_ ?_); assumption) | ((first | refine WPA.ifs ?_ ?_ | refine WPA.ifB ?_ ?_) <;> intro hc))
  refine WPA.loopS (σ := τ) (fun x => [(0, .func (.yield lb) #[] #[]), (5, .slice s.a s.n s.cap), (6, .int .i64 ids.length), (7, .int .i64 (ix x))]) C
    (fun x => SL w0 I (Bk V 23 [.slice s.a s.n s.cap] :: Lk x)) (fun x => ids.length - ix x) x0 ⟨rfl, rfl, rfl, by rw [h0]; rfl, trivial⟩ hC (fun w h => h) ?_
  intro x ρ hCx
  have hxl := hix x hCx
  by_cases hlt : ix x < ids.length
  · have hlt' : (ix x : Int) < ids.length := by omega
    have hir : (0 : Int) ≤ (ix x : Int) ∧ (ix x : Int) < ids.length := by omega
    repeat' (first | ((first | refine WLA.m rfl rfl ?_ ?_ | refine WLA.st rfl ?_ ?_ | refine WLA.x rfl rfl ?_ (fun x => ?_) | refine WLA.x0 rfl ?_ (fun x => ?_)); first | exact trivial | exact rfl | assumption | omega | (refine ⟨?_, ?_⟩ <;> omega) | (simp only [Room, List.length_set, List.length_append, List.length_cons, List.length_nil, List.length_replicate]; omega) | decide | skip) | (refine Stp.go ?_) | (guard_target =~ WLA _ _ _ _ _ (⟨_, .call ⟨.value (.tmp _), _, _⟩, _, _, _, _⟩ :: _) _ _; refine WLA.yield rfl rfl ((hy x hCx hlt).ent) ?_; rintro (x' | z)) | (refine WPA.ifT ?_) | (refine WPA.ifF ?_) | ((first | refine WPA.dec ?_); first | refine .inl ⟨by first | assumption | omega | with_reducible rfl | (refine fun h => h ?_; first | assumption | with_reducible rfl) | (simp only [List.length_append, List.length_cons, List.length_nil, List.length_set] <;> omega) | decide, ?_⟩ | refine .inr ⟨by first | assumption | omega | with_reducible rfl | (refine fun h => h ?_; first | assumption | with_reducible rfl) | (simp only [List.length_append, List.length_cons, List.length_nil, List.length_set] <;> omega) | decide, ?_⟩) | ((first | refine WPA.ifBt ?_ ?_ | refine WPA.ifBnf ?_ ?_); assumption) | ((first | refine WPA.ifBnt ?_ ?_ | refine WPA.ifBf ?_ ?_); assumption) | ((first | refine WPA.ifs ?_ ?_ | refine WPA.ifB ?_ ?_) <;> intro hc))
    · refine QQ.pre fun hC' => ?_
      exact QQ.loopS x' ⟨rfl, rfl, rfl, by rw [hC'.2]; rfl, trivial⟩ hC'.1 (by have := hC'.2; omega) (fun w h => h)
    · exact QQ.end_ rfl (.inr z) rfl fun w h => h
  · have hlt' : ¬ (ix x : Int) < ids.length := by omega
    repeat' (first | ((first | refine WLA.m rfl rfl ?_ ?_ | refine WLA.st rfl ?_ ?_ | refine WLA.x rfl rfl ?_ (fun x => ?_) | refine WLA.x0 rfl ?_ (fun x => ?_)); first | exact trivial | exact rfl | assumption | omega | (refine ⟨?_, ?_⟩ <;> omega) | (simp only [Room, List.length_set, List.length_append, List.length_cons, List.length_nil, List.length_replicate]; omega) | decide | skip) | (refine Stp.go ?_) | (refine WPA.ifT ?_) | (refine WPA.ifF ?_) | ((first | refine WPA.dec ?_); first | refine .inl ⟨by first | assumption | omega | with_reducible rfl | (refine fun h => h ?_; first | assumption | with_reducible rfl) | (simp only [List.length_append, List.length_cons, List.length_nil, List.length_set] <;> omega) | decide, ?_⟩ | refine .inr ⟨by first | assumption | omega | with_reducible rfl | (refine fun h => h ?_; first | assumption | with_reducible rfl) | (simp only [List.length_append, List.length_cons, List.length_nil, List.length_set] <;> omega) | decide, ?_⟩) | ((first | refine WPA.ifBt ?_ ?_ | refine WPA.ifBnf ?_ ?_); assumption) | ((first | refine WPA.ifBnt ?_ ?_ | refine WPA.ifBf ?_ ?_); assumption) | ((first | refine WPA.ifs ?_ ?_ | refine WPA.ifB ?_ ?_) <;> intro hc))
    exact QQ.endn rfl (.inl x) rfl fun w h => ⟨⟨hCx, by omega⟩, h⟩
theorem AppendSeq_tr {V : Nat} {s : SV} {ids : List Int} (hs : SlI I s Int inferInstance ids) (hn : ids.length ≤ 1000000) :
    Tr Try.prog 76 #[.slice none 0 0, .func (.func 68) #[] #[.pointer (some ⟨V, 0, none⟩)]] (SL w0 I (Bk V 23 [.slice s.a s.n s.cap] :: L)) (fun r : SV => .slice r.a r.n r.cap) (fun r => SL w0 I (OwnS 3 r ids :: L)) := by
  refine Tr.intro Try.func76 rfl Try.ntmps76 rfl ?_
  repeat' (first | ((first | refine WLA.m rfl rfl ?_ ?_ | refine WLA.st rfl ?_ ?_ | refine WLA.x rfl rfl ?_ (fun x => ?_) | refine WLA.x0 rfl ?_ (fun x => ?_)); first | exact trivial | exact rfl | assumption | omega | (refine ⟨?_, ?_⟩ <;> omega) | (simp only [Room, List.length_set, List.length_append, List.length_cons, List.length_nil, List.length_replicate]; omega) | decide | skip) | (refine Stp.go ?_) | (refine WPA.ifT ?_) | (refine WPA.ifF ?_) | ((first | refine WPA.dec ?_); first | refine .inl ⟨by first | assumption | omega | with_reducible rfl | (refine fun h => h ?_; first | assumption | with_reducible rfl) | (simp only [List.length_append, List.length_cons, List.length_nil, List.length_set] <;> omega) | decide, ?_⟩ | refine .inr ⟨by first | assumption | omega | with_reducible rfl | (refine fun h => h ?_; first | assumption | with_reducible rfl) | (simp only [List.length_append, List.length_cons, List.length_nil, List.length_set] <;> omega) | decide, ?_⟩) | ((first | refine WPA.ifBt ?_ ?_ | refine WPA.ifBnf ?_ ?_); assumption) | ((first | refine WPA.ifBnt ?_ ?_ | refine WPA.ifBf ?_ ?_); assumption) | ((first | refine WPA.ifs ?_ ?_ | refine WPA.ifB ?_ ?_) <;> intro hc))
  revert x; intro A
  refine WPA.rangeS fun D rc hrc => ?_
  let Lk : Nat × SV → List HP := fun k => Ob (D + 1) (rc .ready none) :: Ob D (.deferred (some [])) :: Bk A 23 [.slice k.2.a k.2.n k.2.cap] :: OwnS 3 k.2 (ids.take k.1) :: L
  refine ⟨SV, fun _ => .tuple #[], fun _ => .ready, fun _ => none, fun q => Ob D (.deferred (some [])) :: Bk V 23 [.slice s.a s.n s.cap] :: Bk A 23 [.slice q.a q.n q.cap] :: OwnS 3 q ids :: L, ?_, ?_⟩
  · refine (Values1_tr (w0 := w0) (I := I) (V := V) (s := s) (ω := Empty) Lk (fun k => k.1) (fun k => k.1 ≤ ids.length) (fun z _ => z.elim) hs (by omega) ?_ (0, SV.nil) (Nat.zero_le _) rfl (fun x h => h)).conv (fun w h => ?_) ?_
    · rintro ⟨k, q⟩ hk hkl
      dsimp only at hk hkl
      have hroom : Room ((ids.take k).length + 1) 8 := ⟨by rw [List.length_take]; omega, by rw [List.length_take]; omega⟩
      have htk : ids.take (k + 1) = ids.take k ++ [at_ ids (k : Int)] := by rw [List.take_add_one, List.getElem?_eq_getElem hkl, at_nat ids k hkl]; rfl
      dsimp only [Lk]
      refine (YTr.ofS (val := fun y : (Nat × SV) ⊕ Empty => y.isLeft) hrc (agreeP rfl) rfl ?_)
      repeat' (first | ((first | refine WLA.m rfl rfl ?_ ?_ | refine WLA.st rfl ?_ ?_ | refine WLA.x rfl rfl ?_ (fun x => ?_) | refine WLA.x0 rfl ?_ (fun x => ?_)); first | exact trivial | exact rfl | assumption | omega | (refine ⟨?_, ?_⟩ <;> omega) | (simp only [Room, List.length_set, List.length_append, List.length_cons, List.length_nil, List.length_replicate]; omega) | decide | skip) | (refine Stp.go ?_) | (refine WPA.ifT ?_) | (refine WPA.ifF ?_) | ((first | refine WPA.dec ?_); first | refine .inl ⟨by first | assumption | omega | with_reducible rfl | (refine fun h => h ?_; first | assumption | with_reducible rfl) | (simp only [List.length_append, List.length_cons, List.length_nil, List.length_set] <;> omega) | decide, ?_⟩ | refine .inr ⟨by first | assumption | omega | with_reducible rfl | (refine fun h => h ?_; first | assumption | with_reducible rfl) | (simp only [List.length_append, List.length_cons, List.length_nil, List.length_set] <;> omega) | decide, ?_⟩) | ((first | refine WPA.ifBt ?_ ?_ | refine WPA.ifBnf ?_ ?_); assumption) | ((first | refine WPA.ifBnt ?_ ?_ | refine WPA.ifBf ?_ ?_); assumption) | ((first | refine WPA.ifs ?_ ?_ | refine WPA.ifB ?_ ?_) <;> intro hc))
      refine QQ.midS ?_
      repeat' (first | ((first | refine WLA.m rfl rfl ?_ ?_ | refine WLA.st rfl ?_ ?_ | refine WLA.x rfl rfl ?_ (fun x => ?_) | refine WLA.x0 rfl ?_ (fun x => ?_)); first | exact trivial | exact rfl | assumption | omega | (refine ⟨?_, ?_⟩ <;> omega) | (simp only [Room, List.length_set, List.length_append, List.length_cons, List.length_nil, List.length_replicate]; omega) | decide | skip) | (refine Stp.go ?_) | (refine WPA.ifT ?_) | (refine WPA.ifF ?_) | ((first | refine WPA.dec ?_); first | refine .inl ⟨by first | assumption | omega | with_reducible rfl | (refine fun h => h ?_; first | assumption | with_reducible rfl) | (simp only [List.length_append, List.length_cons, List.length_nil, List.length_set] <;> omega) | decide, ?_⟩ | refine .inr ⟨by first | assumption | omega | with_reducible rfl | (refine fun h => h ?_; first | assumption | with_reducible rfl) | (simp only [List.length_append, List.length_cons, List.length_nil, List.length_set] <;> omega) | decide, ?_⟩) | ((first | refine WPA.ifBt ?_ ?_ | refine WPA.ifBnf ?_ ?_); assumption) | ((first | refine WPA.ifBnt ?_ ?_ | refine WPA.ifBf ?_ ?_); assumption) | ((first | refine WPA.ifs ?_ ?_ | refine WPA.ifB ?_ ?_) <;> intro hc))
      exact QQ.rndN (fun w h => ⟨.inl (k + 1, x), rfl, ⟨⟨hkl, rfl⟩, by dsimp only; rw [htk]; exact h.to⟩⟩)
    · dsimp only [Lk]
      have h2 := (Ent.ownNil (α := Int) (t := 3) Ent.refl).sl h
      have h3 : SL w0 I (Bk V 23 [.slice s.a s.n s.cap] :: Ob (D + 1) (rc .ready none) :: Ob D (.deferred (some [])) :: Bk A 23 [.slice none 0 0] :: OwnS 3 SV.nil ([] : List Int) :: L) w := h2.to
      exact h3
    · rintro (⟨k, q⟩ | x) w hb
      · refine ⟨q, rfl, ?_⟩
        have h := hb.2
        have e : k = ids.length := hb.1.2
        subst e
        dsimp only [Lk] at h ⊢
        rw [List.take_length] at h
        exact h.to
      · exact x.elim
  · intro q
    refine ⟨by simp, ?_⟩
    show QQ _ _ _ _
    dsimp only
    repeat' (first | ((first | refine WLA.m rfl rfl ?_ ?_ | refine WLA.st rfl ?_ ?_ | refine WLA.x rfl rfl ?_ (fun x => ?_) | refine WLA.x0 rfl ?_ (fun x => ?_)); first | exact trivial | exact rfl | assumption | omega | (refine ⟨?_, ?_⟩ <;> omega) | (simp only [Room, List.length_set, List.length_append, List.length_cons, List.length_nil, List.length_replicate]; omega) | decide | skip) | (refine Stp.go ?_) | (refine WPA.ifT ?_) | (refine WPA.ifF ?_) | ((first | refine WPA.dec ?_); first | refine .inl ⟨by first | assumption | omega | with_reducible rfl | (refine fun h => h ?_; first | assumption | with_reducible rfl) | (simp only [List.length_append, List.length_cons, List.length_nil, List.length_set] <;> omega) | decide, ?_⟩ | refine .inr ⟨by first | assumption | omega | with_reducible rfl | (refine fun h => h ?_; first | assumption | with_reducible rfl) | (simp only [List.length_append, List.length_cons, List.length_nil, List.length_set] <;> omega) | decide, ?_⟩) | ((first | refine WPA.ifBt ?_ ?_ | refine WPA.ifBnf ?_ ?_); assumption) | ((first | refine WPA.ifBnt ?_ ?_ | refine WPA.ifBf ?_ ?_); assumption) | ((first | refine WPA.ifs ?_ ?_ | refine WPA.ifB ?_ ?_) <;> intro hc))
    exact QQ.fin [D] (L' := OwnS 3 q ids :: L) rfl (EntC.out (L' := Ob D (.deferred (some [])) :: OwnS 3 q ids :: L)) rfl q rfl fun w h => h.to
theorem Collect_tr {V : Nat} {s : SV} {ids : List Int} (hs : SlI I s Int inferInstance ids) (hn : ids.length ≤ 1000000) :
    Tr Try.prog 66 #[.func (.func 68) #[] #[.pointer (some ⟨V, 0, none⟩)]] (SL w0 I (Bk V 23 [.slice s.a s.n s.cap] :: L)) (fun r : SV => .slice r.a r.n r.cap) (fun r => SL w0 I (OwnS 3 r ids :: L)) := by
  refine Tr.intro Try.func66 rfl Try.ntmps66 rfl ?_
  repeat' (first | ((first | refine WLA.m rfl rfl ?_ ?_ | refine WLA.st rfl ?_ ?_ | refine WLA.x rfl rfl ?_ (fun x => ?_) | refine WLA.x0 rfl ?_ (fun x => ?_)); first | exact trivial | exact rfl | assumption | omega | (refine ⟨?_, ?_⟩ <;> omega) | (simp only [Room, List.length_set, List.length_append, List.length_cons, List.length_nil, List.length_replicate]; omega) | decide | skip) | (refine Stp.go ?_) | (guard_target =~ WLA _ _ _ _ _ (⟨_, .call ⟨.value (.func 76), _, _⟩, _, _, _, _⟩ :: _) _ _; first | (refine WLA.call rfl rfl (AppendSeq_tr hs hn) ?_; rintro r) | (refine WLA.call0 rfl (AppendSeq_tr hs hn) ?_; rintro r)) | (refine WPA.ifT ?_) | (refine WPA.ifF ?_) | ((first | refine WPA.dec ?_); first | refine .inl ⟨by first | assumption | omega | with_reducible rfl | (refine fun h => h ?_; first | assumption | with_reducible rfl) | (simp only [List.length_append, List.length_cons, List.length_nil, List.length_set] <;> omega) | decide, ?_⟩ | refine .inr ⟨by first | assumption | omega | with_reducible rfl | (refine fun h => h ?_; first | assumption | with_reducible rfl) | (simp only [List.length_append, List.length_cons, List.length_nil, List.length_set] <;> omega) | decide, ?_⟩) | ((first | refine WPA.ifBt ?_ ?_ | refine WPA.ifBnf ?_ ?_); assumption) | ((first | refine WPA.ifBnt ?_ ?_ | refine WPA.ifBf ?_ ?_); assumption) | ((first | refine WPA.ifs ?_ ?_ | refine WPA.ifB ?_ ?_) <;> intro hc))
  exact QQ.end_ rfl r rfl fun w h => h.to
def srtI (ids : List Int) : List Int := ids.mergeSort fun x y => decide (x ≤ y)
theorem Sorted_tr {V : Nat} {s : SV} {ids : List Int} (hs : SlI I s Int inferInstance ids) (hn : ids.length ≤ 1000000) :
    Tr Try.prog 48 #[.func (.func 68) #[] #[.pointer (some ⟨V, 0, none⟩)]] (SL w0 I (Bk V 23 [.slice s.a s.n s.cap] :: L)) (fun r : SV => .slice r.a r.n r.cap) (fun r => SL w0 I (OwnS 3 r (srtI ids) :: L)) := by
  refine Tr.intro Try.func48 rfl Try.ntmps48 rfl ?_
  have hsort : ∀ {r : SV} {L : List HP}, Tr Try.prog 67 #[.slice r.a r.n r.cap] (SL w0 I (OwnS 3 r ids :: L)) (fun _ : Unit => .tuple #[]) (fun _ => SL w0 I (OwnS 3 r (srtI ids) :: L)) := fun {r L} => sortI_tr (ρ := Try.sortI_ren) Try.sortI (by omega)
  repeat' (first | ((first | refine WLA.m rfl rfl ?_ ?_ | refine WLA.st rfl ?_ ?_ | refine WLA.x rfl rfl ?_ (fun x => ?_) | refine WLA.x0 rfl ?_ (fun x => ?_)); first | exact trivial | exact rfl | assumption | omega | (refine ⟨?_, ?_⟩ <;> omega) | (simp only [Room, List.length_set, List.length_append, List.length_cons, List.length_nil, List.length_replicate]; omega) | decide | skip) | (refine Stp.go ?_) | (guard_target =~ WLA _ _ _ _ _ (⟨_, .call ⟨.value (.func 66), _, _⟩, _, _, _, _⟩ :: _) _ _; first | (refine WLA.call rfl rfl (Collect_tr hs hn) ?_; rintro r) | (refine WLA.call0 rfl (Collect_tr hs hn) ?_; rintro r)) | (guard_target =~ WLA _ _ _ _ _ (⟨_, .call ⟨.value (.func 67), _, _⟩, _, _, _, _⟩ :: _) _ _; first | (refine WLA.call rfl rfl (hsort) ?_; rintro ⟨⟩) | (refine WLA.call0 rfl (hsort) ?_; rintro ⟨⟩)) | (refine WPA.ifT ?_) | (refine WPA.ifF ?_) | ((first | refine WPA.dec ?_); first | refine .inl ⟨by first | assumption | omega | with_reducible rfl | (refine fun h => h ?_; first | assumption | with_reducible rfl) | (simp only [List.length_append, List.length_cons, List.length_nil, List.length_set] <;> omega) | decide, ?_⟩ | refine .inr ⟨by first | assumption | omega | with_reducible rfl | (refine fun h => h ?_; first | assumption | with_reducible rfl) | (simp only [List.length_append, List.length_cons, List.length_nil, List.length_set] <;> omega) | decide, ?_⟩) | ((first | refine WPA.ifBt ?_ ?_ | refine WPA.ifBnf ?_ ?_); assumption) | ((first | refine WPA.ifBnt ?_ ?_ | refine WPA.ifBf ?_ ?_); assumption) | ((first | refine WPA.ifs ?_ ?_ | refine WPA.ifB ?_ ?_) <;> intro hc))
  exact QQ.end_ rfl r rfl fun w h => h.to
end
end Go.Proofs.Ytbekjbgaenjbfaa
namespace Go.Proofs.Ytbekjbgaenjbfaa
open Go Go.Fw Go.RowKit
set_option linter.unusedVariables false
set_option linter.unusedSimpArgs false
set_option maxRecDepth 100000
set_option maxHeartbeats 16000000
set_option synthInstance.maxHeartbeats 200000
set_option synthInstance.maxSize 100000
attribute [local irreducible] WPA WLA WDA WDQ WDE QQ seqQ blockQ loopQ fnQ OpP OpT Tr TrP SL SLd OwnS LitS Bk BkE Ob
def Right (m : BS) (ids : List Int) : Prop := (∀ i ∈ ids, Has m.tk i) ∧ ids.Nodup
theorem srt_perm (ids : List Int) : (srtI ids).Perm ids := List.mergeSort_perm _ _
theorem srt_len (ids : List Int) : (srtI ids).length = ids.length := (srt_perm ids).length_eq
theorem srt_pair (ids : List Int) : (srtI ids).Pairwise (· ≤ ·) := by
  have := List.pairwise_mergeSort (le := fun x y : Int => decide (x ≤ y)) (fun a b c h1 h2 => by simp only [decide_eq_true_eq] at *; omega) (fun a b => by simp only [Bool.or_eq_true, decide_eq_true_eq]; omega) ids
  exact this.imp fun h => by simpa using h
def OkAt (m : BS) (l : List Int) (j : Nat) : Prop := Has m.tk (at_ l (j : Int)) ∧ (0 < j → at_ l ((j : Int) - 1) ≠ at_ l (j : Int))
theorem right_of {m : BS} {ids : List Int} (h : ∀ j, j < (srtI ids).length → OkAt m (srtI ids) j) : Right m ids := by
  have hp := List.pairwise_iff_getElem.1 (srt_pair ids)
  have hs := srt_perm ids
  refine ⟨fun i hi => ?_, hs.nodup_iff.1 (List.nodup_iff_pairwise_ne.2 (List.pairwise_iff_getElem.2 fun i j hi hj hij => ?_))⟩
  · obtain ⟨j, hj, e⟩ := List.mem_iff_getElem.1 (hs.mem_iff.2 hi)
    have := (h j hj).1
    rw [at_nat _ j hj, e] at this
    exact this
  · have h1 := (h j hj).2 (by omega)
    rw [show (j : Int) - 1 = ((j - 1 : Nat) : Int) by omega, at_nat _ (j - 1) (by omega), at_nat _ j hj] at h1
    have h2 := hp (j - 1) j (by omega) hj (by omega)
    by_cases e : i = j - 1
    · subst e; exact h1
    · have h3 := hp i (j - 1) hi (by omega) (by omega)
      intro h4; omega
theorem ok_of {m : BS} {ids : List Int} (h : Right m ids) {j : Nat} (hj : j < (srtI ids).length) : OkAt m (srtI ids) j := by
  have hs := srt_perm ids
  refine ⟨by rw [at_nat _ j hj]; exact h.1 _ (hs.mem_iff.1 (List.getElem_mem _)), fun h0 => ?_⟩
  rw [show (j : Int) - 1 = ((j - 1 : Nat) : Int) by omega, at_nat _ (j - 1) (by omega), at_nat _ j hj]
  exact List.pairwise_iff_getElem.1 (List.nodup_iff_pairwise_ne.1 (hs.nodup_iff.2 h.2)) (j - 1) j (by omega) hj (by omega)
theorem has_free {m : BS} {i j : Int} (h : Has m.tk i) (hj : 0 ≤ j) (hne : i ≠ j) : Has (m.free j).tk i ∧ at_ (m.free j).ts i = at_ m.ts i := by
  obtain ⟨a, rfl, ha⟩ := has_int h
  have hn : j.toNat ≠ a := by omega
  constructor
  · refine has_nat.2 ?_
    show (m.tk.set j.toNat false)[a]? = some true
    rw [List.getElem?_set_ne hn]; exact ha
  · show at_ (m.ts.set j.toNat ⟨#[]⟩) (a : Int) = _
    unfold at_
    rw [List.getD_eq_getElem?_getD, List.getD_eq_getElem?_getD, Int.toNat_natCast, List.getElem?_set_ne hn]
structure Freed (m m' : BS) (l : List Int) : Prop where
  ok : m'.Ok
  used : m'.used = m.used - l.length
  keep : ∀ i, Has m.tk i → i ∉ l → Has m'.tk i ∧ at_ m'.ts i = at_ m.ts i
theorem frees : ∀ (l : List Int) {m : BS}, m.Ok → l.Nodup → (∀ i ∈ l, Has m.tk i) → Freed m (l.foldl BS.free m) l
  | [], m, ok, _, _ => ⟨ok, by simp, fun i h _ => ⟨h, rfl⟩⟩
  | a :: l, m, ok, hn, hh => by
    have ha := hh a (List.mem_cons_self ..)
    have hn2 := List.nodup_cons.1 hn
    have F := frees l (m := m.free a) (ok.free ha) hn2.2 fun i hi => (has_free (hh i (List.mem_cons_of_mem _ hi)) ha.1.1 (fun e => hn2.1 (e ▸ hi))).1
    refine ⟨F.ok, ?_, fun i h1 h2 => ?_⟩
    · have := F.used
      rw [List.foldl_cons, this, List.length_cons]
      show m.used - 1 - _ = _
      omega
    · have h3 := has_free h1 ha.1.1 fun e => h2 (e ▸ List.mem_cons_self ..)
      have h4 := F.keep i h3.1 fun h => h2 (List.mem_cons_of_mem _ h)
      exact ⟨h4.1, h4.2.trans h3.2⟩
section
variable {S : Nat} {m : BS} {L L' : List HP} {w0 : World} {I : Foot}
theorem runFree_nil {o n : Int} {b : SV} : Tr Try.prog 28 #[.pointer none, .agg #[.int .i64 o, .int .i64 n, .slice b.a b.n b.cap]] (SL w0 I L) (fun _ : Unit => .int .i64 11) (fun _ => SL w0 I L) := by
  refine Tr.intro Try.func28 rfl Try.ntmps28 rfl ?_
  repeat' (first | ((first | refine WLA.m rfl rfl ?_ ?_ | refine WLA.st rfl ?_ ?_ | refine WLA.x rfl rfl ?_ (fun x => ?_) | refine WLA.x0 rfl ?_ (fun x => ?_)); first | exact trivial | exact rfl | assumption | omega | (refine ⟨?_, ?_⟩ <;> omega) | (simp only [Room, List.length_set, List.length_append, List.length_cons, List.length_nil, List.length_replicate]; omega) | decide | skip) | (refine Stp.go ?_) | (refine WPA.ifT ?_) | (refine WPA.ifF ?_) | ((first | refine WPA.dec ?_); first | refine .inl ⟨by first | assumption | omega | with_reducible rfl | (refine fun h => h ?_; first | assumption | with_reducible rfl) | (simp only [List.length_append, List.length_cons, List.length_nil, List.length_set] <;> omega) | decide, ?_⟩ | refine .inr ⟨by first | assumption | omega | with_reducible rfl | (refine fun h => h ?_; first | assumption | with_reducible rfl) | (simp only [List.length_append, List.length_cons, List.length_nil, List.length_set] <;> omega) | decide, ?_⟩) | ((first | refine WPA.ifBt ?_ ?_ | refine WPA.ifBnf ?_ ?_); assumption) | ((first | refine WPA.ifBnt ?_ ?_ | refine WPA.ifBf ?_ ?_); assumption) | ((first | refine WPA.ifs ?_ ?_ | refine WPA.ifB ?_ ?_) <;> intro hc))
  exact QQ.end_ rfl () rfl fun w h => h.to
theorem runFree_no {o n : Int} {b : SV} {ids : List Int} [h : FindK L StoreR S m L'] (hs : SlI I b Int inferInstance ids) (hn : ids.length ≤ 1000000) (hr : ¬ Right m ids) :
    Tr Try.prog 28 #[.pointer (some ⟨S, 0, none⟩), .agg #[.int .i64 o, .int .i64 n, .slice b.a b.n b.cap]] (SL w0 I L) (fun _ : Unit => .int .i64 7) (fun _ => SL w0 I (StoreR S m :: L')) := by
  refine Tr.at h.out ?_
  refine Tr.intro Try.func28 rfl Try.ntmps28 rfl ?_
  have hsl := srt_len ids
  have hro := right_of (m := m) (ids := ids)
  generalize hsr : srtI ids = srt at hsl hro
  have hst : ∀ {V : Nat} {L : List HP}, Tr Try.prog 48 #[.func (.func 68) #[] #[.pointer (some ⟨V, 0, none⟩)]] (SL w0 I (Bk V 23 [.slice b.a b.n b.cap] :: L)) (fun r : SV => .slice r.a r.n r.cap) (fun r => SL w0 I (OwnS 3 r srt :: L)) := fun {V L} => by rw [← hsr]; exact Sorted_tr hs hn
  repeat' (first | ((first | refine WLA.m rfl rfl ?_ ?_ | refine WLA.st rfl ?_ ?_ | refine WLA.x rfl rfl ?_ (fun x => ?_) | refine WLA.x0 rfl ?_ (fun x => ?_)); first | exact trivial | exact rfl | assumption | omega | (refine ⟨?_, ?_⟩ <;> omega) | (simp only [Room, List.length_set, List.length_append, List.length_cons, List.length_nil, List.length_replicate]; omega) | decide | skip) | (refine Stp.go ?_) | (guard_target =~ WLA _ _ _ _ _ (⟨_, .call ⟨.value (.func 49), _, _⟩, _, _, _, _⟩ :: _) _ _; first | (refine WLA.call rfl rfl (Values_tr) ?_; rintro V) | (refine WLA.call0 rfl (Values_tr) ?_; rintro V)) | (guard_target =~ WLA _ _ _ _ _ (⟨_, .call ⟨.value (.func 48), _, _⟩, _, _, _, _⟩ :: _) _ _; first | (refine WLA.call rfl rfl (hst) ?_; rintro q) | (refine WLA.call0 rfl (hst) ?_; rintro q)) | (refine WPA.ifT ?_) | (refine WPA.ifF ?_) | ((first | refine WPA.dec ?_); first | refine .inl ⟨by first | assumption | omega | with_reducible rfl | (refine fun h => h ?_; first | assumption | with_reducible rfl) | (simp only [List.length_append, List.length_cons, List.length_nil, List.length_set] <;> omega) | decide, ?_⟩ | refine .inr ⟨by first | assumption | omega | with_reducible rfl | (refine fun h => h ?_; first | assumption | with_reducible rfl) | (simp only [List.length_append, List.length_cons, List.length_nil, List.length_set] <;> omega) | decide, ?_⟩) | ((first | refine WPA.ifBt ?_ ?_ | refine WPA.ifBnf ?_ ?_); assumption) | ((first | refine WPA.ifBnt ?_ ?_ | refine WPA.ifBf ?_ ?_); assumption) | ((first | refine WPA.ifs ?_ ?_ | refine WPA.ifB ?_ ?_) <;> intro hc))
  refine WPA.loopS (σ := Nat) (fun i => [(0, .pointer (some ⟨S, 0, none⟩)), (5, .slice q.a q.n q.cap), (18, .slice q.a q.n q.cap), (19, .int .i64 srt.length), (20, .int .i64 i)]) (fun i => i ≤ srt.length ∧ ∀ j, j < i → OkAt m srt j) (fun i => SL w0 I (OwnS 3 q srt :: StoreR S m :: L')) (fun i => srt.length - i) 0 ⟨rfl, rfl, rfl, rfl, rfl, trivial⟩ ⟨Nat.zero_le _, fun j hj => absurd hj (Nat.not_lt_zero _)⟩ (fun w h => h.to) ?_
  rintro i ρ ⟨hi, hj⟩
  by_cases hlt : i < srt.length
  · have hlt' : (i : Int) < srt.length := by omega
    have hir : (0 : Int) ≤ i ∧ (i : Int) < srt.length := by omega
    obtain ⟨id, hid⟩ : ∃ id : Int, at_ srt (i : Int) = id := ⟨_, rfl⟩
    by_cases hh : Has m.tk id
    · by_cases h0 : 0 < i
      · have h0' : (0 : Int) < i := by omega
        have hir2 : (0 : Int) ≤ (i : Int) - 1 ∧ (i : Int) - 1 < srt.length := by omega
        obtain ⟨p, hp⟩ : ∃ p : Int, at_ srt ((i : Int) - 1) = p := ⟨_, rfl⟩
        by_cases he : p = id
        · skip
          repeat' (first | ((rw [hid])) | ((rw [hp])) | ((first | refine WLA.m rfl rfl ?_ ?_ | refine WLA.st rfl ?_ ?_ | refine WLA.x rfl rfl ?_ (fun x => ?_) | refine WLA.x0 rfl ?_ (fun x => ?_)); first | exact trivial | exact rfl | assumption | omega | (refine ⟨?_, ?_⟩ <;> omega) | (simp only [Room, List.length_set, List.length_append, List.length_cons, List.length_nil, List.length_replicate]; omega) | decide | skip) | (refine Stp.go ?_) | (guard_target =~ WLA _ _ _ _ _ (⟨_, .call ⟨.value (.func 25), _, _⟩, _, _, _, _⟩ :: _) _ _; first | (refine WLA.call rfl rfl (Read_tr hh) ?_; rintro ⟨⟩) | (refine WLA.call0 rfl (Read_tr hh) ?_; rintro ⟨⟩)) | (refine WPA.ifT ?_) | (refine WPA.ifF ?_) | (refine WLA.no rfl rfl ?_) | ((first | refine WPA.dec ?_ | ((fail_if_success (guard_target =~ WLA _ _ _ _ _ _ (put1 _ _ (.bool true)) _)); (fail_if_success (guard_target =~ WLA _ _ _ _ _ _ (put1 _ _ (.bool false)) _)); refine WLA.dec rfl rfl ?_) | refine WLA.pk ?_); first | refine .inl ⟨by first | assumption | omega | with_reducible rfl | (refine fun h => h ?_; first | assumption | with_reducible rfl) | (simp only [List.length_append, List.length_cons, List.length_nil, List.length_set] <;> omega) | decide, ?_⟩ | refine .inr ⟨by first | assumption | omega | with_reducible rfl | (refine fun h => h ?_; first | assumption | with_reducible rfl) | (simp only [List.length_append, List.length_cons, List.length_nil, List.length_set] <;> omega) | decide, ?_⟩) | ((first | refine WPA.ifBt ?_ ?_ | refine WPA.ifBnf ?_ ?_); assumption) | ((first | refine WPA.ifBnt ?_ ?_ | refine WPA.ifBf ?_ ?_); assumption) | ((first | refine WPA.ifs ?_ ?_ | refine WPA.ifB ?_ ?_) <;> intro hc) | ((fail_if_success (guard_target =~ WLA _ _ _ _ _ _ (put1 _ _ (.bool true)) _)); (fail_if_success (guard_target =~ WLA _ _ _ _ _ _ (put1 _ _ (.bool false)) _)); (first | refine WLA.both rfl rfl ?_ ?_ | refine WLA.bothB rfl rfl ?_ ?_) <;> intro hg))
          exact QQ.end_ rfl () rfl fun w h => h.to
        · skip
          repeat' (first | ((rw [hid])) | ((rw [hp])) | ((first | refine WLA.m rfl rfl ?_ ?_ | refine WLA.st rfl ?_ ?_ | refine WLA.x rfl rfl ?_ (fun x => ?_) | refine WLA.x0 rfl ?_ (fun x => ?_)); first | exact trivial | exact rfl | assumption | omega | (refine ⟨?_, ?_⟩ <;> omega) | (simp only [Room, List.length_set, List.length_append, List.length_cons, List.length_nil, List.length_replicate]; omega) | decide | skip) | (refine Stp.go ?_) | (guard_target =~ WLA _ _ _ _ _ (⟨_, .call ⟨.value (.func 25), _, _⟩, _, _, _, _⟩ :: _) _ _; first | (refine WLA.call rfl rfl (Read_tr hh) ?_; rintro ⟨⟩) | (refine WLA.call0 rfl (Read_tr hh) ?_; rintro ⟨⟩)) | (refine WPA.ifT ?_) | (refine WPA.ifF ?_) | (refine WLA.no rfl rfl ?_) | ((first | refine WPA.dec ?_ | ((fail_if_success (guard_target =~ WLA _ _ _ _ _ _ (put1 _ _ (.bool true)) _)); (fail_if_success (guard_target =~ WLA _ _ _ _ _ _ (put1 _ _ (.bool false)) _)); refine WLA.dec rfl rfl ?_) | refine WLA.pk ?_); first | refine .inl ⟨by first | assumption | omega | with_reducible rfl | (refine fun h => h ?_; first | assumption | with_reducible rfl) | (simp only [List.length_append, List.length_cons, List.length_nil, List.length_set] <;> omega) | decide, ?_⟩ | refine .inr ⟨by first | assumption | omega | with_reducible rfl | (refine fun h => h ?_; first | assumption | with_reducible rfl) | (simp only [List.length_append, List.length_cons, List.length_nil, List.length_set] <;> omega) | decide, ?_⟩) | ((first | refine WPA.ifBt ?_ ?_ | refine WPA.ifBnf ?_ ?_); assumption) | ((first | refine WPA.ifBnt ?_ ?_ | refine WPA.ifBf ?_ ?_); assumption) | ((first | refine WPA.ifs ?_ ?_ | refine WPA.ifB ?_ ?_) <;> intro hc) | ((fail_if_success (guard_target =~ WLA _ _ _ _ _ _ (put1 _ _ (.bool true)) _)); (fail_if_success (guard_target =~ WLA _ _ _ _ _ _ (put1 _ _ (.bool false)) _)); (first | refine WLA.both rfl rfl ?_ ?_ | refine WLA.bothB rfl rfl ?_ ?_) <;> intro hg))
          exact QQ.loopS (i + 1) ⟨rfl, rfl, rfl, rfl, rfl, trivial⟩ ⟨hlt, fun j hj' => by
            by_cases e : j = i
            · subst e; exact ⟨by rw [hid]; exact hh, fun _ => by rw [hid, hp]; exact he⟩
            · exact hj j (by omega)⟩ (by omega) (fun w h => h.to)
      · have h0' : ¬ (0 : Int) < i := by omega
        repeat' (first | ((rw [hid])) | ((first | refine WLA.m rfl rfl ?_ ?_ | refine WLA.st rfl ?_ ?_ | refine WLA.x rfl rfl ?_ (fun x => ?_) | refine WLA.x0 rfl ?_ (fun x => ?_)); first | exact trivial | exact rfl | assumption | omega | (refine ⟨?_, ?_⟩ <;> omega) | (simp only [Room, List.length_set, List.length_append, List.length_cons, List.length_nil, List.length_replicate]; omega) | decide | skip) | (refine Stp.go ?_) | (guard_target =~ WLA _ _ _ _ _ (⟨_, .call ⟨.value (.func 25), _, _⟩, _, _, _, _⟩ :: _) _ _; first | (refine WLA.call rfl rfl (Read_tr hh) ?_; rintro ⟨⟩) | (refine WLA.call0 rfl (Read_tr hh) ?_; rintro ⟨⟩)) | (refine WPA.ifT ?_) | (refine WPA.ifF ?_) | (refine WLA.no rfl rfl ?_) | ((first | refine WPA.dec ?_ | ((fail_if_success (guard_target =~ WLA _ _ _ _ _ _ (put1 _ _ (.bool true)) _)); (fail_if_success (guard_target =~ WLA _ _ _ _ _ _ (put1 _ _ (.bool false)) _)); refine WLA.dec rfl rfl ?_) | refine WLA.pk ?_); first | refine .inl ⟨by first | assumption | omega | with_reducible rfl | (refine fun h => h ?_; first | assumption | with_reducible rfl) | (simp only [List.length_append, List.length_cons, List.length_nil, List.length_set] <;> omega) | decide, ?_⟩ | refine .inr ⟨by first | assumption | omega | with_reducible rfl | (refine fun h => h ?_; first | assumption | with_reducible rfl) | (simp only [List.length_append, List.length_cons, List.length_nil, List.length_set] <;> omega) | decide, ?_⟩) | ((first | refine WPA.ifBt ?_ ?_ | refine WPA.ifBnf ?_ ?_); assumption) | ((first | refine WPA.ifBnt ?_ ?_ | refine WPA.ifBf ?_ ?_); assumption) | ((first | refine WPA.ifs ?_ ?_ | refine WPA.ifB ?_ ?_) <;> intro hc) | ((fail_if_success (guard_target =~ WLA _ _ _ _ _ _ (put1 _ _ (.bool true)) _)); (fail_if_success (guard_target =~ WLA _ _ _ _ _ _ (put1 _ _ (.bool false)) _)); (first | refine WLA.both rfl rfl ?_ ?_ | refine WLA.bothB rfl rfl ?_ ?_) <;> intro hg))
        exact QQ.loopS (i + 1) ⟨rfl, rfl, rfl, rfl, rfl, trivial⟩ ⟨hlt, fun j hj' => by
          by_cases e : j = i
          · subst e; exact ⟨by rw [hid]; exact hh, fun h => absurd h h0⟩
          · exact hj j (by omega)⟩ (by omega) (fun w h => h.to)
    · skip
      repeat' (first | ((rw [hid])) | ((first | refine WLA.m rfl rfl ?_ ?_ | refine WLA.st rfl ?_ ?_ | refine WLA.x rfl rfl ?_ (fun x => ?_) | refine WLA.x0 rfl ?_ (fun x => ?_)); first | exact trivial | exact rfl | assumption | omega | (refine ⟨?_, ?_⟩ <;> omega) | (simp only [Room, List.length_set, List.length_append, List.length_cons, List.length_nil, List.length_replicate]; omega) | decide | skip) | (refine Stp.go ?_) | (guard_target =~ WLA _ _ _ _ _ (⟨_, .call ⟨.value (.func 25), _, _⟩, _, _, _, _⟩ :: _) _ _; first | (refine WLA.call rfl rfl (Read_no hh) ?_; rintro ⟨⟩) | (refine WLA.call0 rfl (Read_no hh) ?_; rintro ⟨⟩)) | (refine WPA.ifT ?_) | (refine WPA.ifF ?_) | (refine WLA.no rfl rfl ?_) | ((first | refine WPA.dec ?_ | ((fail_if_success (guard_target =~ WLA _ _ _ _ _ _ (put1 _ _ (.bool true)) _)); (fail_if_success (guard_target =~ WLA _ _ _ _ _ _ (put1 _ _ (.bool false)) _)); refine WLA.dec rfl rfl ?_) | refine WLA.pk ?_); first | refine .inl ⟨by first | assumption | omega | with_reducible rfl | (refine fun h => h ?_; first | assumption | with_reducible rfl) | (simp only [List.length_append, List.length_cons, List.length_nil, List.length_set] <;> omega) | decide, ?_⟩ | refine .inr ⟨by first | assumption | omega | with_reducible rfl | (refine fun h => h ?_; first | assumption | with_reducible rfl) | (simp only [List.length_append, List.length_cons, List.length_nil, List.length_set] <;> omega) | decide, ?_⟩) | ((first | refine WPA.ifBt ?_ ?_ | refine WPA.ifBnf ?_ ?_); assumption) | ((first | refine WPA.ifBnt ?_ ?_ | refine WPA.ifBf ?_ ?_); assumption) | ((first | refine WPA.ifs ?_ ?_ | refine WPA.ifB ?_ ?_) <;> intro hc) | ((fail_if_success (guard_target =~ WLA _ _ _ _ _ _ (put1 _ _ (.bool true)) _)); (fail_if_success (guard_target =~ WLA _ _ _ _ _ _ (put1 _ _ (.bool false)) _)); (first | refine WLA.both rfl rfl ?_ ?_ | refine WLA.bothB rfl rfl ?_ ?_) <;> intro hg))
      exact QQ.end_ rfl () rfl fun w h => h.to
  · exact absurd (hro fun j hj' => hj j (by omega)) hr
theorem runFree_ok {o n : Int} {b : SV} {ids : List Int} [h : FindK L StoreR S m L'] (ok : m.Ok) (hs : SlI I b Int inferInstance ids) (hn : ids.length ≤ 1000000) (hr : Right m ids) :
    Tr Try.prog 28 #[.pointer (some ⟨S, 0, none⟩), .agg #[.int .i64 o, .int .i64 n, .slice b.a b.n b.cap]] (SL w0 I L) (fun _ : Unit => .int .i64 0) (fun _ => SL w0 I (StoreR S ((srtI ids).foldl BS.free m) :: L')) := by
  refine Tr.at h.out ?_
  refine Tr.intro Try.func28 rfl Try.ntmps28 rfl ?_
  have hsl := srt_len ids
  have hro := fun {j : Nat} => ok_of (j := j) hr
  have hall : ∀ i ∈ srtI ids, Has m.tk i := fun i hi => hr.1 i ((srt_perm ids).mem_iff.1 hi)
  have hnd : (srtI ids).Nodup := (srt_perm ids).nodup_iff.2 hr.2
  generalize hsr : srtI ids = srt at hsl hro hall hnd ⊢
  have hst : ∀ {V : Nat} {L : List HP}, Tr Try.prog 48 #[.func (.func 68) #[] #[.pointer (some ⟨V, 0, none⟩)]] (SL w0 I (Bk V 23 [.slice b.a b.n b.cap] :: L)) (fun r : SV => .slice r.a r.n r.cap) (fun r => SL w0 I (OwnS 3 r srt :: L)) := fun {V L} => by rw [← hsr]; exact Sorted_tr hs hn
  repeat' (first | ((first | refine WLA.m rfl rfl ?_ ?_ | refine WLA.st rfl ?_ ?_ | refine WLA.x rfl rfl ?_ (fun x => ?_) | refine WLA.x0 rfl ?_ (fun x => ?_)); first | exact trivial | exact rfl | assumption | omega | (refine ⟨?_, ?_⟩ <;> omega) | (simp only [Room, List.length_set, List.length_append, List.length_cons, List.length_nil, List.length_replicate]; omega) | decide | skip) | (refine Stp.go ?_) | (guard_target =~ WLA _ _ _ _ _ (⟨_, .call ⟨.value (.func 49), _, _⟩, _, _, _, _⟩ :: _) _ _; first | (refine WLA.call rfl rfl (Values_tr) ?_; rintro V) | (refine WLA.call0 rfl (Values_tr) ?_; rintro V)) | (guard_target =~ WLA _ _ _ _ _ (⟨_, .call ⟨.value (.func 48), _, _⟩, _, _, _, _⟩ :: _) _ _; first | (refine WLA.call rfl rfl (hst) ?_; rintro q) | (refine WLA.call0 rfl (hst) ?_; rintro q)) | (refine WPA.ifT ?_) | (refine WPA.ifF ?_) | ((first | refine WPA.dec ?_); first | refine .inl ⟨by first | assumption | omega | with_reducible rfl | (refine fun h => h ?_; first | assumption | with_reducible rfl) | (simp only [List.length_append, List.length_cons, List.length_nil, List.length_set] <;> omega) | decide, ?_⟩ | refine .inr ⟨by first | assumption | omega | with_reducible rfl | (refine fun h => h ?_; first | assumption | with_reducible rfl) | (simp only [List.length_append, List.length_cons, List.length_nil, List.length_set] <;> omega) | decide, ?_⟩) | ((first | refine WPA.ifBt ?_ ?_ | refine WPA.ifBnf ?_ ?_); assumption) | ((first | refine WPA.ifBnt ?_ ?_ | refine WPA.ifBf ?_ ?_); assumption) | ((first | refine WPA.ifs ?_ ?_ | refine WPA.ifB ?_ ?_) <;> intro hc))
  refine WPA.loopS (σ := Nat) (fun i => [(0, .pointer (some ⟨S, 0, none⟩)), (5, .slice q.a q.n q.cap), (18, .slice q.a q.n q.cap), (19, .int .i64 srt.length), (20, .int .i64 i)]) (fun i => i ≤ srt.length) (fun i => SL w0 I (OwnS 3 q srt :: StoreR S m :: L')) (fun i => srt.length - i) 0 ⟨rfl, rfl, rfl, rfl, rfl, trivial⟩ (Nat.zero_le _) (fun w h => h.to) ?_
  intro i ρ hi
  by_cases hlt : i < srt.length
  · have hlt' : (i : Int) < srt.length := by omega
    have hir : (0 : Int) ≤ i ∧ (i : Int) < srt.length := by omega
    have hok := hro hlt
    unfold OkAt at hok
    obtain ⟨id, hid⟩ : ∃ id : Int, at_ srt (i : Int) = id := ⟨_, rfl⟩
    rw [hid] at hok
    have hh := hok.1
    by_cases h0 : 0 < i
    · have h0' : (0 : Int) < i := by omega
      have hir2 : (0 : Int) ≤ (i : Int) - 1 ∧ (i : Int) - 1 < srt.length := by omega
      obtain ⟨p, hp⟩ : ∃ p : Int, at_ srt ((i : Int) - 1) = p := ⟨_, rfl⟩
      have he : ¬ p = id := by rw [← hp]; exact hok.2 h0
      repeat' (first | ((rw [hid])) | ((rw [hp])) | ((first | refine WLA.m rfl rfl ?_ ?_ | refine WLA.st rfl ?_ ?_ | refine WLA.x rfl rfl ?_ (fun x => ?_) | refine WLA.x0 rfl ?_ (fun x => ?_)); first | exact trivial | exact rfl | assumption | omega | (refine ⟨?_, ?_⟩ <;> omega) | (simp only [Room, List.length_set, List.length_append, List.length_cons, List.length_nil, List.length_replicate]; omega) | decide | skip) | (refine Stp.go ?_) | (guard_target =~ WLA _ _ _ _ _ (⟨_, .call ⟨.value (.func 25), _, _⟩, _, _, _, _⟩ :: _) _ _; first | (refine WLA.call rfl rfl (Read_tr hh) ?_; rintro ⟨⟩) | (refine WLA.call0 rfl (Read_tr hh) ?_; rintro ⟨⟩)) | (refine WPA.ifT ?_) | (refine WPA.ifF ?_) | (refine WLA.no rfl rfl ?_) | ((first | refine WPA.dec ?_ | ((fail_if_success (guard_target =~ WLA _ _ _ _ _ _ (put1 _ _ (.bool true)) _)); (fail_if_success (guard_target =~ WLA _ _ _ _ _ _ (put1 _ _ (.bool false)) _)); refine WLA.dec rfl rfl ?_) | refine WLA.pk ?_); first | refine .inl ⟨by first | assumption | omega | with_reducible rfl | (refine fun h => h ?_; first | assumption | with_reducible rfl) | (simp only [List.length_append, List.length_cons, List.length_nil, List.length_set] <;> omega) | decide, ?_⟩ | refine .inr ⟨by first | assumption | omega | with_reducible rfl | (refine fun h => h ?_; first | assumption | with_reducible rfl) | (simp only [List.length_append, List.length_cons, List.length_nil, List.length_set] <;> omega) | decide, ?_⟩) | ((first | refine WPA.ifBt ?_ ?_ | refine WPA.ifBnf ?_ ?_); assumption) | ((first | refine WPA.ifBnt ?_ ?_ | refine WPA.ifBf ?_ ?_); assumption) | ((first | refine WPA.ifs ?_ ?_ | refine WPA.ifB ?_ ?_) <;> intro hc) | ((fail_if_success (guard_target =~ WLA _ _ _ _ _ _ (put1 _ _ (.bool true)) _)); (fail_if_success (guard_target =~ WLA _ _ _ _ _ _ (put1 _ _ (.bool false)) _)); (first | refine WLA.both rfl rfl ?_ ?_ | refine WLA.bothB rfl rfl ?_ ?_) <;> intro hg))
      exact QQ.loopS (i + 1) ⟨rfl, rfl, rfl, rfl, rfl, trivial⟩ hlt (by omega) (fun w h => h.to)
    · have h0' : ¬ (0 : Int) < i := by omega
      repeat' (first | ((rw [hid])) | ((first | refine WLA.m rfl rfl ?_ ?_ | refine WLA.st rfl ?_ ?_ | refine WLA.x rfl rfl ?_ (fun x => ?_) | refine WLA.x0 rfl ?_ (fun x => ?_)); first | exact trivial | exact rfl | assumption | omega | (refine ⟨?_, ?_⟩ <;> omega) | (simp only [Room, List.length_set, List.length_append, List.length_cons, List.length_nil, List.length_replicate]; omega) | decide | skip) | (refine Stp.go ?_) | (guard_target =~ WLA _ _ _ _ _ (⟨_, .call ⟨.value (.func 25), _, _⟩, _, _, _, _⟩ :: _) _ _; first | (refine WLA.call rfl rfl (Read_tr hh) ?_; rintro ⟨⟩) | (refine WLA.call0 rfl (Read_tr hh) ?_; rintro ⟨⟩)) | (refine WPA.ifT ?_) | (refine WPA.ifF ?_) | (refine WLA.no rfl rfl ?_) | ((first | refine WPA.dec ?_ | ((fail_if_success (guard_target =~ WLA _ _ _ _ _ _ (put1 _ _ (.bool true)) _)); (fail_if_success (guard_target =~ WLA _ _ _ _ _ _ (put1 _ _ (.bool false)) _)); refine WLA.dec rfl rfl ?_) | refine WLA.pk ?_); first | refine .inl ⟨by first | assumption | omega | with_reducible rfl | (refine fun h => h ?_; first | assumption | with_reducible rfl) | (simp only [List.length_append, List.length_cons, List.length_nil, List.length_set] <;> omega) | decide, ?_⟩ | refine .inr ⟨by first | assumption | omega | with_reducible rfl | (refine fun h => h ?_; first | assumption | with_reducible rfl) | (simp only [List.length_append, List.length_cons, List.length_nil, List.length_set] <;> omega) | decide, ?_⟩) | ((first | refine WPA.ifBt ?_ ?_ | refine WPA.ifBnf ?_ ?_); assumption) | ((first | refine WPA.ifBnt ?_ ?_ | refine WPA.ifBf ?_ ?_); assumption) | ((first | refine WPA.ifs ?_ ?_ | refine WPA.ifB ?_ ?_) <;> intro hc) | ((fail_if_success (guard_target =~ WLA _ _ _ _ _ _ (put1 _ _ (.bool true)) _)); (fail_if_success (guard_target =~ WLA _ _ _ _ _ _ (put1 _ _ (.bool false)) _)); (first | refine WLA.both rfl rfl ?_ ?_ | refine WLA.bothB rfl rfl ?_ ?_) <;> intro hg))
      exact QQ.loopS (i + 1) ⟨rfl, rfl, rfl, rfl, rfl, trivial⟩ hlt (by omega) (fun w h => h.to)
  · have hlt' : ¬ (i : Int) < srt.length := by omega
    repeat' (first | ((first | refine WLA.m rfl rfl ?_ ?_ | refine WLA.st rfl ?_ ?_ | refine WLA.x rfl rfl ?_ (fun x => ?_) | refine WLA.x0 rfl ?_ (fun x => ?_)); first | exact trivial | exact rfl | assumption | omega | (refine ⟨?_, ?_⟩ <;> omega) | (simp only [Room, List.length_set, List.length_append, List.length_cons, List.length_nil, List.length_replicate]; omega) | decide | skip) | (refine Stp.go ?_) | (refine WPA.ifT ?_) | (refine WPA.ifF ?_) | ((first | refine WPA.dec ?_); first | refine .inl ⟨by first | assumption | omega | with_reducible rfl | (refine fun h => h ?_; first | assumption | with_reducible rfl) | (simp only [List.length_append, List.length_cons, List.length_nil, List.length_set] <;> omega) | decide, ?_⟩ | refine .inr ⟨by first | assumption | omega | with_reducible rfl | (refine fun h => h ?_; first | assumption | with_reducible rfl) | (simp only [List.length_append, List.length_cons, List.length_nil, List.length_set] <;> omega) | decide, ?_⟩) | ((first | refine WPA.ifBt ?_ ?_ | refine WPA.ifBnf ?_ ?_); assumption) | ((first | refine WPA.ifBnt ?_ ?_ | refine WPA.ifBf ?_ ?_); assumption) | ((first | refine WPA.ifs ?_ ?_ | refine WPA.ifB ?_ ?_) <;> intro hc))
    refine WPA.loopS (σ := Nat) (fun i => [(0, .pointer (some ⟨S, 0, none⟩)), (47, .slice q.a q.n q.cap), (48, .int .i64 srt.length), (49, .int .i64 i)]) (fun i => i ≤ srt.length) (fun i => SL w0 I (OwnS 3 q srt :: StoreR S ((srt.take i).foldl BS.free m) :: L')) (fun i => srt.length - i) 0 ⟨rfl, rfl, rfl, rfl, trivial⟩ (Nat.zero_le _) (fun w h => (h.to : SL w0 I (OwnS 3 q srt :: StoreR S m :: L') w)) ?_
    intro k ρ hk
    by_cases hkl : k < srt.length
    · have hkl' : (k : Int) < srt.length := by omega
      have hkr : (0 : Int) ≤ k ∧ (k : Int) < srt.length := by omega
      have F := frees (srt.take k) ok (hnd.sublist (List.take_sublist _ _)) fun i hi => hall i (List.mem_of_mem_take hi)
      have hat := at_nat srt k hkl
      have hnot : srt[k] ∉ srt.take k := fun h => by
        obtain ⟨j, hj, e⟩ := List.mem_iff_getElem.1 h
        rw [List.length_take] at hj
        rw [List.getElem_take] at e
        exact List.pairwise_iff_getElem.1 (List.nodup_iff_pairwise_ne.1 hnd) j k (by omega) hkl (by omega) e
      have hhk := (F.keep _ (hall _ (List.getElem_mem hkl)) hnot).1
      have htk : (srt.take (k + 1)).foldl BS.free m = ((srt.take k).foldl BS.free m).free srt[k] := by rw [List.take_add_one, List.getElem?_eq_getElem hkl, List.foldl_append]; rfl
      have hFo := F.ok
      generalize (srt.take k).foldl BS.free m = mk at hhk htk hFo ⊢
      generalize srt[k] = id at hat hhk htk
      repeat' (first | ((rw [hat])) | ((first | refine WLA.m rfl rfl ?_ ?_ | refine WLA.st rfl ?_ ?_ | refine WLA.x rfl rfl ?_ (fun x => ?_) | refine WLA.x0 rfl ?_ (fun x => ?_)); first | exact trivial | exact rfl | assumption | omega | (refine ⟨?_, ?_⟩ <;> omega) | (simp only [Room, List.length_set, List.length_append, List.length_cons, List.length_nil, List.length_replicate]; omega) | decide | skip) | (refine Stp.go ?_) | (guard_target =~ WLA _ _ _ _ _ (⟨_, .call ⟨.value (.func 50), _, _⟩, _, _, _, _⟩ :: _) _ _; first | (refine WLA.call rfl rfl (Free_tr hhk (used_pos hFo hhk)) ?_; rintro ⟨⟩) | (refine WLA.call0 rfl (Free_tr hhk (used_pos hFo hhk)) ?_; rintro ⟨⟩)) | (refine WPA.ifT ?_) | (refine WPA.ifF ?_) | ((first | refine WPA.dec ?_); first | refine .inl ⟨by first | assumption | omega | with_reducible rfl | (refine fun h => h ?_; first | assumption | with_reducible rfl) | (simp only [List.length_append, List.length_cons, List.length_nil, List.length_set] <;> omega) | decide, ?_⟩ | refine .inr ⟨by first | assumption | omega | with_reducible rfl | (refine fun h => h ?_; first | assumption | with_reducible rfl) | (simp only [List.length_append, List.length_cons, List.length_nil, List.length_set] <;> omega) | decide, ?_⟩) | ((first | refine WPA.ifBt ?_ ?_ | refine WPA.ifBnf ?_ ?_); assumption) | ((first | refine WPA.ifBnt ?_ ?_ | refine WPA.ifBf ?_ ?_); assumption) | ((first | refine WPA.ifs ?_ ?_ | refine WPA.ifB ?_ ?_) <;> intro hc))
      exact QQ.loopS (k + 1) ⟨rfl, rfl, rfl, rfl, trivial⟩ hkl (by omega) (fun w h => by rw [htk]; exact h.to)
    · have hkl' : ¬ (k : Int) < srt.length := by omega
      rw [List.take_of_length_le (by omega)]
      repeat' (first | ((first | refine WLA.m rfl rfl ?_ ?_ | refine WLA.st rfl ?_ ?_ | refine WLA.x rfl rfl ?_ (fun x => ?_) | refine WLA.x0 rfl ?_ (fun x => ?_)); first | exact trivial | exact rfl | assumption | omega | (refine ⟨?_, ?_⟩ <;> omega) | (simp only [Room, List.length_set, List.length_append, List.length_cons, List.length_nil, List.length_replicate]; omega) | decide | skip) | (refine Stp.go ?_) | (refine WPA.ifT ?_) | (refine WPA.ifF ?_) | ((first | refine WPA.dec ?_); first | refine .inl ⟨by first | assumption | omega | with_reducible rfl | (refine fun h => h ?_; first | assumption | with_reducible rfl) | (simp only [List.length_append, List.length_cons, List.length_nil, List.length_set] <;> omega) | decide, ?_⟩ | refine .inr ⟨by first | assumption | omega | with_reducible rfl | (refine fun h => h ?_; first | assumption | with_reducible rfl) | (simp only [List.length_append, List.length_cons, List.length_nil, List.length_set] <;> omega) | decide, ?_⟩) | ((first | refine WPA.ifBt ?_ ?_ | refine WPA.ifBnf ?_ ?_); assumption) | ((first | refine WPA.ifBnt ?_ ?_ | refine WPA.ifBf ?_ ?_); assumption) | ((first | refine WPA.ifs ?_ ?_ | refine WPA.ifB ?_ ?_) <;> intro hc))
      exact QQ.end_ rfl () rfl fun w h => h.to
end
end Go.Proofs.Ytbekjbgaenjbfaa
