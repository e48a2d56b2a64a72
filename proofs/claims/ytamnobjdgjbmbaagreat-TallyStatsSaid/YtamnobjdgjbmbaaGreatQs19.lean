/- Texts that TallyStats_law leans on, part 19. Conditions: none. -/
import Derived.ChangeKeysEq
import Derived.Laws.Tables
import Derived.Test.YtamnobjdgjbmbaaGreatQs18
namespace Go.Proofs.YtamnobjdgjbmbaaGreat
open Go Go.Fw Go.RowKit
set_option linter.unusedVariables false
set_option linter.unusedSimpArgs false
set_option maxRecDepth 100000
set_option maxHeartbeats 16000000
set_option synthInstance.maxHeartbeats 200000
set_option synthInstance.maxSize 100000
attribute [local irreducible] WPA WLA WDA WDQ WDE QQ seqQ blockQ loopQ fnQ OpP OpT Tr TrP SL SLd OwnS LitS Bk BkE Ob
attribute [local irreducible] vS keyS parL RowH CtsH mrg grp
theorem free_in {mi : BS} {ids : List Int} (ok : mi.Ok) (h : Right mi ids) {k : Nat} (hk : k < ids.length) :
    ((ids.take k).foldl BS.free mi).Ok ∧ Has ((ids.take k).foldl BS.free mi).tk (at_ ids (k : Int)) ∧ (ids.take (k + 1)).foldl BS.free mi = ((ids.take k).foldl BS.free mi).free (at_ ids (k : Int)) := by
  have hat := at_nat ids k hk
  have F := frees (ids.take k) ok (h.2.sublist (List.take_sublist _ _)) fun i hi => h.1 i (List.mem_of_mem_take hi)
  have hnot : ids[k] ∉ ids.take k := fun hm => by
    obtain ⟨j, hj, e⟩ := List.mem_iff_getElem.1 hm
    rw [List.length_take] at hj
    rw [List.getElem_take] at e
    exact List.pairwise_iff_getElem.1 (List.nodup_iff_pairwise_ne.1 h.2) j k (by omega) hk (by omega) e
  rw [hat]
  exact ⟨F.ok, (F.keep _ (h.1 _ (List.getElem_mem hk)) hnot).1, by rw [List.take_add_one, List.getElem?_eq_getElem hk, List.foldl_append]; rfl⟩
theorem cutL_pre {α : Type} {xs : List α} {n : Nat} (h : n ≤ xs.length) : cutL xs 0 (n : Int) = xs.take n := by
  unfold cutL; rw [if_pos (by omega), show Int.toNat 0 = 0 from rfl, List.drop_zero, show ((n : Int) - 0).toNat = n by omega]
theorem cutL_post {α : Type} {xs : List α} {n : Nat} (h : n ≤ xs.length) : cutL xs (n : Int) (xs.length : Int) = xs.drop n := by
  unfold cutL; rw [if_pos (by omega), Int.toNat_natCast, List.take_of_length_le (by rw [List.length_drop]; omega)]
structure GR where
  i : Nat
  rs : RS
section
variable {L L' : List HP} {w0 : World} {I : Foot} {S : Nat}
theorem rGroup_tr {m m' : BS} {rs : RS} {o e : Int} {g : SV} {es : List RF} {a l b : List PR} {r : PR} [h : FindK L RefR S rs L'] (hs : SlI I g RF inferInstance es) (hR : Rows (RRunI I) es l) (hI : RInv o m (a ++ (l ++ b))) (rel : Rel m rs) (hl : l ≠ []) (hn : l.length ≤ 1000) (hG : grp o m l = (m', r, e)) :
    Tr Tryz.prog 47 #[.pointer (some ⟨S, 0, none⟩), .int .i64 o, .slice g.a g.n g.cap] (SL w0 I L) (fun x : RF × Foot × RS => .tuple #[.agg #[.slice x.1.1.a x.1.1.n x.1.1.cap, .slice x.1.2.a x.1.2.n x.1.2.cap], .int .i64 e])
      (fun x w => (SubI x.2.1 I ∧ Rel m' x.2.2 ∧ (e = 0 → RRunI x.2.1 x.1 r)) ∧ SL w0 x.2.1 (RefR S x.2.2 :: L') w) := by
  refine Tr.at h.out ?_
  refine Tr.intro Tryz.func47 rfl Tryz.ntmps47 rfl ?_
  have hel := hR.1
  have hmem : ∀ {i : Nat}, i < l.length → l.getD i ([], []) ∈ a ++ (l ++ b) := fun {i} hi => by
    rw [List.getD_eq_getElem?_getD, List.getElem?_eq_getElem hi]
    exact List.mem_append_right _ (List.mem_append_left _ (List.getElem_mem _))
  have hpos := List.length_pos_iff.2 hl
  have hmost := hI.ok.most.2
  by_cases h1 : l.length = 1
  · rw [grp_one h1] at hG
    simp only [Prod.mk.injEq] at hG
    obtain ⟨rfl, rfl, rfl⟩ := hG
    have hr0 : RRunI I (at_ es 0) (l.getD 0 ([], [])) := hR.2 0 (by omega)
    obtain ⟨q, hq⟩ : ∃ q, at_ es 0 = q := ⟨_, rfl⟩
    rw [hq] at hr0
    have he1 : (es.length : Int) = 1 := by omega
    have hir : (0 : Int) ≤ 0 ∧ (0 : Int) < es.length := by omega
    repeat' (first | ((rw [hq])) | ((first | refine WLA.m rfl rfl ?_ ?_ | refine WLA.st rfl ?_ ?_ | refine WLA.x rfl rfl ?_ (fun x => ?_) | refine WLA.x0 rfl ?_ (fun x => ?_)); first | exact trivial | exact rfl | assumption | omega | (refine ⟨?_, ?_⟩ <;> omega) | (simp only [Room, lenS]; omega) | decide | skip) | (refine Stp.go ?_) | (refine WPA.ifT ?_) | (refine WPA.ifF ?_) | ((first | refine WPA.dec ?_); first | refine .inl ⟨by first | assumption | omega | with_reducible rfl | (refine fun h => h ?_; first | assumption | with_reducible rfl) | (simp only [lenS] <;> omega) | decide, ?_⟩ | refine .inr ⟨by first | assumption | omega | with_reducible rfl | (refine fun h => h ?_; first | assumption | with_reducible rfl) | (simp only [lenS] <;> omega) | decide, ?_⟩) | ((first | refine WPA.ifBt ?_ ?_ | refine WPA.ifBnf ?_ ?_); assumption) | ((first | refine WPA.ifBnt ?_ ?_ | refine WPA.ifBf ?_ ?_); assumption) | ((first | refine WPA.ifs ?_ ?_ | refine WPA.ifB ?_ ?_) <;> intro hc))
    exact QQ.endc rfl (q, I, rs) rfl fun w h => ⟨⟨inferInstance, rel, fun _ => hr0⟩, h.to⟩
  have he1 : ¬ (es.length : Int) = 1 := by omega
  repeat' (first | ((first | refine WLA.m rfl rfl ?_ ?_ | refine WLA.st rfl ?_ ?_ | refine WLA.x rfl rfl ?_ (fun x => ?_) | refine WLA.x0 rfl ?_ (fun x => ?_)); first | exact trivial | exact rfl | assumption | omega | (refine ⟨?_, ?_⟩ <;> omega) | (simp only [Room, lenS]; omega) | decide | skip) | (refine Stp.go ?_) | (refine WPA.ifT ?_) | (refine WPA.ifF ?_) | ((first | refine WPA.dec ?_); first | refine .inl ⟨by first | assumption | omega | with_reducible rfl | (refine fun h => h ?_; first | assumption | with_reducible rfl) | (simp only [lenS] <;> omega) | decide, ?_⟩ | refine .inr ⟨by first | assumption | omega | with_reducible rfl | (refine fun h => h ?_; first | assumption | with_reducible rfl) | (simp only [lenS] <;> omega) | decide, ?_⟩) | ((first | refine WPA.ifBt ?_ ?_ | refine WPA.ifBnf ?_ ?_); assumption) | ((first | refine WPA.ifBnt ?_ ?_ | refine WPA.ifBf ?_ ?_); assumption) | ((first | refine WPA.ifs ?_ ?_ | refine WPA.ifB ?_ ?_) <;> intro hc))
  revert x; intro R6
  refine WPA.loopS (σ := Nat × SV) (fun y => [(0, .pointer (some ⟨S, 0, none⟩)), (1, .int .i64 o), (2, .slice g.a g.n g.cap), (6, .pointer (some ⟨R6, 0, none⟩)), (7, .int .i64 0), (8, .slice y.2.a y.2.n y.2.cap), (9, .int .i64 y.1)])
    (fun y => y.1 ≤ es.length) (fun y => SL w0 I (OwnS 27 y.2 ((es.take y.1).map Prod.snd) :: Bk R6 49 [.slice none 0 0, .slice none 0 0] :: RefR S rs :: L')) (fun y => es.length - y.1) (0, SV.nil) ⟨rfl, rfl, rfl, rfl, rfl, rfl, rfl, trivial⟩ (Nat.zero_le _)
    (fun w h => by
      have h2 := (Ent.ownNil (α := SV) (t := 27) Ent.refl).sl h
      show SL w0 I (OwnS 27 SV.nil ([] : List SV) :: Bk R6 49 [.slice none 0 0, .slice none 0 0] :: RefR S rs :: L') w
      exact h2.to) ?_
  rintro ⟨i, v⟩ ρ hi
  dsimp only at hi ⊢
  by_cases hlt : i < es.length
  · have hlt' : (i : Int) < es.length := by omega
    have hir : (0 : Int) ≤ i ∧ (i : Int) < es.length := by omega
    have htk : (es.take (i + 1)).map Prod.snd = (es.take i).map Prod.snd ++ [(at_ es (i : Int)).2] := by rw [List.take_add_one, List.getElem?_eq_getElem hlt, List.map_append, at_nat es i hlt]; rfl
    have hroom : Room (((es.take i).map Prod.snd).length + 1) 24 := ⟨by rw [List.length_map, List.length_take]; omega, by rw [List.length_map, List.length_take]; omega⟩
    obtain ⟨q, hq⟩ : ∃ q, at_ es (i : Int) = q := ⟨_, rfl⟩
    rw [hq] at htk
    generalize (es.take i).map Prod.snd = vs at htk hroom
    repeat' (first | ((rw [hq])) | ((first | refine WLA.m rfl rfl ?_ ?_ | refine WLA.st rfl ?_ ?_ | refine WLA.x rfl rfl ?_ (fun x => ?_) | refine WLA.x0 rfl ?_ (fun x => ?_)); first | exact trivial | exact rfl | assumption | omega | (refine ⟨?_, ?_⟩ <;> omega) | (simp only [Room, lenS]; omega) | decide | skip) | (refine Stp.go ?_) | (refine WPA.ifT ?_) | (refine WPA.ifF ?_) | ((first | refine WPA.dec ?_); first | refine .inl ⟨by first | assumption | omega | with_reducible rfl | (refine fun h => h ?_; first | assumption | with_reducible rfl) | (simp only [lenS] <;> omega) | decide, ?_⟩ | refine .inr ⟨by first | assumption | omega | with_reducible rfl | (refine fun h => h ?_; first | assumption | with_reducible rfl) | (simp only [lenS] <;> omega) | decide, ?_⟩) | ((first | refine WPA.ifBt ?_ ?_ | refine WPA.ifBnf ?_ ?_); assumption) | ((first | refine WPA.ifBnt ?_ ?_ | refine WPA.ifBf ?_ ?_); assumption) | ((first | refine WPA.ifs ?_ ?_ | refine WPA.ifB ?_ ?_) <;> intro hc))
    exact QQ.loopS (i + 1, x) ⟨rfl, rfl, rfl, rfl, rfl, rfl, rfl, trivial⟩ hlt (by dsimp only; omega) (fun w h => by dsimp only; rw [htk]; exact h.to)
  have hlt' : ¬ (i : Int) < es.length := by omega
  have hie : i = es.length := by omega
  subst hie
  rw [List.take_length]
  refine WPA.freeze fun R0 hF0 => ?_
  have hvs : SlI (R0 ++ I) v SV inferInstance (es.map Prod.snd) := by have := SlI.ofOwn hF0; infer_instance
  have hsJ : SlI (R0 ++ I) g RF inferInstance es := hs.sub
  have hRJ : Rows (RRunI (R0 ++ I)) es l := hR.mono fun _ _ k => k.sub inferInstance
  have hJI : SubI (R0 ++ I) I := inferInstance
  clear hF0 hs hR
  generalize R0 ++ I = J at hvs hsJ hRJ hJI
  have hLs : LsI J (es.map Prod.snd) (l.map Prod.snd) := ⟨by rw [List.length_map, List.length_map]; exact hel, fun j hj => by
    rw [List.length_map] at hj
    have := (hRJ.get hj).2
    rw [at_nat _ j (by rw [List.length_map]; omega), List.getElem_map, List.getD_eq_getElem?_getD, List.getElem?_map, List.getElem?_eq_getElem hj]
    exact this⟩
  have hgs : ∀ ms ∈ l.map Prod.snd, Ris id ms ∧ ∀ m ∈ ms, m.1.length ≤ 1000000 := fun ms hms => by
    obtain ⟨r, hr, rfl⟩ := List.mem_map.1 hms
    have hr' : r ∈ a ++ (l ++ b) := List.mem_append_right _ (List.mem_append_left _ hr)
    exact ⟨hI.ris r hr', fun x hx => by have := wrong_len8 (hI.wr r hr') x hx; omega⟩
  have hfl : (l.map Prod.snd).flatten = ctsF l := by rw [ctsF, List.flatMap_def]
  have hc3 : (ctsF l).length ≤ 300 := by
    have := hI.len
    rw [ctsF, List.flatMap_append, List.flatMap_append, List.length_append, List.length_append] at this
    show (l.flatMap Prod.snd).length ≤ 300
    omega
  have hLt : ∀ {L : List HP}, Tr Tryz.prog 20 #[.slice v.a v.n v.cap] (SL w0 J L) (fun x : SV × Foot => .slice x.1.a x.1.n x.1.cap) (fun x w => (SubI x.2 J ∧ LstI x.2 x.1 (mrg (ctsF l))) ∧ SL w0 x.2 L w) := fun {L} => by
    have := rLists_trC (s := v) (L := L) (w0 := w0) hLs hgs (by rw [hfl, List.length_map]; omega)
    rw [hfl] at this
    exact this
  have hml : (mrg (ctsF l)).length ≤ 300 := Nat.le_trans (mrg_len _) hc3
  have hm8 : ∀ m ∈ mrg (ctsF l), m.1.length ≤ 1000000 := fun m hm => by
    obtain ⟨y, hy, e⟩ := mrg_key hm
    obtain ⟨r, hr, hyr⟩ := List.mem_flatMap.1 hy
    have := wrong_len8 (hI.wr r (List.mem_append_right _ (List.mem_append_left _ hr))) y hyr
    rw [e]; omega
  by_cases hw : wrong o (mrg (ctsF l)) = 0
  case neg =>
    have hee := errW_bad (m := m) hw
    rw [grp_err h1 (by rw [hee]; exact hw), hee] at hG
    simp only [Prod.mk.injEq] at hG
    obtain ⟨rfl, rfl, rfl⟩ := hG
    generalize mrg (ctsF l) = M at hLt hml hm8 hw
    repeat' (first | ((first | refine WLA.m rfl rfl ?_ ?_ | refine WLA.st rfl ?_ ?_ | refine WLA.x rfl rfl ?_ (fun x => ?_) | refine WLA.x0 rfl ?_ (fun x => ?_)); first | exact trivial | exact rfl | assumption | omega | (refine ⟨?_, ?_⟩ <;> omega) | (simp only [Room, lenS]; omega) | decide | skip) | (refine Stp.go ?_) | (guard_target =~ WLA _ _ _ _ _ (⟨_, .call ⟨.value (.func 20), _, _⟩, _, _, _, _⟩ :: _) _ _; refine WLA.call rfl rfl (hLt) ?_; rintro ⟨c, K⟩; dsimp only; refine WLA.pure fun hc => ?_) | (refine WPA.ifT ?_) | (refine WPA.ifF ?_) | ((first | refine WPA.dec ?_); first | refine .inl ⟨by first | assumption | omega | with_reducible rfl | (refine fun h => h ?_; first | assumption | with_reducible rfl) | (simp only [lenS] <;> omega) | decide, ?_⟩ | refine .inr ⟨by first | assumption | omega | with_reducible rfl | (refine fun h => h ?_; first | assumption | with_reducible rfl) | (simp only [lenS] <;> omega) | decide, ?_⟩) | ((first | refine WPA.ifBt ?_ ?_ | refine WPA.ifBnf ?_ ?_); assumption) | ((first | refine WPA.ifBnt ?_ ?_ | refine WPA.ifBf ?_ ?_); assumption) | ((first | refine WPA.ifs ?_ ?_ | refine WPA.ifB ?_ ?_) <;> intro hc))
    obtain ⟨hc1, hc2⟩ := hc
    repeat' (first | ((first | refine WLA.m rfl rfl ?_ ?_ | refine WLA.st rfl ?_ ?_ | refine WLA.x rfl rfl ?_ (fun x => ?_) | refine WLA.x0 rfl ?_ (fun x => ?_)); first | exact trivial | exact rfl | assumption | omega | (refine ⟨?_, ?_⟩ <;> omega) | (simp only [Room, lenS]; omega) | decide | skip) | (refine Stp.go ?_) | (guard_target =~ WLA _ _ _ _ _ (⟨_, .call ⟨.value (.func 10), _, _⟩, _, _, _, _⟩ :: _) _ _; refine WLA.call rfl rfl (Wrong_trI hc2 hm8 (by omega)) ?_; rintro ⟨⟩) | (refine WPA.ifT ?_) | (refine WPA.ifF ?_) | ((first | refine WPA.dec ?_); first | refine .inl ⟨by first | assumption | omega | with_reducible rfl | (refine fun h => h ?_; first | assumption | with_reducible rfl) | (simp only [lenS] <;> omega) | decide, ?_⟩ | refine .inr ⟨by first | assumption | omega | with_reducible rfl | (refine fun h => h ?_; first | assumption | with_reducible rfl) | (simp only [lenS] <;> omega) | decide, ?_⟩) | ((first | refine WPA.ifBt ?_ ?_ | refine WPA.ifBnf ?_ ?_); assumption) | ((first | refine WPA.ifBnt ?_ ?_ | refine WPA.ifBf ?_ ?_); assumption) | ((first | refine WPA.ifs ?_ ?_ | refine WPA.ifB ?_ ?_) <;> intro hc))
    exact QQ.endc rfl ((SV.nil, c), K, rs) rfl fun w h => ⟨⟨⟨fun z hz => hc1.out (hJI.out hz)⟩, rel, fun h0 => absurd h0 hw⟩, h.to⟩
  have hee := errW_ok (m := m) hw
  by_cases hr : m.size * (m.most - m.used) < (byS (mrg (ctsF l))).size
  · rw [if_pos hr] at hee
    rw [grp_err h1 (by rw [hee]; decide), hee] at hG
    simp only [Prod.mk.injEq] at hG
    obtain ⟨rfl, rfl, rfl⟩ := hG
    have hby := byS_300 hw hml
    generalize mrg (ctsF l) = M at hLt hml hm8 hw hr hby
    have hw0 : ¬ wrong o M ≠ 0 := fun h => h hw
    repeat' (first | ((first | refine WLA.m rfl rfl ?_ ?_ | refine WLA.st rfl ?_ ?_ | refine WLA.x rfl rfl ?_ (fun x => ?_) | refine WLA.x0 rfl ?_ (fun x => ?_)); first | exact trivial | exact rfl | assumption | omega | (refine ⟨?_, ?_⟩ <;> omega) | (simp only [Room, lenS]; omega) | decide | skip) | (refine Stp.go ?_) | (guard_target =~ WLA _ _ _ _ _ (⟨_, .call ⟨.value (.func 20), _, _⟩, _, _, _, _⟩ :: _) _ _; refine WLA.call rfl rfl (hLt) ?_; rintro ⟨c, K⟩; dsimp only; refine WLA.pure fun hc => ?_) | (refine WPA.ifT ?_) | (refine WPA.ifF ?_) | ((first | refine WPA.dec ?_); first | refine .inl ⟨by first | assumption | omega | with_reducible rfl | (refine fun h => h ?_; first | assumption | with_reducible rfl) | (simp only [lenS] <;> omega) | decide, ?_⟩ | refine .inr ⟨by first | assumption | omega | with_reducible rfl | (refine fun h => h ?_; first | assumption | with_reducible rfl) | (simp only [lenS] <;> omega) | decide, ?_⟩) | ((first | refine WPA.ifBt ?_ ?_ | refine WPA.ifBnf ?_ ?_); assumption) | ((first | refine WPA.ifBnt ?_ ?_ | refine WPA.ifBf ?_ ?_); assumption) | ((first | refine WPA.ifs ?_ ?_ | refine WPA.ifB ?_ ?_) <;> intro hc))
    obtain ⟨hc1, hc2⟩ := hc
    repeat' (first | ((first | refine WLA.m rfl rfl ?_ ?_ | refine WLA.st rfl ?_ ?_ | refine WLA.x rfl rfl ?_ (fun x => ?_) | refine WLA.x0 rfl ?_ (fun x => ?_)); first | exact trivial | exact rfl | assumption | omega | (refine ⟨?_, ?_⟩ <;> omega) | (simp only [Room, lenS]; omega) | decide | skip) | (refine Stp.go ?_) | (guard_target =~ WLA _ _ _ _ _ (⟨_, .call ⟨.value (.func 10), _, _⟩, _, _, _, _⟩ :: _) _ _; refine WLA.call rfl rfl (Wrong_trI hc2 hm8 (by omega)) ?_; rintro ⟨⟩) | (guard_target =~ WLA _ _ _ _ _ (⟨_, .call ⟨.value (.func 11), _, _⟩, _, _, _, _⟩ :: _) _ _; refine WLA.call rfl rfl (rBytes_trI hc2 hw (by omega)) ?_; rintro ⟨⟩) | (guard_target =~ WLA _ _ _ _ _ (⟨_, .call ⟨.value (.func 41), _, _⟩, _, _, _, _⟩ :: _) _ _; refine WLA.call rfl rfl (rFill_no hI.ok rel hmost (by omega) hr) ?_; rintro ⟨⟩) | (refine WPA.ifT ?_) | (refine WPA.ifF ?_) | ((first | refine WPA.dec ?_); first | refine .inl ⟨by first | assumption | omega | with_reducible rfl | (refine fun h => h ?_; first | assumption | with_reducible rfl) | (simp only [lenS] <;> omega) | decide, ?_⟩ | refine .inr ⟨by first | assumption | omega | with_reducible rfl | (refine fun h => h ?_; first | assumption | with_reducible rfl) | (simp only [lenS] <;> omega) | decide, ?_⟩) | ((first | refine WPA.ifBt ?_ ?_ | refine WPA.ifBnf ?_ ?_); assumption) | ((first | refine WPA.ifBnt ?_ ?_ | refine WPA.ifBf ?_ ?_); assumption) | ((first | refine WPA.ifs ?_ ?_ | refine WPA.ifB ?_ ?_) <;> intro hc))
    exact QQ.endc rfl ((SV.nil, c), K, rs) rfl fun w h => ⟨⟨⟨fun z hz => hc1.out (hJI.out hz)⟩, rel, fun h0 => absurd h0 (by decide)⟩, h.to⟩
  rw [if_neg hr] at hee
  rw [grp_go h1 hee] at hG
  simp only [Prod.mk.injEq] at hG
  obtain ⟨hm', hrr, rfl⟩ := hG
  have F := fill_law hI.ok hr
  have hfs := fun {i : Nat} (hi : i < l.length) => free_step hI F hi
  have hby := byS_300 hw hml
  generalize mrg (ctsF l) = M at hLt hml hm8 hw hr hm' hrr F hfs hby
  have hw0 : ¬ wrong o M ≠ 0 := fun h => h hw
  have hft : ∀ {K : Foot} {L L' : List HP} [FindK L RefR S rs L'], Tr Tryz.prog 41 #[.pointer (some ⟨S, 0, none⟩), .string (byS M)] (SL w0 K L) (fun s : SV × { r' : RS // Rel (fillN (byS M) m [] 0).1 r' } => .tuple #[.slice s.1.a s.1.n s.1.cap, .int .i64 0]) (fun s => SL w0 K (OwnS 3 s.1 (fillN (byS M) m [] 0).2 :: RefR S s.2.1 :: L')) := fun {K L L'} _ => rFill_tr hI.ok rel hmost (by omega) hr
  generalize (fillN (byS M) m [] 0).1 = m1 at hm' F hfs hft
  generalize (fillN (byS M) m [] 0).2 = new at hrr F hfs hft
  subst hrr
  repeat' (first | ((first | refine WLA.m rfl rfl ?_ ?_ | refine WLA.st rfl ?_ ?_ | refine WLA.x rfl rfl ?_ (fun x => ?_) | refine WLA.x0 rfl ?_ (fun x => ?_)); first | exact trivial | exact rfl | assumption | omega | (refine ⟨?_, ?_⟩ <;> omega) | (simp only [Room, lenS]; omega) | decide | skip) | (refine Stp.go ?_) | (guard_target =~ WLA _ _ _ _ _ (⟨_, .call ⟨.value (.func 20), _, _⟩, _, _, _, _⟩ :: _) _ _; refine WLA.call rfl rfl (hLt) ?_; rintro ⟨c, K⟩; dsimp only; refine WLA.pure fun hc => ?_) | (refine WPA.ifT ?_) | (refine WPA.ifF ?_) | ((first | refine WPA.dec ?_); first | refine .inl ⟨by first | assumption | omega | with_reducible rfl | (refine fun h => h ?_; first | assumption | with_reducible rfl) | (simp only [lenS] <;> omega) | decide, ?_⟩ | refine .inr ⟨by first | assumption | omega | with_reducible rfl | (refine fun h => h ?_; first | assumption | with_reducible rfl) | (simp only [lenS] <;> omega) | decide, ?_⟩) | ((first | refine WPA.ifBt ?_ ?_ | refine WPA.ifBnf ?_ ?_); assumption) | ((first | refine WPA.ifBnt ?_ ?_ | refine WPA.ifBf ?_ ?_); assumption) | ((first | refine WPA.ifs ?_ ?_ | refine WPA.ifB ?_ ?_) <;> intro hc))
  obtain ⟨hc1, hc2⟩ := hc
  repeat' (first | ((first | refine WLA.m rfl rfl ?_ ?_ | refine WLA.st rfl ?_ ?_ | refine WLA.x rfl rfl ?_ (fun x => ?_) | refine WLA.x0 rfl ?_ (fun x => ?_)); first | exact trivial | exact rfl | assumption | omega | (refine ⟨?_, ?_⟩ <;> omega) | (simp only [Room, lenS]; omega) | decide | skip) | (refine Stp.go ?_) | (guard_target =~ WLA _ _ _ _ _ (⟨_, .call ⟨.value (.func 10), _, _⟩, _, _, _, _⟩ :: _) _ _; refine WLA.call rfl rfl (Wrong_trI hc2 hm8 (by omega)) ?_; rintro ⟨⟩) | (guard_target =~ WLA _ _ _ _ _ (⟨_, .call ⟨.value (.func 11), _, _⟩, _, _, _, _⟩ :: _) _ _; refine WLA.call rfl rfl (rBytes_trI hc2 hw (by omega)) ?_; rintro ⟨⟩) | (guard_target =~ WLA _ _ _ _ _ (⟨_, .call ⟨.value (.func 41), _, _⟩, _, _, _, _⟩ :: _) _ _; refine WLA.call rfl rfl (hft) ?_; rintro ⟨nb, rs1, rel1⟩; dsimp only) | (refine WPA.ifT ?_) | (refine WPA.ifF ?_) | ((first | refine WPA.dec ?_); first | refine .inl ⟨by first | assumption | omega | with_reducible rfl | (refine fun h => h ?_; first | assumption | with_reducible rfl) | (simp only [lenS] <;> omega) | decide, ?_⟩ | refine .inr ⟨by first | assumption | omega | with_reducible rfl | (refine fun h => h ?_; first | assumption | with_reducible rfl) | (simp only [lenS] <;> omega) | decide, ?_⟩) | ((first | refine WPA.ifBt ?_ ?_ | refine WPA.ifBnf ?_ ?_); assumption) | ((first | refine WPA.ifBnt ?_ ?_ | refine WPA.ifBf ?_ ?_); assumption) | ((first | refine WPA.ifs ?_ ?_ | refine WPA.ifB ?_ ?_) <;> intro hc))
  revert x; intro X
  refine WPA.ent (EntC.out (L' := OwnS 3 nb new :: Bk X 49 [.slice nb.a nb.n nb.cap, .slice c.a c.n c.cap] :: Bk R6 49 [.slice none 0 0, .slice none 0 0] :: RefR S rs1 :: L')) ?_
  refine WPA.freeze fun R2 hF2 => ?_
  have hnb : SlI (R2 ++ K) nb Int inferInstance new := by have := SlI.ofOwn hF2; infer_instance
  have hsubN : SubI (R2 ++ K) J := ⟨fun z hz => List.mem_append_right _ (hc1.out hz)⟩
  have hcN : LstI (R2 ++ K) c M := hc2.sub inferInstance
  have hsN : SlI (R2 ++ K) g RF inferInstance es := hsJ.sub
  have hRN : Rows (RRunI (R2 ++ K)) es l := hRJ.mono fun _ _ k => k.sub hsubN
  have hNI : SubI (R2 ++ K) I := ⟨fun z hz => hsubN.out (hJI.out hz)⟩
  clear hF2 hc1 hc2 hsubN hsJ hRJ
  generalize R2 ++ K = N at hnb hcN hsN hRN hNI
  refine WPA.loopS (σ := GR) (fun y => [(0, .pointer (some ⟨S, 0, none⟩)), (2, .slice g.a g.n g.cap), (6, .pointer (some ⟨R6, 0, none⟩)), (7, .int .i64 0), (10, .pointer (some ⟨X, 0, none⟩)), (14, .int .i64 y.i)])
    (fun y => y.i ≤ l.length ∧ Rel ((idsF (l.take y.i)).foldl BS.free m1) y.rs) (fun y => SL w0 N (Bk X 49 [.slice nb.a nb.n nb.cap, .slice c.a c.n c.cap] :: Bk R6 49 [.slice none 0 0, .slice none 0 0] :: RefR S y.rs :: L')) (fun y => l.length - y.i) ⟨0, rs1⟩ ⟨rfl, rfl, rfl, rfl, rfl, rfl, trivial⟩ ⟨Nat.zero_le _, by rw [List.take_zero]; exact rel1⟩ (fun w h => h.to) ?_
  rintro ⟨i, rs2⟩ ρ ⟨hi, rel2⟩
  dsimp only at hi rel2 ⊢
  by_cases hlt : i < l.length
  · have hlt' : (i : Int) < es.length := by omega
    have hir : (0 : Int) ≤ i ∧ (i : Int) < es.length := by omega
    have hRi := hRN.2 i hlt
    have hln := hI.idl _ (hmem hlt)
    obtain ⟨f1, f2, f3⟩ := hfs hlt
    obtain ⟨q, hq⟩ : ∃ q, at_ es (i : Int) = q := ⟨_, rfl⟩
    rw [hq] at hRi
    obtain ⟨qb, ql⟩ := q
    have hqs : SlI N qb Int inferInstance (l.getD i ([], [])).1 := hRi.1
    generalize (l.getD i ([], [])).1 = ids at f2 f3 hqs hln
    generalize (idsF (l.take i)).foldl BS.free m1 = mi at f1 f2 f3 rel2
    repeat' (first | ((first | refine WLA.m rfl rfl ?_ ?_ | refine WLA.st rfl ?_ ?_ | refine WLA.x rfl rfl ?_ (fun x => ?_) | refine WLA.x0 rfl ?_ (fun x => ?_)); first | exact trivial | exact rfl | assumption | omega | (refine ⟨?_, ?_⟩ <;> omega) | (simp only [Room, lenS]; omega) | decide | skip) | (refine Stp.go ?_) | (refine WPA.ifT ?_) | (refine WPA.ifF ?_) | ((first | refine WPA.dec ?_); first | refine .inl ⟨by first | assumption | omega | with_reducible rfl | (refine fun h => h ?_; first | assumption | with_reducible rfl) | (simp only [lenS] <;> omega) | decide, ?_⟩ | refine .inr ⟨by first | assumption | omega | with_reducible rfl | (refine fun h => h ?_; first | assumption | with_reducible rfl) | (simp only [lenS] <;> omega) | decide, ?_⟩) | ((first | refine WPA.ifBt ?_ ?_ | refine WPA.ifBnf ?_ ?_); assumption) | ((first | refine WPA.ifBnt ?_ ?_ | refine WPA.ifBf ?_ ?_); assumption) | ((first | refine WPA.ifs ?_ ?_ | refine WPA.ifB ?_ ?_) <;> intro hc))
    refine WPA.loopS (σ := GR) (fun y => [(0, .pointer (some ⟨S, 0, none⟩)), (2, .slice g.a g.n g.cap), (6, .pointer (some ⟨R6, 0, none⟩)), (7, .int .i64 0), (10, .pointer (some ⟨X, 0, none⟩)), (14, .int .i64 i), (15, .int .i64 y.i)])
      (fun y => y.i ≤ ids.length ∧ Rel ((ids.take y.i).foldl BS.free mi) y.rs) (fun y => SL w0 N (Bk X 49 [.slice nb.a nb.n nb.cap, .slice c.a c.n c.cap] :: Bk R6 49 [.slice none 0 0, .slice none 0 0] :: RefR S y.rs :: L')) (fun y => ids.length - y.i) ⟨0, rs2⟩ ⟨rfl, rfl, rfl, rfl, rfl, rfl, rfl, trivial⟩ ⟨Nat.zero_le _, by rw [List.take_zero]; exact rel2⟩ (fun w h => h.to) ?_
    rintro ⟨k, rs3⟩ ρ ⟨hk, rel3⟩
    dsimp only at hk rel3 ⊢
    by_cases hkl : k < ids.length
    · have hkl' : (k : Int) < ids.length := by omega
      have hkr : (0 : Int) ≤ k ∧ (k : Int) < ids.length := by omega
      obtain ⟨g1, g2, g3⟩ := free_in f1 f2 hkl
      obtain ⟨id, hid⟩ : ∃ id : Int, at_ ids (k : Int) = id := ⟨_, rfl⟩
      rw [hid] at g2 g3
      generalize (ids.take k).foldl BS.free mi = mk at g1 g2 g3 rel3
      have rel4 := rel3.free (id := id) g1
      rw [show mk.free' id = mk.free id from if_pos g2] at rel4
      repeat' (first | ((rw [hq])) | ((rw [hid])) | ((first | refine WLA.m rfl rfl ?_ ?_ | refine WLA.st rfl ?_ ?_ | refine WLA.x rfl rfl ?_ (fun x => ?_) | refine WLA.x0 rfl ?_ (fun x => ?_)); first | exact trivial | exact rfl | assumption | omega | (refine ⟨?_, ?_⟩ <;> omega) | (simp only [Room, lenS]; omega) | decide | skip) | (refine Stp.go ?_) | (guard_target =~ WLA _ _ _ _ _ (⟨_, .call ⟨.value (.func 73), _, _⟩, _, _, _, _⟩ :: _) _ _; refine WLA.call rfl rfl (rFree_k) ?_; rintro ⟨⟩) | (refine WPA.ifT ?_) | (refine WPA.ifF ?_) | ((first | refine WPA.dec ?_); first | refine .inl ⟨by first | assumption | omega | with_reducible rfl | (refine fun h => h ?_; first | assumption | with_reducible rfl) | (simp only [lenS] <;> omega) | decide, ?_⟩ | refine .inr ⟨by first | assumption | omega | with_reducible rfl | (refine fun h => h ?_; first | assumption | with_reducible rfl) | (simp only [lenS] <;> omega) | decide, ?_⟩) | ((first | refine WPA.ifBt ?_ ?_ | refine WPA.ifBnf ?_ ?_); assumption) | ((first | refine WPA.ifBnt ?_ ?_ | refine WPA.ifBf ?_ ?_); assumption) | ((first | refine WPA.ifs ?_ ?_ | refine WPA.ifB ?_ ?_) <;> intro hc))
      exact QQ.loopS ⟨k + 1, rs3.free' id⟩ ⟨rfl, rfl, rfl, rfl, rfl, rfl, rfl, trivial⟩ ⟨hkl, by rw [g3]; exact rel4⟩ (by dsimp only; omega) (fun w h => h.to)
    · have hkl' : ¬ (k : Int) < ids.length := by omega
      rw [List.take_of_length_le (by omega), ← f3] at rel3
      repeat' (first | ((rw [hq])) | ((first | refine WLA.m rfl rfl ?_ ?_ | refine WLA.st rfl ?_ ?_ | refine WLA.x rfl rfl ?_ (fun x => ?_) | refine WLA.x0 rfl ?_ (fun x => ?_)); first | exact trivial | exact rfl | assumption | omega | (refine ⟨?_, ?_⟩ <;> omega) | (simp only [Room, lenS]; omega) | decide | skip) | (refine Stp.go ?_) | (refine WPA.ifT ?_) | (refine WPA.ifF ?_) | ((first | refine WPA.dec ?_); first | refine .inl ⟨by first | assumption | omega | with_reducible rfl | (refine fun h => h ?_; first | assumption | with_reducible rfl) | (simp only [lenS] <;> omega) | decide, ?_⟩ | refine .inr ⟨by first | assumption | omega | with_reducible rfl | (refine fun h => h ?_; first | assumption | with_reducible rfl) | (simp only [lenS] <;> omega) | decide, ?_⟩) | ((first | refine WPA.ifBt ?_ ?_ | refine WPA.ifBnf ?_ ?_); assumption) | ((first | refine WPA.ifBnt ?_ ?_ | refine WPA.ifBf ?_ ?_); assumption) | ((first | refine WPA.ifs ?_ ?_ | refine WPA.ifB ?_ ?_) <;> intro hc))
      exact QQ.loopS ⟨i + 1, rs3⟩ ⟨rfl, rfl, rfl, rfl, rfl, rfl, trivial⟩ ⟨hlt, rel3⟩ (by dsimp only; omega) (fun w h => h.to)
  · have hlt' : ¬ (i : Int) < es.length := by omega
    rw [List.take_of_length_le (by omega), hm'] at rel2
    repeat' (first | ((first | refine WLA.m rfl rfl ?_ ?_ | refine WLA.st rfl ?_ ?_ | refine WLA.x rfl rfl ?_ (fun x => ?_) | refine WLA.x0 rfl ?_ (fun x => ?_)); first | exact trivial | exact rfl | assumption | omega | (refine ⟨?_, ?_⟩ <;> omega) | (simp only [Room, lenS]; omega) | decide | skip) | (refine Stp.go ?_) | (refine WPA.ifT ?_) | (refine WPA.ifF ?_) | ((first | refine WPA.dec ?_); first | refine .inl ⟨by first | assumption | omega | with_reducible rfl | (refine fun h => h ?_; first | assumption | with_reducible rfl) | (simp only [lenS] <;> omega) | decide, ?_⟩ | refine .inr ⟨by first | assumption | omega | with_reducible rfl | (refine fun h => h ?_; first | assumption | with_reducible rfl) | (simp only [lenS] <;> omega) | decide, ?_⟩) | ((first | refine WPA.ifBt ?_ ?_ | refine WPA.ifBnf ?_ ?_); assumption) | ((first | refine WPA.ifBnt ?_ ?_ | refine WPA.ifBf ?_ ?_); assumption) | ((first | refine WPA.ifs ?_ ?_ | refine WPA.ifB ?_ ?_) <;> intro hc))
    exact QQ.endc rfl ((nb, c), N, rs2) rfl fun w h => ⟨⟨hNI, rel2, fun _ => ⟨hnb, hcN⟩⟩, h.to⟩
end
end Go.Proofs.YtamnobjdgjbmbaaGreat
namespace Go.Proofs.YtamnobjdgjbmbaaGreat
open Go Go.Fw Go.RowKit
set_option linter.unusedVariables false
set_option linter.unusedSimpArgs false
set_option maxRecDepth 100000
set_option maxHeartbeats 16000000
set_option synthInstance.maxHeartbeats 200000
set_option synthInstance.maxSize 100000
attribute [local irreducible] WPA WLA WDA WDQ WDE QQ seqQ blockQ loopQ fnQ OpP OpT Tr TrP SL SLd OwnS LitS Bk BkE Ob
attribute [local irreducible] vS keyS parL RowH CtsH mrg grp
structure RV where
  J : Foot
  s : SV
  es : List RF
  m : BS
  l : List PR
  p : Nat
  rs : RS
structure IV where
  J : Foot
  s : SV
  es : List RF
  l : List PR
  m : BS
  rs : RS
  acc : List PR
  nx : SV
  nes : List RF
def RefRes (J : Foot) (x : RF) (l : List PR) : Prop := (l = [] ∧ x = (SV.nil, SV.nil)) ∨ ∃ r, l = [r] ∧ RRunI J x r
section
variable {L L' : List HP} {w0 : World} {I : Foot} {S : Nat}
theorem rRuns_tr {m m' : BS} {rs : RS} {o e : Int} {f p : Nat} {s : SV} {es : List RF} {l l' : List PR} [h : FindK L RefR S rs L'] (hf : 2 ≤ f ∧ (f : Int) ≤ 9223372036854775807) (hs : SlI I s RF inferInstance es) (hR : Rows (RRunI I) es l) (hI : RInv o m l) (rel : Rel m rs) (hn : l.length ≤ 1000) (hG : runsF o f m l 0 = (m', l', p, e)) :
    Tr Tryz.prog 16 #[.pointer (some ⟨S, 0, none⟩), .int .i64 o, .slice s.a s.n s.cap, .int .i64 f] (SL w0 I L) (fun x : RF × Foot × RS => .tuple #[.agg #[.slice x.1.1.a x.1.1.n x.1.1.cap, .slice x.1.2.a x.1.2.n x.1.2.cap], .int .i64 p, .int .i64 e])
      (fun x w => (SubI x.2.1 I ∧ Rel m' x.2.2 ∧ (e = 0 → RefRes x.2.1 x.1 l')) ∧ SL w0 x.2.1 (RefR S x.2.2 :: L') w) := by
  refine Tr.at h.out ?_
  refine Tr.intro Tryz.func16 rfl Tryz.ntmps16 rfl ?_
  repeat' (first | ((first | refine WLA.m rfl rfl ?_ ?_ | refine WLA.st rfl ?_ ?_ | refine WLA.x rfl rfl ?_ (fun x => ?_) | refine WLA.x0 rfl ?_ (fun x => ?_)); first | exact trivial | exact rfl | assumption | omega | (refine ⟨?_, ?_⟩ <;> omega) | (simp only [Room, lenS]; omega) | decide | skip) | (refine Stp.go ?_) | (refine WPA.ifT ?_) | (refine WPA.ifF ?_) | ((first | refine WPA.dec ?_); first | refine .inl ⟨by first | assumption | omega | with_reducible rfl | (refine fun h => h ?_; first | assumption | with_reducible rfl) | (simp only [lenS] <;> omega) | decide, ?_⟩ | refine .inr ⟨by first | assumption | omega | with_reducible rfl | (refine fun h => h ?_; first | assumption | with_reducible rfl) | (simp only [lenS] <;> omega) | decide, ?_⟩) | ((first | refine WPA.ifBt ?_ ?_ | refine WPA.ifBnf ?_ ?_); assumption) | ((first | refine WPA.ifBnt ?_ ?_ | refine WPA.ifBf ?_ ?_); assumption) | ((first | refine WPA.ifs ?_ ?_ | refine WPA.ifB ?_ ?_) <;> intro hc))
  revert x; intro X8
  refine WPA.loopS (σ := RV) (fun y => [(0, .pointer (some ⟨S, 0, none⟩)), (1, .int .i64 o), (2, .slice y.s.a y.s.n y.s.cap), (3, .int .i64 f), (8, .pointer (some ⟨X8, 0, none⟩)), (9, .int .i64 0), (10, .int .i64 0), (11, .int .i64 y.p)])
    (fun y => (SubI y.J I ∧ SlI y.J y.s RF inferInstance y.es ∧ Rows (RRunI y.J) y.es y.l ∧ RInv o y.m y.l ∧ Rel y.m y.rs) ∧ (y.l.length ≤ 1000 ∧ (y.l = [] → y.p = 0) ∧ y.p + y.l.length ≤ 1000) ∧ runsF o f y.m y.l y.p = (m', l', p, e))
    (fun y => SL w0 y.J (Bk X8 49 [.slice none 0 0, .slice none 0 0] :: RefR S y.rs :: L')) (fun y => y.l.length) ⟨I, s, es, m, l, 0, rs⟩ ⟨rfl, rfl, rfl, rfl, rfl, rfl, rfl, rfl, trivial⟩ ⟨⟨inferInstance, hs, hR, hI, rel⟩, ⟨hn, fun _ => rfl, by dsimp only; omega⟩, hG⟩ (fun w h => h.to) ?_
  clear hs hR hI hn hG rel
  rintro ⟨J, s, es, m, l, p1, rs⟩ ρ ⟨⟨hJ, hs, hR, hI, rel⟩, ⟨hn, hp0, hpl⟩, hG⟩
  dsimp only at hJ hs hR hI rel hn hp0 hG hpl ⊢
  have hel := hR.1
  by_cases hl1 : 1 < l.length
  · have hl1' : (1 : Int) < es.length := by omega
    repeat' (first | ((first | refine WLA.m rfl rfl ?_ ?_ | refine WLA.st rfl ?_ ?_ | refine WLA.x rfl rfl ?_ (fun x => ?_) | refine WLA.x0 rfl ?_ (fun x => ?_)); first | exact trivial | exact rfl | assumption | omega | (refine ⟨?_, ?_⟩ <;> omega) | (simp only [Room, lenS]; omega) | decide | skip) | (refine Stp.go ?_) | (refine WPA.ifT ?_) | (refine WPA.ifF ?_) | ((first | refine WPA.dec ?_); first | refine .inl ⟨by first | assumption | omega | with_reducible rfl | (refine fun h => h ?_; first | assumption | with_reducible rfl) | (simp only [lenS] <;> omega) | decide, ?_⟩ | refine .inr ⟨by first | assumption | omega | with_reducible rfl | (refine fun h => h ?_; first | assumption | with_reducible rfl) | (simp only [lenS] <;> omega) | decide, ?_⟩) | ((first | refine WPA.ifBt ?_ ?_ | refine WPA.ifBnf ?_ ?_); assumption) | ((first | refine WPA.ifBnt ?_ ?_ | refine WPA.ifBf ?_ ?_); assumption) | ((first | refine WPA.ifs ?_ ?_ | refine WPA.ifB ?_ ?_) <;> intro hc))
    refine WPA.loopS (σ := IV) (fun x => [(0, .pointer (some ⟨S, 0, none⟩)), (1, .int .i64 o), (2, .slice x.s.a x.s.n x.s.cap), (3, .int .i64 f), (8, .pointer (some ⟨X8, 0, none⟩)), (9, .int .i64 0), (10, .int .i64 0), (11, .int .i64 p1), (12, .slice x.nx.a x.nx.n x.nx.cap)])
      (fun x => (SubI x.J J ∧ SlI x.J x.s RF inferInstance x.es ∧ Rows (RRunI x.J) x.es x.l ∧ Rows (RRunI x.J) x.nes x.acc ∧ RInv o x.m (x.acc ++ x.l) ∧ Rel x.m x.rs) ∧ (x.acc.length + x.l.length ≤ l.length ∧ (x.l = [] → x.acc ≠ [])) ∧ pass o f x.m x.acc x.l = pass o f m [] l)
      (fun x => SL w0 x.J (OwnS 49 x.nx x.nes :: Bk X8 49 [.slice none 0 0, .slice none 0 0] :: RefR S x.rs :: L')) (fun x => x.l.length) ⟨J, s, es, l, m, rs, [], SV.nil, []⟩ ⟨rfl, rfl, rfl, rfl, rfl, rfl, rfl, rfl, rfl, trivial⟩
      ⟨⟨inferInstance, hs, hR, Rows.nil, hI, rel⟩, ⟨by simp, fun h => by dsimp only at h; rw [h] at hl1; simp at hl1⟩, rfl⟩ (fun w h => by
        have h2 := (Ent.ownNil (α := RF) (t := 49) Ent.refl).sl h
        show SL w0 J (OwnS 49 SV.nil ([] : List RF) :: Bk X8 49 [.slice none 0 0, .slice none 0 0] :: RefR S rs :: L') w
        exact h2.to) ?_
    rintro ⟨K, s2, es2, l2, m1, rs1, acc, nx, nes⟩ ρ ⟨⟨hK, hs2, hR2, hA, hI1, rel1⟩, ⟨hcl, hne⟩, hP⟩
    dsimp only at hK hs2 hR2 hA hI1 rel1 hcl hne hP ⊢
    have hel2 := hR2.1
    have hal := hA.1
    by_cases h20 : l2 = []
    · subst h20
      have hel0 : ¬ (0 : Int) < es2.length := by rw [hel2]; simp
      rw [pass_nil] at hP
      rw [List.append_nil] at hI1
      have hne' := hne rfl
      have hlen := pass_len (o := o) (f := f) (by omega) l.length l rfl m []
      rw [← hP] at hlen
      simp only [List.length_nil] at hlen
      have hgo := runs_go (p := p1) (o := o) (f := f) (m := m) hl1 (by omega) (by rw [← hP])
      rw [hG, ← hP] at hgo
      dsimp only at hgo
      repeat' (first | ((first | refine WLA.m rfl rfl ?_ ?_ | refine WLA.st rfl ?_ ?_ | refine WLA.x rfl rfl ?_ (fun x => ?_) | refine WLA.x0 rfl ?_ (fun x => ?_)); first | exact trivial | exact rfl | assumption | omega | (refine ⟨?_, ?_⟩ <;> omega) | (simp only [Room, lenS]; omega) | decide | skip) | (refine Stp.go ?_) | (refine WPA.ifT ?_) | (refine WPA.ifF ?_) | ((first | refine WPA.dec ?_); first | refine .inl ⟨by first | assumption | omega | with_reducible rfl | (refine fun h => h ?_; first | assumption | with_reducible rfl) | (simp only [lenS] <;> omega) | decide, ?_⟩ | refine .inr ⟨by first | assumption | omega | with_reducible rfl | (refine fun h => h ?_; first | assumption | with_reducible rfl) | (simp only [lenS] <;> omega) | decide, ?_⟩) | ((first | refine WPA.ifBt ?_ ?_ | refine WPA.ifBnf ?_ ?_); assumption) | ((first | refine WPA.ifBnt ?_ ?_ | refine WPA.ifBf ?_ ?_); assumption) | ((first | refine WPA.ifs ?_ ?_ | refine WPA.ifB ?_ ?_) <;> intro hc))
      refine QQ.freeze fun R hF => ?_
      have hsn : SlI (R ++ K) nx RF inferInstance nes := by have := SlI.ofOwn hF; infer_instance
      exact QQ.loopS ⟨R ++ K, nx, nes, m1, acc, p1 + 1, rs1⟩ ⟨rfl, rfl, rfl, rfl, rfl, rfl, rfl, rfl, trivial⟩ ⟨⟨⟨fun z hz => List.mem_append_right _ (hK.out (hJ.out hz))⟩, hsn, hA.mono fun _ _ k => k.sub inferInstance, hI1, rel1⟩, ⟨by dsimp only; omega, fun h => absurd h hne', by dsimp only; omega⟩, hgo.symm⟩ (by dsimp only; omega) (fun w h => h.to)
    · have hpos := List.length_pos_iff.2 h20
      have hel0 : (0 : Int) < es2.length := by omega
      obtain ⟨n, hn1, hn2, hnt, hnd, hmin⟩ : ∃ n : Nat, 1 ≤ n ∧ n ≤ l2.length ∧ l2.take n = l2.take f ∧ l2.drop n = l2.drop f ∧ min (f : Int) (es2.length : Int) = (n : Int) := by
        by_cases hfl : f ≤ l2.length
        · exact ⟨f, by omega, hfl, rfl, rfl, Int.min_eq_left (by omega)⟩
        · exact ⟨l2.length, by omega, Nat.le_refl _, by rw [List.take_length, List.take_of_length_le (by omega)], by rw [List.drop_length, List.drop_of_length_le (by omega)], by rw [Int.min_eq_right (by omega), hel2]⟩
      have hnr : (0 : Int) ≤ 0 ∧ (0 : Int) ≤ n := by omega
      have hnr2 : (n : Int) ≤ es2.length := by omega
      have hnr3 : (0 : Int) ≤ n ∧ (n : Int) ≤ es2.length := by omega
      have hnr4 : (es2.length : Int) ≤ es2.length := by omega
      have hsg : SlI K (s2.cut 2 0 (n : Int)) RF inferInstance (es2.take n) := by rw [← cutL_pre (by omega)]; infer_instance
      have hI2 : RInv o m1 (acc ++ (l2.take n ++ l2.drop n)) := by rw [List.take_append_drop]; exact hI1
      have htl : l2.take n ≠ [] := fun h => by have := congrArg List.length h; rw [List.length_take, List.length_nil] at this; omega
      have hgl : (l2.take n).length ≤ 1000 := by rw [List.length_take]; omega
      obtain ⟨m2, r, e2, hgr⟩ : ∃ m2 r e2, grp o m1 (l2.take n) = (m2, r, e2) := ⟨_, _, _, rfl⟩
      have hgt := fun {L L' : List HP} [FindK L RefR S rs1 L'] => rGroup_tr (L := L) (L' := L') (w0 := w0) (S := S) hsg (hR2.take n) hI2 rel1 htl hgl hgr
      by_cases he2 : e2 = 0
      · subst he2
        have hz : (grp o m1 (l2.take n)).2.2 = 0 := by rw [hgr]
        have hnl := (grp_law hI2 hz).1
        have hgo := pass_go (acc := acc) (f := f) h20 (by omega) (by rw [← hnt]; exact hz)
        rw [← hnt, ← hnd, hgr, hP] at hgo
        rw [hgr] at hnl
        dsimp only at hnl hgo
        rw [← List.append_assoc] at hnl
        have hroom : Room (nes.length + 1) 48 := ⟨by omega, by omega⟩
        repeat' (first | ((rw [hmin])) | ((first | refine WLA.m rfl rfl ?_ ?_ | refine WLA.st rfl ?_ ?_ | refine WLA.x rfl rfl ?_ (fun x => ?_) | refine WLA.x0 rfl ?_ (fun x => ?_)); first | exact trivial | exact rfl | assumption | omega | (refine ⟨?_, ?_⟩ <;> omega) | (simp only [Room, lenS]; omega) | decide | skip) | (refine Stp.go ?_) | (guard_target =~ WLA _ _ _ _ _ (⟨_, .call ⟨.value (.func 47), _, _⟩, _, _, _, _⟩ :: _) _ _; refine WLA.call rfl rfl (hgt) ?_; rintro ⟨q, J2, rs2⟩; dsimp only; refine WLA.pure fun hq => ?_; have hs22 : SlI J2 s2 RF inferInstance es2 := hs2.sub (hs := hq.1)) | (refine WPA.ifT ?_) | (refine WPA.ifF ?_) | ((first | refine WPA.dec ?_); first | refine .inl ⟨by first | assumption | omega | with_reducible rfl | (refine fun h => h ?_; first | assumption | with_reducible rfl) | (simp only [lenS] <;> omega) | decide, ?_⟩ | refine .inr ⟨by first | assumption | omega | with_reducible rfl | (refine fun h => h ?_; first | assumption | with_reducible rfl) | (simp only [lenS] <;> omega) | decide, ?_⟩) | ((first | refine WPA.ifBt ?_ ?_ | refine WPA.ifBnf ?_ ?_); assumption) | ((first | refine WPA.ifBnt ?_ ?_ | refine WPA.ifBf ?_ ?_); assumption) | ((first | refine WPA.ifs ?_ ?_ | refine WPA.ifB ?_ ?_) <;> intro hc))
        have hqr := hq.2.2 rfl
        have hq1 := hq.1
        obtain ⟨qb, ql⟩ := q
        have hs3 : SlI J2 (s2.cut 2 (n : Int) (es2.length : Int)) RF inferInstance (es2.drop n) := by
          rw [← cutL_post (by omega)]; infer_instance
        refine QQ.loopS ⟨J2, s2.cut 2 (n : Int) (es2.length : Int), es2.drop n, l2.drop n, m2, rs2, acc ++ [r], x, nes ++ [(qb, ql)]⟩ ⟨rfl, rfl, rfl, rfl, rfl, rfl, rfl, rfl, rfl, trivial⟩
          ⟨⟨⟨fun z hz => hq1.out (hK.out hz)⟩, hs3, (hR2.mono fun _ _ k => k.sub hq1).drop n, (hA.mono fun _ _ k => k.sub hq1).snoc hqr, hnl, hq.2.1⟩, ⟨by dsimp only; rw [List.length_append, List.length_drop, List.length_singleton]; omega, fun _ => by dsimp only; simp⟩, hgo.symm⟩ (by dsimp only; rw [List.length_drop]; omega) (fun w h => h.to)
      · have hz : (grp o m1 (l2.take n)).2.2 ≠ 0 := by rw [hgr]; exact he2
        have hbad := pass_err (acc := acc) (f := f) h20 (by omega) (by rw [← hnt]; exact hz)
        rw [← hnt, hgr, hP] at hbad
        dsimp only at hbad
        have hb2 := runs_err (p := p1) (o := o) (f := f) (m := m) hl1 (by omega) (by rw [hbad]; exact he2)
        rw [hG, hbad] at hb2
        simp only [Prod.mk.injEq] at hb2
        obtain ⟨rfl, rfl, rfl, rfl⟩ := hb2
        repeat' (first | ((rw [hmin])) | ((first | refine WLA.m rfl rfl ?_ ?_ | refine WLA.st rfl ?_ ?_ | refine WLA.x rfl rfl ?_ (fun x => ?_) | refine WLA.x0 rfl ?_ (fun x => ?_)); first | exact trivial | exact rfl | assumption | omega | (refine ⟨?_, ?_⟩ <;> omega) | (simp only [Room, lenS]; omega) | decide | skip) | (refine Stp.go ?_) | (guard_target =~ WLA _ _ _ _ _ (⟨_, .call ⟨.value (.func 47), _, _⟩, _, _, _, _⟩ :: _) _ _; refine WLA.call rfl rfl (hgt) ?_; rintro ⟨q, J2, rs2⟩; dsimp only; refine WLA.pure fun hq => ?_) | (refine WPA.ifT ?_) | (refine WPA.ifF ?_) | ((first | refine WPA.dec ?_); first | refine .inl ⟨by first | assumption | omega | with_reducible rfl | (refine fun h => h ?_; first | assumption | with_reducible rfl) | (simp only [lenS] <;> omega) | decide, ?_⟩ | refine .inr ⟨by first | assumption | omega | with_reducible rfl | (refine fun h => h ?_; first | assumption | with_reducible rfl) | (simp only [lenS] <;> omega) | decide, ?_⟩) | ((first | refine WPA.ifBt ?_ ?_ | refine WPA.ifBnf ?_ ?_); assumption) | ((first | refine WPA.ifBnt ?_ ?_ | refine WPA.ifBf ?_ ?_); assumption) | ((first | refine WPA.ifs ?_ ?_ | refine WPA.ifB ?_ ?_) <;> intro hc))
        exact QQ.endc rfl ((SV.nil, SV.nil), J2, rs2) rfl fun w h => ⟨⟨⟨fun z hz => hq.1.out (hK.out (hJ.out hz))⟩, hq.2.1, fun h0 => absurd h0 he2⟩, h.to⟩
  · have hl1' : ¬ (1 : Int) < es.length := by omega
    rw [runs_end hl1] at hG
    simp only [Prod.mk.injEq] at hG
    obtain ⟨rfl, rfl, rfl, rfl⟩ := hG
    by_cases h0 : l = []
    · have hp00 := hp0 h0
      subst hp00
      have he0 : (es.length : Int) = 0 := by rw [hel, h0]; rfl
      repeat' (first | ((first | refine WLA.m rfl rfl ?_ ?_ | refine WLA.st rfl ?_ ?_ | refine WLA.x rfl rfl ?_ (fun x => ?_) | refine WLA.x0 rfl ?_ (fun x => ?_)); first | exact trivial | exact rfl | assumption | omega | (refine ⟨?_, ?_⟩ <;> omega) | (simp only [Room, lenS]; omega) | decide | skip) | (refine Stp.go ?_) | (refine WPA.ifT ?_) | (refine WPA.ifF ?_) | ((first | refine WPA.dec ?_); first | refine .inl ⟨by first | assumption | omega | with_reducible rfl | (refine fun h => h ?_; first | assumption | with_reducible rfl) | (simp only [lenS] <;> omega) | decide, ?_⟩ | refine .inr ⟨by first | assumption | omega | with_reducible rfl | (refine fun h => h ?_; first | assumption | with_reducible rfl) | (simp only [lenS] <;> omega) | decide, ?_⟩) | ((first | refine WPA.ifBt ?_ ?_ | refine WPA.ifBnf ?_ ?_); assumption) | ((first | refine WPA.ifBnt ?_ ?_ | refine WPA.ifBf ?_ ?_); assumption) | ((first | refine WPA.ifs ?_ ?_ | refine WPA.ifB ?_ ?_) <;> intro hc))
      exact QQ.endc rfl ((SV.nil, SV.nil), J, rs) rfl fun w h => ⟨⟨hJ, rel, fun _ => .inl ⟨h0, rfl⟩⟩, h.to⟩
    · have he0 : ¬ (es.length : Int) = 0 := by have := List.length_pos_iff.2 h0; omega
      have hlp := List.length_pos_iff.2 h0
      obtain ⟨r, hr⟩ := List.length_eq_one_iff.1 (show l.length = 1 by omega)
      have hir : (0 : Int) ≤ 0 ∧ (0 : Int) < es.length := by omega
      have hR0 : RRunI J (at_ es 0) (l.getD 0 ([], [])) := hR.2 0 (by omega)
      obtain ⟨q, hq⟩ : ∃ q, at_ es 0 = q := ⟨_, rfl⟩
      rw [hq, hr] at hR0
      repeat' (first | ((rw [hq])) | ((first | refine WLA.m rfl rfl ?_ ?_ | refine WLA.st rfl ?_ ?_ | refine WLA.x rfl rfl ?_ (fun x => ?_) | refine WLA.x0 rfl ?_ (fun x => ?_)); first | exact trivial | exact rfl | assumption | omega | (refine ⟨?_, ?_⟩ <;> omega) | (simp only [Room, lenS]; omega) | decide | skip) | (refine Stp.go ?_) | (refine WPA.ifT ?_) | (refine WPA.ifF ?_) | ((first | refine WPA.dec ?_); first | refine .inl ⟨by first | assumption | omega | with_reducible rfl | (refine fun h => h ?_; first | assumption | with_reducible rfl) | (simp only [lenS] <;> omega) | decide, ?_⟩ | refine .inr ⟨by first | assumption | omega | with_reducible rfl | (refine fun h => h ?_; first | assumption | with_reducible rfl) | (simp only [lenS] <;> omega) | decide, ?_⟩) | ((first | refine WPA.ifBt ?_ ?_ | refine WPA.ifBnf ?_ ?_); assumption) | ((first | refine WPA.ifBnt ?_ ?_ | refine WPA.ifBf ?_ ?_); assumption) | ((first | refine WPA.ifs ?_ ?_ | refine WPA.ifB ?_ ?_) <;> intro hc))
      exact QQ.endc rfl (q, J, rs) rfl fun w h => ⟨⟨hJ, rel, fun _ => .inr ⟨r, hr, hR0⟩⟩, h.to⟩
end
end Go.Proofs.YtamnobjdgjbmbaaGreat
namespace Go.Fw
open Go Go.RowKit
set_option linter.unusedVariables false
set_option linter.unusedSimpArgs false
theorem run_eqItems_num {P : Program} {w : World} {d : Nat} {e : TypeId} {k' : IntKind} (he : P.underlying e = some (.int k')) (h1 : oneTy P e = true) : ∀ {l l' : List Value} {r : Bool} (h : EqNum l l' r) (pre pre' : List Value), pre.length = pre'.length →
    (Op.eqItems (d + 1) e 1 (pre ++ l).toArray (pre' ++ l').toArray (List.range' pre.length l.length)).run P w = .ok r w := by
  intro l l' r h
  induction h with
  | nil => intro pre pre' _; simp [Op.eqItems]
  | @cons k a b l l' r h ih =>
    intro pre pre' hp
    have e1 : (part e (pre ++ .int k a :: l).toArray (pre.length * 1)).run P w = .ok (.int k a) w := by
      simp [part, run_isAgg_one h1, go_sem]
    have e2 : (part e (pre' ++ .int k b :: l').toArray (pre.length * 1)).run P w = .ok (.int k b) w := by
      simp [part, run_isAgg_one h1, hp, go_sem]
    have ih' := ih (pre ++ [.int k a]) (pre' ++ [.int k b]) (by simp [hp])
    simp only [List.append_assoc, List.singleton_append, List.length_append, List.length_singleton] at ih'
    simp only [List.length_cons, List.range'_succ, Op.eqItems, Sem.run_bind, e1, e2, Result.andThen_ok, run_equalIn_int w d e k k' a b he]
    by_cases hab : a = b
    · subst hab; simpa using ih'
    · simp [hab, go_sem]
def arrB (P : Program) (t e : TypeId) : Bool := (match P.underlying e with | some (.int _) => true | _ => false) && Nat.beq (P.cellsOf e) 1 && !P.eqGuardType P.depth t
class ArrI (P : Program) (t : TypeId) (n : outParam Nat) : Prop where
  out : ∃ e, P.underlying t = some (.array n e) ∧ (∃ i, P.info? e = some i) ∧ arrB P t e = true
theorem run_eqArr {P : Program} {t : TypeId} {n : Nat} {l l' : List Value} {r : Bool} (ht : ArrI P t n) (h : EqNum l l' r) (hl : l.length = n) (w : World) :
    (Op.equalIn 10000 t (.agg l.toArray) (.agg l'.toArray)).run P w = .ok r w ∧ P.eqGuardType P.depth t = false := by
  obtain ⟨e, hu, ⟨i, hi⟩, hb⟩ := ht.out
  unfold arrB at hb
  simp only [Bool.and_eq_true, Bool.not_eq_true'] at hb
  obtain ⟨⟨h1, h2⟩, h3⟩ := hb
  have hc := Nat.eq_of_beq_eq_true h2
  have hone : oneTy P e = true := by
    unfold oneTy
    split at h1
    · rename_i e; rw [e]
    · cases h1
  obtain ⟨k', hk'⟩ : ∃ k', P.underlying e = some (.int k') := by
    split at h1
    · rename_i k' e; exact ⟨k', e⟩
    · cases h1
  refine ⟨?_, h3⟩
  rw [show (10000 : Nat) = 9998 + 1 + 1 from rfl, run_equalIn_array w _ _ _ hu hi, hc, List.range_eq_range', ← hl]
  have := run_eqItems_num (P := P) (w := w) (d := 9998) hk' hone h [] [] rfl
  simpa using this
instance {P : Program} {ρ : Env} {A : World → Prop} {ty t u : TypeId} {x y : Operand} {n : Nat} {l l' : List Value} {p : Prop} {dec : Decidable p} [h1 : Ev ρ x (.agg l.toArray)] [h2 : Ev ρ y (.agg l'.toArray)] [ht : ArrI P t n] [hl : LenL l n] [h : EqL l l' p dec] : OpM P ρ A (.binOp .eql t x y u) ty (.bool (decide p)) True := ⟨fun _ d pos af g w _ => by
  obtain ⟨e1, e2⟩ := run_eqArr ht h.out hl.out w
  simp only [execOp, h1.out, h2.out, Sem.run_bind, run_eqGuard_agg _ _ _ _ _ _ _ e2, Result.andThen_ok, run_eql_struct, e1, Sem.run_pure]⟩
instance {P : Program} {ρ : Env} {A : World → Prop} {ty t e : TypeId} {x0 x1 x2 x3 : Operand} {a b c d : Int} {bytes b1 : Nat} {z : List Value} [ht : Und P t (.array 4 e)] [hz : Inf P t [.int .i64 0, .int .i64 0, .int .i64 0, .int .i64 0] 4 bytes] [he : Inf P e z 1 b1] [h0 : Ev ρ x0 (.int .i64 a)] [h1 : Ev ρ x1 (.int .i64 b)] [h2 : Ev ρ x2 (.int .i64 c)] [h3 : Ev ρ x3 (.int .i64 d)] :
    OpM P ρ A (.build t #[(0, x0), (1, x1), (2, x2), (3, x3)]) ty (.agg #[.int .i64 a, .int .i64 b, .int .i64 c, .int .i64 d]) True := ⟨fun _ dd pos af g w _ => by
  obtain ⟨it, k1, k2⟩ := Option.map_eq_some_iff.1 hz.out
  obtain ⟨ie, k3, k4⟩ := Option.map_eq_some_iff.1 he.out
  simp only [Prod.mk.injEq] at k2 k4
  obtain ⟨zv, k5, k6⟩ := Option.map_eq_some_iff.1 k2.1
  have h := run_build (P := P) w t #[(0, .int .i64 a), (1, .int .i64 b), (2, .int .i64 c), (3, .int .i64 d)] #[.int .i64 a, .int .i64 b, .int .i64 c, .int .i64 d] (by
    unfold Program.built
    rw [k1, ht.out]
    simp only [k5, k3, k6, k4.2.1]
    rfl)
  simp only [execOp, List.map_toArray, List.map_cons, List.map_nil, h0.out, h1.out, h2.out, h3.out, Sem.run_bind, h, Result.andThen, Sem.run_pure]⟩
end Go.Fw
namespace Go.Proofs.YtamnobjdgjbmbaaGreat
open Go Go.Fw Go.RowKit
set_option linter.unusedVariables false
set_option linter.unusedSimpArgs false
set_option maxRecDepth 100000
set_option maxHeartbeats 16000000
set_option synthInstance.maxHeartbeats 200000
set_option synthInstance.maxSize 100000
attribute [local irreducible] WPA WLA WDA WDQ WDE QQ seqQ blockQ loopQ fnQ OpP OpT Tr TrP SL SLd OwnS LitS Bk BkE Ob
attribute [local irreducible] vS keyS parL RowH CtsH mrg grp RunsH CntH cntC
instance : Und Tryz.prog 73 (.array 4 3) := ⟨Tryz.underlying73⟩
instance : ArrI Tryz.prog 73 4 := ⟨⟨3, Tryz.underlying73, (by obtain ⟨i, h, _⟩ := Option.map_eq_some_iff.1 (inferInstance : Inf Tryz.prog 3 _ _ _).size; exact ⟨i, h⟩), by kernel_rfl⟩⟩
structure SW where
  i : Nat
  J : Foot
  m : BS
  rs : RS
  out : SV
  wes : List RF
  lp : List PR
section
variable {L L' L1 L2 : List HP} {w0 : World} {I : Foot}
theorem rStat_tr {s : SV} {hs : List SV} {gs : List (List Int)} {o z : Int} {B f : Nat} [hsl : SlI I s SV inferInstance hs] (hg : GsI I hs gs) (hc : CfOk B z f) (ho : 1 ≤ o ∧ o ≤ 8) (hn : hs.length ≤ 1000) (hl : ∀ g ∈ gs, g.length ≤ 1000) (hall : (eachL gs o).length ≤ 300) (hG : GoodG o (eachL gs o)) :
    Tr Tryz.prog 31 #[.slice s.a s.n s.cap, .int .i64 o, .int .i64 B, .int .i64 z, .int .i64 f] (SL w0 I L)
      (fun _ : Unit => .agg #[.int .i64 (eachL gs o).length, .int .i64 (cntC o z B (eachL gs o)).2.length, .int .i64 (cntR o z B f (eachL gs o)).2.2.1, .int .i64 (cntR o z B f (eachL gs o)).1.peak])
      (fun _ => SL w0 I L) := by
  refine Tr.intro Tryz.func31 rfl Tryz.ntmps31 rfl ?_
  have hc2 := hc
  unfold CfOk at hc2
  repeat' (first | ((first | refine WLA.m rfl rfl ?_ ?_ | refine WLA.st rfl ?_ ?_ | refine WLA.x rfl rfl ?_ (fun x => ?_) | refine WLA.x0 rfl ?_ (fun x => ?_)); first | exact trivial | exact rfl | assumption | omega | (refine ⟨?_, ?_⟩ <;> omega) | (simp only [Room, lenS]; omega) | decide | skip) | (refine Stp.go ?_) | (guard_target =~ WLA _ _ _ _ _ (⟨_, .call ⟨.value (.func 28), _, _⟩, _, _, _, _⟩ :: _) _ _; refine WLA.call rfl rfl (rEach_tr hg hn hl) ?_; rintro ⟨⟨e, os⟩, hos⟩; dsimp only at hos ⊢) | (refine WPA.ifT ?_) | (refine WPA.ifF ?_) | ((first | refine WPA.dec ?_); first | refine .inl ⟨by first | assumption | omega | with_reducible rfl | (refine fun h => h ?_; first | assumption | with_reducible rfl) | (simp only [lenS] <;> omega) | decide, ?_⟩ | refine .inr ⟨by first | assumption | omega | with_reducible rfl | (refine fun h => h ?_; first | assumption | with_reducible rfl) | (simp only [lenS] <;> omega) | decide, ?_⟩) | ((first | refine WPA.ifBt ?_ ?_ | refine WPA.ifBnf ?_ ?_); assumption) | ((first | refine WPA.ifBnt ?_ ?_ | refine WPA.ifBf ?_ ?_); assumption) | ((first | refine WPA.ifs ?_ ?_ | refine WPA.ifB ?_ ?_) <;> intro hc))
  generalize eachL gs o = all at hos hall hG
  revert x; intro X25
  revert x; intro X10
  refine WPA.ent (EntC.out (L' := OwnS 42 e os :: Bk X25 37 [.int .i64 z, .int .i64 1048576, .slice none 0 0, .slice none 0 0, .int .i64 0] :: Bk X10 73 [.int .i64 0, .int .i64 0, .int .i64 0, .int .i64 0] :: L)) ?_
  refine WPA.freeze fun R hR => ?_
  have i1 : SlI (R ++ I) e SV inferInstance os := by have := SlI.ofOwn hR; infer_instance
  have hJ0 : SubI (R ++ I) I := inferInstance
  have hos0 : GsI (R ++ I) os all := hos.sub
  clear hR hos
  generalize R ++ I = J0 at i1 hJ0 hos0
  refine WPA.ent (L' := RefR X25 ⟨z, 1048576, [], [], 0⟩ :: Bk X10 73 [.int .i64 0, .int .i64 0, .int .i64 0, .int .i64 0] :: L) ((Ent.take Take.here (Ent.ownNil (Ent.ownNil Ent.refl))).trans (RefR.fold (x := ⟨z, 1048576, [], [], 0⟩) (p := SV.nil) (q := SV.nil) rfl)) ?_
  refine WPA.loopS (σ := SW) (fun y => [(1, .int .i64 o), (2, .int .i64 B), (4, .int .i64 f), (10, .pointer (some ⟨X10, 0, none⟩)), (11, .pointer (some ⟨X25, 0, none⟩)), (12, .slice e.a e.n e.cap), (13, .slice y.out.a y.out.n y.out.cap), (14, .int .i64 y.i)])
    (fun y => (y.i ≤ 2 * all.length ∧ y.lp.length ≤ y.i) ∧ SubI y.J J0 ∧ Rows (RRunI y.J) y.wes y.lp ∧ TInv o z y.m y.lp ∧ Rel y.m y.rs ∧ totN (ctsF y.lp) + (all.drop y.i).length = all.length ∧ chF o B y.m y.lp (all.drop y.i) = cntC o z B all)
    (fun y => SL w0 y.J (OwnS 49 y.out y.wes :: RefR X25 y.rs :: Bk X10 73 [.int .i64 0, .int .i64 0, .int .i64 0, .int .i64 0] :: L)) (fun y => all.length - y.i) ⟨0, J0, st0 z, RS.mk z 1048576 [] [] 0, SV.nil, [], []⟩ ⟨rfl, rfl, rfl, rfl, rfl, rfl, rfl, rfl, trivial⟩
    ⟨⟨Nat.zero_le _, Nat.le_refl _⟩, inferInstance, Rows.nil, TInv.zero (by omega), ⟨rfl, rfl, rfl, rfl, rfl, fun i hi => by simp at hi⟩, by show (0 : Int) + _ = _; rw [List.drop_zero]; omega, by rw [List.drop_zero]; unfold cntC; rfl⟩ (fun w h => by
      have h3 := (Ent.ownNil (α := RF) (t := 49) Ent.refl).sl h
      show SL w0 J0 (OwnS 49 SV.nil ([] : List RF) :: RefR X25 ⟨z, 1048576, [], [], 0⟩ :: Bk X10 73 [.int .i64 0, .int .i64 0, .int .i64 0, .int .i64 0] :: L) w
      exact h3.to) ?_
  rintro ⟨i, J, m, rs, out, wes, lp⟩ ρ ⟨⟨hi, hli⟩, hJ, hR, hT, rel, htn, hch⟩
  dsimp only at hi hli hJ hR hT rel htn hch ⊢
  have hrl := hR.1
  have hosJ : GsI J os all := hos0.sub
  have heJ : SlI J e SV inferInstance os := i1.sub
  have hol := hos0.1
  by_cases hlt : i < all.length
  · have hlt' : (i : Int) < os.length := by omega
    refine WPA.know (φ := os.map (rd Int J) = all) (fun w hw => List.ext_getElem (by rw [List.length_map]; exact hol) fun j j1 j2 => by
      rw [List.length_map] at j1
      have k := hosJ.2 j j1
      have := k.rd.det k hw
      rw [at_nat os j j1, List.getD_eq_getElem?_getD, List.getElem?_eq_getElem j2] at this
      rw [List.getElem_map]; exact this) fun hom => ?_
    have hdl : (all.drop i).length = all.length - i := List.length_drop
    obtain ⟨ps, hps⟩ : ∃ ps : List Pe, ps = ((os.drop i).take B).map fun g => (g, (1 : Int)) := ⟨_, rfl⟩
    have hpl : ps.length = min B (os.length - i) := by rw [hps]; simp
    have hpa : ∀ k : Nat, k < ps.length → at_ ps (k : Int) = (at_ os ((i : Int) + (k : Int)), 1) := fun k hk => by
      rw [at_nat ps k hk, show (i : Int) + (k : Int) = ((i + k : Nat) : Int) by omega, at_nat os (i + k) (by omega)]; simp [hps]
    have hpk : ps.map (moP (rd Int J)) = ((all.drop i).take B).map one := by
      rw [hps, List.map_map, ← hom, ← List.map_drop, ← List.map_take, List.map_map]; rfl
    have hpg : ∀ k : Nat, k < ps.length → SlI J (at_ os ((i : Int) + (k : Int))) Int inferInstance (rd Int J (at_ os ((i : Int) + (k : Int)))) ∧ (rd Int J (at_ os ((i : Int) + (k : Int)))).length ≤ 1000000 := fun k hk => by
      rw [show (i : Int) + (k : Int) = ((i + k : Nat) : Int) by omega]
      have hk2 : i + k < os.length := by omega
      refine ⟨(hosJ.2 (i + k) hk2).rd, ?_⟩
      have hm : rd Int J os[i + k] ∈ all := by rw [← hom]; exact List.mem_map.2 ⟨_, List.getElem_mem hk2, rfl⟩
      rw [at_nat os (i + k) hk2]
      have := (hG _ hm).1; omega
    have hGt : GoodG o ((all.drop i).take B) := fun g hg => hG g (List.mem_of_mem_drop (List.mem_of_mem_take hg))
    have htl : ((all.drop i).take B).length + ((all.drop i).drop B).length = (all.drop i).length := by rw [← List.length_append, List.take_append_drop]
    obtain ⟨⟨hw0, _⟩, hT1, ht1⟩ := hT.flush ho hGt (by omega)
    have hgo := chF_go (o := o) (B := B) (m := m) (lp := lp) (all := all.drop i) (fun h => by rw [h] at hdl; simp at hdl; omega) (by omega)
    rw [hch] at hgo
    generalize hM : mrg (((all.drop i).take B).map one) = M at hw0 hT1 ht1 hgo
    have hml : M.length ≤ 300 := by
      rw [← hM]
      have := mrg_len (((all.drop i).take B).map one); rw [List.length_map] at this; omega
    have hby := byS_k hw0
    have hroom := hT.room (n := (byS M).size) (by omega)
    have hft : ∀ {K : Foot} {L L' : List HP} [FindK L RefR X25 rs L'], Tr Tryz.prog 41 #[.pointer (some ⟨X25, 0, none⟩), .string (byS M)] (SL w0 K L) (fun s : SV × { r' : RS // Rel (fillN (byS M) m [] 0).1 r' } => .tuple #[.slice s.1.a s.1.n s.1.cap, .int .i64 0]) (fun s => SL w0 K (OwnS 3 s.1 (fillN (byS M) m [] 0).2 :: RefR X25 s.2.1 :: L')) := fun {K L L'} _ => rFill_tr hT.inv.ok rel (by rw [hT.nums.2]; omega) (by omega) hroom
    generalize (fillN (byS M) m [] 0).1 = m1 at hT1 ht1 hgo hft
    generalize (fillN (byS M) m [] 0).2 = ids at hT1 ht1 hgo hft
    obtain ⟨st, hst⟩ : ∃ st : Nat, st = min B os.length := ⟨_, rfl⟩
    have hmin : min (B : Int) (os.length : Int) = (st : Int) := by omega
    have hds : (all.drop i).drop B = all.drop (i + st) := by
      rw [List.drop_drop]
      by_cases h : B ≤ os.length
      · rw [show st = B by omega]
      · rw [List.drop_of_length_le (by omega), List.drop_of_length_le (by omega)]
    rw [hds] at hgo htl
    have hroom2 : Room (wes.length + 1) 48 := ⟨by omega, by omega⟩
    repeat' (first | ((first | refine WLA.m rfl rfl ?_ ?_ | refine WLA.st rfl ?_ ?_ | refine WLA.x rfl rfl ?_ (fun x => ?_) | refine WLA.x0 rfl ?_ (fun x => ?_)); first | exact trivial | exact rfl | assumption | omega | (refine ⟨?_, ?_⟩ <;> omega) | (simp only [Room, lenS]; omega) | decide | skip) | (refine Stp.go ?_) | (refine WPA.ifT ?_) | (refine WPA.ifF ?_) | ((first | refine WPA.dec ?_); first | refine .inl ⟨by first | assumption | omega | with_reducible rfl | (refine fun h => h ?_; first | assumption | with_reducible rfl) | (simp only [lenS] <;> omega) | decide, ?_⟩ | refine .inr ⟨by first | assumption | omega | with_reducible rfl | (refine fun h => h ?_; first | assumption | with_reducible rfl) | (simp only [lenS] <;> omega) | decide, ?_⟩) | ((first | refine WPA.ifBt ?_ ?_ | refine WPA.ifBnf ?_ ?_); assumption) | ((first | refine WPA.ifBnt ?_ ?_ | refine WPA.ifBf ?_ ?_); assumption) | ((first | refine WPA.ifs ?_ ?_ | refine WPA.ifB ?_ ?_) <;> intro hc))
    refine WPA.loopS (σ := Nat × SV × List Pe) (fun y => [(1, .int .i64 o), (2, .int .i64 B), (4, .int .i64 f), (10, .pointer (some ⟨X10, 0, none⟩)), (11, .pointer (some ⟨X25, 0, none⟩)), (12, .slice e.a e.n e.cap), (13, .slice out.a out.n out.cap), (14, .int .i64 i), (15, .slice y.2.1.a y.2.1.n y.2.1.cap), (16, .int .i64 y.1)])
      (fun y => (y.1 ≤ ps.length ∧ y.2.2.length ≤ y.1) ∧ (ps.drop y.1).foldl (putL (rd Int J)) y.2.2 = ps.foldl (putL (rd Int J)) [] ∧ Ris (rd Int J) y.2.2 ∧ ∀ p ∈ y.2.2, SlI J p.1 Int inferInstance (rd Int J p.1) ∧ (rd Int J p.1).length ≤ 1000000)
      (fun y => SL w0 J (OwnS 84 y.2.1 y.2.2 :: OwnS 49 out wes :: RefR X25 rs :: Bk X10 73 [.int .i64 0, .int .i64 0, .int .i64 0, .int .i64 0] :: L)) (fun y => ps.length - y.1) (0, SV.nil, []) ⟨rfl, rfl, rfl, rfl, rfl, rfl, rfl, rfl, rfl, rfl, trivial⟩ ⟨⟨Nat.zero_le _, Nat.le_refl _⟩, rfl, List.Pairwise.nil, by simp⟩ (fun w h => by
        have h2 := (Ent.ownNil (α := Pe) (t := 84) Ent.refl).sl h
        show SL w0 J (OwnS 84 SV.nil ([] : List Pe) :: OwnS 49 out wes :: RefR X25 rs :: Bk X10 73 [.int .i64 0, .int .i64 0, .int .i64 0, .int .i64 0] :: L) w
        exact h2.to) ?_
    rintro ⟨k, r, pp⟩ ρ ⟨⟨hk, hkp⟩, h1, h2, h3⟩
    dsimp only at hk hkp h1 h2 h3 ⊢
    by_cases hkl : k < ps.length
    · have c1 : (k : Int) < B := by omega
      have c2 : (k : Int) < (os.length : Int) - i := by omega
      have hir : (0 : Int) ≤ (i : Int) + (k : Int) ∧ (i : Int) + (k : Int) < os.length := by omega
      have hgi := hpg k hkl
      have hpi := hpa k hkl
      rw [List.drop_eq_getElem_cons hkl, ← at_nat ps k hkl, List.foldl_cons, hpi] at h1
      obtain ⟨v, hv⟩ : ∃ v, at_ os ((i : Int) + (k : Int)) = v := ⟨_, rfl⟩
      rw [hv] at hgi h1
      have hpgp := putG_put (f := rd Int J) (x := (v, (1 : Int))) h2
      have hgr := putL_grg (kg := rd Int J) (G := fun s => SlI J s Int inferInstance (rd Int J s) ∧ (rd Int J s).length ≤ 1000000) h3 (x := (v, (1 : Int))) hgi
      have hlen : (putL (rd Int J) pp (v, 1)).length ≤ pp.length + 1 := putL_len pp
      have h3a : GrG J (rd Int J) pp := fun p hp => (h3 p hp).1
      have h3b : ∀ p ∈ pp, (rd Int J p.1).length ≤ 1000000 := fun p hp => (h3 p hp).2
      repeat' (first | ((rw [hv])) | ((first | refine WLA.m rfl rfl ?_ ?_ | refine WLA.st rfl ?_ ?_ | refine WLA.x rfl rfl ?_ (fun x => ?_) | refine WLA.x0 rfl ?_ (fun x => ?_)); first | exact trivial | exact rfl | assumption | omega | (refine ⟨?_, ?_⟩ <;> omega) | (simp only [Room, lenS]; omega) | decide | skip) | (refine Stp.go ?_) | (guard_target =~ WLA _ _ _ _ _ (⟨_, .call ⟨.value (.func 63), _, _⟩, _, _, _, _⟩ :: _) _ _; refine WLA.call rfl rfl (rPut_tr h3a h3b hgi.1 hgi.2 (by omega)) ?_; rintro r2; rw [hpgp]) | (refine WPA.ifT ?_) | (refine WPA.ifF ?_) | (refine WLA.no rfl rfl ?_) | ((first | refine WPA.dec ?_ | ((fail_if_success (guard_target =~ WLA _ _ _ _ _ _ (put1 _ _ (.bool true)) _)); (fail_if_success (guard_target =~ WLA _ _ _ _ _ _ (put1 _ _ (.bool false)) _)); refine WLA.dec rfl rfl ?_) | refine WLA.pk ?_); first | refine .inl ⟨by first | assumption | omega | with_reducible rfl | (refine fun h => h ?_; first | assumption | with_reducible rfl) | (simp only [lenS] <;> omega) | decide, ?_⟩ | refine .inr ⟨by first | assumption | omega | with_reducible rfl | (refine fun h => h ?_; first | assumption | with_reducible rfl) | (simp only [lenS] <;> omega) | decide, ?_⟩) | ((first | refine WPA.ifBt ?_ ?_ | refine WPA.ifBnf ?_ ?_); assumption) | ((first | refine WPA.ifBnt ?_ ?_ | refine WPA.ifBf ?_ ?_); assumption) | ((first | refine WPA.ifs ?_ ?_ | refine WPA.ifB ?_ ?_) <;> intro hc) | ((fail_if_success (guard_target =~ WLA _ _ _ _ _ _ (put1 _ _ (.bool true)) _)); (fail_if_success (guard_target =~ WLA _ _ _ _ _ _ (put1 _ _ (.bool false)) _)); (first | refine WLA.both rfl rfl ?_ ?_ | refine WLA.bothB rfl rfl ?_ ?_) <;> intro hg))
      exact QQ.loopS (k + 1, r2, putL (rd Int J) pp (v, 1)) ⟨rfl, rfl, rfl, rfl, rfl, rfl, rfl, rfl, rfl, rfl, trivial⟩ ⟨⟨hkl, by dsimp only; omega⟩, h1, putL_ris h2, hgr⟩ (by dsimp only; omega) (fun w h => h.to)
    · rw [List.drop_of_length_le (by omega), List.foldl_nil] at h1
      have hcl := fold_cell (kg := rd Int J) ps []
      rw [hpk, ← h1] at hcl
      have hMp : M = pp.map (ctP (rd Int J)) := by rw [← hM]; unfold mrg; exact hcl.symm
      have hbr : (k : Int) < B ∧ ¬ (k : Int) < (os.length : Int) - i ∨ ¬ (k : Int) < B := by omega
      rcases hbr with ⟨hkB, c2⟩ | hkB
      · skip
        repeat' ((fail_if_success (guard_target =~ WPA _ _ _ (.region 12 _ _) _ _ _)); first | ((first | refine WLA.m rfl rfl ?_ ?_ | refine WLA.st rfl ?_ ?_ | refine WLA.x rfl rfl ?_ (fun x => ?_) | refine WLA.x0 rfl ?_ (fun x => ?_)); first | exact trivial | exact rfl | assumption | omega | (refine ⟨?_, ?_⟩ <;> omega) | (simp only [Room, lenS]; omega) | decide | skip) | (refine Stp.go ?_) | (refine WPA.ifT ?_) | (refine WPA.ifF ?_) | (refine WLA.no rfl rfl ?_) | ((first | refine WPA.dec ?_ | ((fail_if_success (guard_target =~ WLA _ _ _ _ _ _ (put1 _ _ (.bool true)) _)); (fail_if_success (guard_target =~ WLA _ _ _ _ _ _ (put1 _ _ (.bool false)) _)); refine WLA.dec rfl rfl ?_) | refine WLA.pk ?_); first | refine .inl ⟨by first | assumption | omega | with_reducible rfl | (refine fun h => h ?_; first | assumption | with_reducible rfl) | (simp only [lenS] <;> omega) | decide, ?_⟩ | refine .inr ⟨by first | assumption | omega | with_reducible rfl | (refine fun h => h ?_; first | assumption | with_reducible rfl) | (simp only [lenS] <;> omega) | decide, ?_⟩) | ((first | refine WPA.ifBt ?_ ?_ | refine WPA.ifBnf ?_ ?_); assumption) | ((first | refine WPA.ifBnt ?_ ?_ | refine WPA.ifBf ?_ ?_); assumption) | ((first | refine WPA.ifs ?_ ?_ | refine WPA.ifB ?_ ?_) <;> intro hc) | ((fail_if_success (guard_target =~ WLA _ _ _ _ _ _ (put1 _ _ (.bool true)) _)); (fail_if_success (guard_target =~ WLA _ _ _ _ _ _ (put1 _ _ (.bool false)) _)); (first | refine WLA.both rfl rfl ?_ ?_ | refine WLA.bothB rfl rfl ?_ ?_) <;> intro hg))
        refine WPA.ent (EntC.out (L' := OwnS 84 r pp :: OwnS 49 out wes :: RefR X25 rs :: Bk X10 73 [.int .i64 0, .int .i64 0, .int .i64 0, .int .i64 0] :: L)) ?_
        refine WPA.freeze fun R3 hR3 => ?_
        have sr : SlI (R3 ++ J) r Pe inferInstance pp := by have := SlI.ofOwn hR3; infer_instance
        have hv : LstI (R3 ++ J) r M := by rw [hMp]; exact LstI.ofMap sr fun p hp => (h3 p hp).1.sub
        have heJ3 : SlI (R3 ++ J) e SV inferInstance os := heJ.sub
        repeat' (first | ((rw [hmin])) | ((first | refine WLA.m rfl rfl ?_ ?_ | refine WLA.st rfl ?_ ?_ | refine WLA.x rfl rfl ?_ (fun x => ?_) | refine WLA.x0 rfl ?_ (fun x => ?_)); first | exact trivial | exact rfl | assumption | omega | (refine ⟨?_, ?_⟩ <;> omega) | (simp only [Room, lenS]; omega) | decide | skip) | (refine Stp.go ?_) | (guard_target =~ WLA _ _ _ _ _ (⟨_, .call ⟨.value (.func 11), _, _⟩, _, _, _, _⟩ :: _) _ _; refine WLA.call rfl rfl (rBytes_trI hv hw0 (by omega)) ?_; rintro ⟨⟩) | (guard_target =~ WLA _ _ _ _ _ (⟨_, .call ⟨.value (.func 41), _, _⟩, _, _, _, _⟩ :: _) _ _; refine WLA.call rfl rfl (hft) ?_; rintro ⟨nb, rs1, rel1⟩; dsimp only) | (refine WPA.ifT ?_) | (refine WPA.ifF ?_) | ((first | refine WPA.dec ?_); first | refine .inl ⟨by first | assumption | omega | with_reducible rfl | (refine fun h => h ?_; first | assumption | with_reducible rfl) | (simp only [lenS] <;> omega) | decide, ?_⟩ | refine .inr ⟨by first | assumption | omega | with_reducible rfl | (refine fun h => h ?_; first | assumption | with_reducible rfl) | (simp only [lenS] <;> omega) | decide, ?_⟩) | ((first | refine WPA.ifBt ?_ ?_ | refine WPA.ifBnf ?_ ?_); assumption) | ((first | refine WPA.ifBnt ?_ ?_ | refine WPA.ifBf ?_ ?_); assumption) | ((first | refine WPA.ifs ?_ ?_ | refine WPA.ifB ?_ ?_) <;> intro hc))
        revert x; intro out2
        refine QQ.ent (EntC.out (L' := OwnS 3 nb ids :: OwnS 49 out2 (wes ++ [(nb, r)]) :: RefR X25 rs1 :: Bk X10 73 [.int .i64 0, .int .i64 0, .int .i64 0, .int .i64 0] :: L)) ?_
        refine QQ.freeze fun R4 hR4 => ?_
        have s2 : SlI (R4 ++ (R3 ++ J)) nb Int inferInstance ids := by have := SlI.ofOwn hR4; infer_instance
        exact QQ.loopS ⟨i + st, R4 ++ (R3 ++ J), m1, rs1, out2, wes ++ [(nb, r)], lp ++ [(ids, M)]⟩ ⟨rfl, rfl, rfl, rfl, rfl, rfl, rfl, rfl, trivial⟩ ⟨⟨by dsimp only; omega, by dsimp only; rw [List.length_append, List.length_singleton]; omega⟩, ⟨fun z hz => List.mem_append_right _ (List.mem_append_right _ (hJ.out hz))⟩, (hR.mono fun _ _ k => k.sub inferInstance).snoc ⟨s2, hv.sub inferInstance⟩, hT1, rel1, by dsimp only; rw [ht1]; omega, hgo.symm⟩ (by dsimp only; omega) (fun w h => h.to)
      · skip
        repeat' ((fail_if_success (guard_target =~ WPA _ _ _ (.region 12 _ _) _ _ _)); first | ((first | refine WLA.m rfl rfl ?_ ?_ | refine WLA.st rfl ?_ ?_ | refine WLA.x rfl rfl ?_ (fun x => ?_) | refine WLA.x0 rfl ?_ (fun x => ?_)); first | exact trivial | exact rfl | assumption | omega | (refine ⟨?_, ?_⟩ <;> omega) | (simp only [Room, lenS]; omega) | decide | skip) | (refine Stp.go ?_) | (refine WPA.ifT ?_) | (refine WPA.ifF ?_) | (refine WLA.no rfl rfl ?_) | ((first | refine WPA.dec ?_ | ((fail_if_success (guard_target =~ WLA _ _ _ _ _ _ (put1 _ _ (.bool true)) _)); (fail_if_success (guard_target =~ WLA _ _ _ _ _ _ (put1 _ _ (.bool false)) _)); refine WLA.dec rfl rfl ?_) | refine WLA.pk ?_); first | refine .inl ⟨by first | assumption | omega | with_reducible rfl | (refine fun h => h ?_; first | assumption | with_reducible rfl) | (simp only [lenS] <;> omega) | decide, ?_⟩ | refine .inr ⟨by first | assumption | omega | with_reducible rfl | (refine fun h => h ?_; first | assumption | with_reducible rfl) | (simp only [lenS] <;> omega) | decide, ?_⟩) | ((first | refine WPA.ifBt ?_ ?_ | refine WPA.ifBnf ?_ ?_); assumption) | ((first | refine WPA.ifBnt ?_ ?_ | refine WPA.ifBf ?_ ?_); assumption) | ((first | refine WPA.ifs ?_ ?_ | refine WPA.ifB ?_ ?_) <;> intro hc) | ((fail_if_success (guard_target =~ WLA _ _ _ _ _ _ (put1 _ _ (.bool true)) _)); (fail_if_success (guard_target =~ WLA _ _ _ _ _ _ (put1 _ _ (.bool false)) _)); (first | refine WLA.both rfl rfl ?_ ?_ | refine WLA.bothB rfl rfl ?_ ?_) <;> intro hg))
        refine WPA.ent (EntC.out (L' := OwnS 84 r pp :: OwnS 49 out wes :: RefR X25 rs :: Bk X10 73 [.int .i64 0, .int .i64 0, .int .i64 0, .int .i64 0] :: L)) ?_
        refine WPA.freeze fun R3 hR3 => ?_
        have sr : SlI (R3 ++ J) r Pe inferInstance pp := by have := SlI.ofOwn hR3; infer_instance
        have hv : LstI (R3 ++ J) r M := by rw [hMp]; exact LstI.ofMap sr fun p hp => (h3 p hp).1.sub
        have heJ3 : SlI (R3 ++ J) e SV inferInstance os := heJ.sub
        repeat' (first | ((rw [hmin])) | ((first | refine WLA.m rfl rfl ?_ ?_ | refine WLA.st rfl ?_ ?_ | refine WLA.x rfl rfl ?_ (fun x => ?_) | refine WLA.x0 rfl ?_ (fun x => ?_)); first | exact trivial | exact rfl | assumption | omega | (refine ⟨?_, ?_⟩ <;> omega) | (simp only [Room, lenS]; omega) | decide | skip) | (refine Stp.go ?_) | (guard_target =~ WLA _ _ _ _ _ (⟨_, .call ⟨.value (.func 11), _, _⟩, _, _, _, _⟩ :: _) _ _; refine WLA.call rfl rfl (rBytes_trI hv hw0 (by omega)) ?_; rintro ⟨⟩) | (guard_target =~ WLA _ _ _ _ _ (⟨_, .call ⟨.value (.func 41), _, _⟩, _, _, _, _⟩ :: _) _ _; refine WLA.call rfl rfl (hft) ?_; rintro ⟨nb, rs1, rel1⟩; dsimp only) | (refine WPA.ifT ?_) | (refine WPA.ifF ?_) | ((first | refine WPA.dec ?_); first | refine .inl ⟨by first | assumption | omega | with_reducible rfl | (refine fun h => h ?_; first | assumption | with_reducible rfl) | (simp only [lenS] <;> omega) | decide, ?_⟩ | refine .inr ⟨by first | assumption | omega | with_reducible rfl | (refine fun h => h ?_; first | assumption | with_reducible rfl) | (simp only [lenS] <;> omega) | decide, ?_⟩) | ((first | refine WPA.ifBt ?_ ?_ | refine WPA.ifBnf ?_ ?_); assumption) | ((first | refine WPA.ifBnt ?_ ?_ | refine WPA.ifBf ?_ ?_); assumption) | ((first | refine WPA.ifs ?_ ?_ | refine WPA.ifB ?_ ?_) <;> intro hc))
        revert x; intro out2
        refine QQ.ent (EntC.out (L' := OwnS 3 nb ids :: OwnS 49 out2 (wes ++ [(nb, r)]) :: RefR X25 rs1 :: Bk X10 73 [.int .i64 0, .int .i64 0, .int .i64 0, .int .i64 0] :: L)) ?_
        refine QQ.freeze fun R4 hR4 => ?_
        have s2 : SlI (R4 ++ (R3 ++ J)) nb Int inferInstance ids := by have := SlI.ofOwn hR4; infer_instance
        exact QQ.loopS ⟨i + st, R4 ++ (R3 ++ J), m1, rs1, out2, wes ++ [(nb, r)], lp ++ [(ids, M)]⟩ ⟨rfl, rfl, rfl, rfl, rfl, rfl, rfl, rfl, trivial⟩ ⟨⟨by dsimp only; omega, by dsimp only; rw [List.length_append, List.length_singleton]; omega⟩, ⟨fun z hz => List.mem_append_right _ (List.mem_append_right _ (hJ.out hz))⟩, (hR.mono fun _ _ k => k.sub inferInstance).snoc ⟨s2, hv.sub inferInstance⟩, hT1, rel1, by dsimp only; rw [ht1]; omega, hgo.symm⟩ (by dsimp only; omega) (fun w h => h.to)
  · have hd : all.drop i = [] := List.drop_of_length_le (by omega)
    rw [hd, chF_nil] at hch
    have hrun := TInv.runs ho (show 1 < f by omega) lp.length lp rfl m 0 hT
    obtain ⟨m', l', p, e', hG'⟩ : ∃ m' l' p e', runsF o f m lp 0 = (m', l', p, e') := ⟨_, _, _, _, rfl⟩
    rw [hG'] at hrun
    dsimp only at hrun
    subst hrun
    have e1 : cntC o z B all = (m, lp) := hch.symm
    have e2 : cntR o z B f all = (m', l', p, 0) := by unfold cntR; rw [e1]; exact hG'
    rw [e1, e2]
    refine WPA.freeze fun R2 hF => ?_
    have hsn : SlI (R2 ++ J) out RF inferInstance wes := by have := SlI.ofOwn hF; infer_instance
    have heJ2 : SlI (R2 ++ J) e SV inferInstance os := heJ.sub
    have hrt := fun {L L' : List HP} [FindK L RefR X25 rs L'] => rRuns_tr (w0 := w0) (L := L) (L' := L') (S := X25) (o := o) ⟨show 2 ≤ f by omega, by omega⟩ hsn (hR.mono fun _ _ k => k.sub inferInstance) hT.inv rel (by omega) hG'
    have hlt' : ¬ (i : Int) < os.length := by omega
    repeat' (first | ((first | refine WLA.m rfl rfl ?_ ?_ | refine WLA.st rfl ?_ ?_ | refine WLA.x rfl rfl ?_ (fun x => ?_) | refine WLA.x0 rfl ?_ (fun x => ?_)); first | exact trivial | exact rfl | assumption | omega | (refine ⟨?_, ?_⟩ <;> omega) | (simp only [Room, lenS]; omega) | decide | skip) | (refine Stp.go ?_) | (guard_target =~ WLA _ _ _ _ _ (⟨_, .call ⟨.value (.func 16), _, _⟩, _, _, _, _⟩ :: _) _ _; refine WLA.call rfl rfl (hrt) ?_; rintro ⟨q, J2, rs2⟩; dsimp only; refine WLA.pure fun hq => ?_; have heJ3 : SlI J2 e SV inferInstance os := heJ2.sub (hs := hq.1)) | (refine WPA.ifT ?_) | (refine WPA.ifF ?_) | ((first | refine WPA.dec ?_); first | refine .inl ⟨by first | assumption | omega | with_reducible rfl | (refine fun h => h ?_; first | assumption | with_reducible rfl) | (simp only [lenS] <;> omega) | decide, ?_⟩ | refine .inr ⟨by first | assumption | omega | with_reducible rfl | (refine fun h => h ?_; first | assumption | with_reducible rfl) | (simp only [lenS] <;> omega) | decide, ?_⟩) | ((first | refine WPA.ifBt ?_ ?_ | refine WPA.ifBnf ?_ ?_); assumption) | ((first | refine WPA.ifBnt ?_ ?_ | refine WPA.ifBf ?_ ?_); assumption) | ((first | refine WPA.ifs ?_ ?_ | refine WPA.ifB ?_ ?_) <;> intro hc))
    refine QQ.endc rfl () (by rw [hq.2.1.peak, hrl, hol]) fun w h => (SL.to (L' := L) h).sub fun z hz => hq.1.out (List.mem_append_right _ (hJ.out (hJ0.out hz)))
end
end Go.Proofs.YtamnobjdgjbmbaaGreat
