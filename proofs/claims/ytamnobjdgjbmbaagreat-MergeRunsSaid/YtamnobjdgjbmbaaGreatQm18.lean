/- Texts that MergeRuns_law leans on, part 18. Conditions: none. -/
import Derived.OpenShut
import Derived.Test.YtamnobjdgjbmbaaGreatQm17
namespace Go.Proofs.YtamnobjdgjbmbaaGreat
open Go Go.Fw Go.RowKit
set_option linter.unusedVariables false
set_option linter.unusedSimpArgs false
set_option maxRecDepth 100000
set_option maxHeartbeats 16000000
set_option synthInstance.maxHeartbeats 200000
set_option synthInstance.maxSize 100000
attribute [local irreducible] WPA WLA WDA WDQ WDE QQ seqQ blockQ loopQ fnQ OpP OpT Tr TrP SL SLd OwnS LitS Bk BkE Ob
attribute [local irreducible] vS keyS parL RowH CtsH mrg grp
theorem free_in {mi : BS} {ids : List Int} (ok : mi.Ok) (h : Right mi ids) {k : Nat} (hk : k < ids.length) :
    ((ids.take k).foldl BS.free mi).Ok ∧ Has ((ids.take k).foldl BS.free mi).tk (at_ ids (k : Int)) ∧ (ids.take (k + 1)).foldl BS.free mi = ((ids.take k).foldl BS.free mi).free (at_ ids (k : Int)) := by
  have hat := at_nat ids k hk
  have F := frees (ids.take k) ok (h.2.sublist (List.take_sublist _ _)) fun i hi => h.1 i (List.mem_of_mem_take hi)
  have hnot : ids[k] ∉ ids.take k := fun hm => by
    obtain ⟨j, hj, e⟩ := List.mem_iff_getElem.1 hm
    rw [List.length_take] at hj
    rw [List.getElem_take] at e
    exact List.pairwise_iff_getElem.1 (List.nodup_iff_pairwise_ne.1 h.2) j k (by omega) hk (by omega) e
  rw [hat]
  exact ⟨F.ok, (F.keep _ (h.1 _ (List.getElem_mem hk)) hnot).1, by rw [List.take_add_one, List.getElem?_eq_getElem hk, List.foldl_append]; rfl⟩
theorem cutL_pre {α : Type} {xs : List α} {n : Nat} (h : n ≤ xs.length) : cutL xs 0 (n : Int) = xs.take n := by
  unfold cutL; rw [if_pos (by omega), show Int.toNat 0 = 0 from rfl, List.drop_zero, show ((n : Int) - 0).toNat = n by omega]
theorem cutL_post {α : Type} {xs : List α} {n : Nat} (h : n ≤ xs.length) : cutL xs (n : Int) (xs.length : Int) = xs.drop n := by
  unfold cutL; rw [if_pos (by omega), Int.toNat_natCast, List.take_of_length_le (by rw [List.length_drop]; omega)]
structure GR where
  i : Nat
  rs : RS
section
variable {L L' : List HP} {w0 : World} {I : Foot} {S : Nat}
theorem rGroup_tr {m m' : BS} {rs : RS} {o e : Int} {g : SV} {es : List RF} {a l b : List PR} {r : PR} [h : FindK L RefR S rs L'] (hs : SlI I g RF inferInstance es) (hR : Rows (RRunI I) es l) (hI : RInv o m (a ++ (l ++ b))) (rel : Rel m rs) (hl : l ≠ []) (hn : l.length ≤ 1000) (hG : grp o m l = (m', r, e)) :
    Tr Tryz.prog 47 #[.pointer (some ⟨S, 0, none⟩), .int .i64 o, .slice g.a g.n g.cap] (SL w0 I L) (fun x : RF × Foot × RS => .tuple #[.agg #[.slice x.1.1.a x.1.1.n x.1.1.cap, .slice x.1.2.a x.1.2.n x.1.2.cap], .int .i64 e])
      (fun x w => (SubI x.2.1 I ∧ Rel m' x.2.2 ∧ (e = 0 → RRunI x.2.1 x.1 r)) ∧ SL w0 x.2.1 (RefR S x.2.2 :: L') w) := by
  refine Tr.at h.out ?_
  refine Tr.intro Tryz.func47 rfl Tryz.ntmps47 rfl ?_
  have hel := hR.1
  have hmem : ∀ {i : Nat}, i < l.length → l.getD i ([], []) ∈ a ++ (l ++ b) := fun {i} hi => by
    rw [List.getD_eq_getElem?_getD, List.getElem?_eq_getElem hi]
    exact List.mem_append_right _ (List.mem_append_left _ (List.getElem_mem _))
  have hpos := List.length_pos_iff.2 hl
  have hmost := hI.ok.most.2
  by_cases h1 : l.length = 1
  · rw [grp_one h1] at hG
    simp only [Prod.mk.injEq] at hG
    obtain ⟨rfl, rfl, rfl⟩ := hG
    have hr0 : RRunI I (at_ es 0) (l.getD 0 ([], [])) := hR.2 0 (by omega)
    obtain ⟨q, hq⟩ : ∃ q, at_ es 0 = q := ⟨_, rfl⟩
    rw [hq] at hr0
    have he1 : (es.length : Int) = 1 := by omega
    have hir : (0 : Int) ≤ 0 ∧ (0 : Int) < es.length := by omega
    repeat' (first | ((rw [hq])) | ((first | refine WLA.m rfl rfl ?_ ?_ | refine WLA.st rfl ?_ ?_ | refine WLA.x rfl rfl ?_ (fun x => ?_) | refine WLA.x0 rfl ?_ (fun x => ?_)); first | exact trivial | exact rfl | assumption | omega | (refine ⟨?_, ?_⟩ <;> omega) | (simp only [Room, lenS]; omega) | decide | skip) | (refine Stp.go ?_) | (refine WPA.ifT ?_) | (refine WPA.ifF ?_) | ((first | refine WPA.dec ?_); first | refine .inl ⟨by first | assumption | omega | with_reducible rfl | (refine fun h => h ?_; first | assumption | with_reducible rfl) | (simp only [lenS] <;> omega) | decide, ?_⟩ | refine .inr ⟨by first | assumption | omega | with_reducible rfl | (refine fun h => h ?_; first | assumption | with_reducible rfl) | (simp only [lenS] <;> omega) | decide, ?_⟩) | ((first | refine WPA.ifBt ?_ ?_ | refine WPA.ifBnf ?_ ?_); assumption) | ((first | refine WPA.ifBnt ?_ ?_ | refine WPA.ifBf ?_ ?_); assumption) | ((first | refine WPA.ifs ?_ ?_ | refine WPA.ifB ?_ ?_) <;> intro hc))
    exact QQ.endc rfl (q, I, rs) rfl fun w h => ⟨⟨inferInstance, rel, fun _ => hr0⟩, h.to⟩
  have he1 : ¬ (es.length : Int) = 1 := by omega
  repeat' (first | ((first | refine WLA.m rfl rfl ?_ ?_ | refine WLA.st rfl ?_ ?_ | refine WLA.x rfl rfl ?_ (fun x => ?_) | refine WLA.x0 rfl ?_ (fun x => ?_)); first | exact trivial | exact rfl | assumption | omega | (refine ⟨?_, ?_⟩ <;> omega) | (simp only [Room, lenS]; omega) | decide | skip) | (refine Stp.go ?_) | (refine WPA.ifT ?_) | (refine WPA.ifF ?_) | ((first | refine WPA.dec ?_); first | refine .inl ⟨by first | assumption | omega | with_reducible rfl | (refine fun h => h ?_; first | assumption | with_reducible rfl) | (simp only [lenS] <;> omega) | decide, ?_⟩ | refine .inr ⟨by first | assumption | omega | with_reducible rfl | (refine fun h => h ?_; first | assumption | with_reducible rfl) | (simp only [lenS] <;> omega) | decide, ?_⟩) | ((first | refine WPA.ifBt ?_ ?_ | refine WPA.ifBnf ?_ ?_); assumption) | ((first | refine WPA.ifBnt ?_ ?_ | refine WPA.ifBf ?_ ?_); assumption) | ((first | refine WPA.ifs ?_ ?_ | refine WPA.ifB ?_ ?_) <;> intro hc))
  revert x; intro R6
  refine WPA.loopS (σ := Nat × SV) (fun y => [(0, .pointer (some ⟨S, 0, none⟩)), (1, .int .i64 o), (2, .slice g.a g.n g.cap), (6, .pointer (some ⟨R6, 0, none⟩)), (7, .int .i64 0), (8, .slice y.2.a y.2.n y.2.cap), (9, .int .i64 y.1)])
    (fun y => y.1 ≤ es.length) (fun y => SL w0 I (OwnS 27 y.2 ((es.take y.1).map Prod.snd) :: Bk R6 49 [.slice none 0 0, .slice none 0 0] :: RefR S rs :: L')) (fun y => es.length - y.1) (0, SV.nil) ⟨rfl, rfl, rfl, rfl, rfl, rfl, rfl, trivial⟩ (Nat.zero_le _)
    (fun w h => by
      have h2 := (Ent.ownNil (α := SV) (t := 27) Ent.refl).sl h
      show SL w0 I (OwnS 27 SV.nil ([] : List SV) :: Bk R6 49 [.slice none 0 0, .slice none 0 0] :: RefR S rs :: L') w
      exact h2.to) ?_
  rintro ⟨i, v⟩ ρ hi
  dsimp only at hi ⊢
  by_cases hlt : i < es.length
  · have hlt' : (i : Int) < es.length := by omega
    have hir : (0 : Int) ≤ i ∧ (i : Int) < es.length := by omega
    have htk : (es.take (i + 1)).map Prod.snd = (es.take i).map Prod.snd ++ [(at_ es (i : Int)).2] := by rw [List.take_add_one, List.getElem?_eq_getElem hlt, List.map_append, at_nat es i hlt]; rfl
    have hroom : Room (((es.take i).map Prod.snd).length + 1) 24 := ⟨by rw [List.length_map, List.length_take]; omega, by rw [List.length_map, List.length_take]; omega⟩
    obtain ⟨q, hq⟩ : ∃ q, at_ es (i : Int) = q := ⟨_, rfl⟩
    rw [hq] at htk
    generalize (es.take i).map Prod.snd = vs at htk hroom
    repeat' (first | ((rw [hq])) | ((first | refine WLA.m rfl rfl ?_ ?_ | refine WLA.st rfl ?_ ?_ | refine WLA.x rfl rfl ?_ (fun x => ?_) | refine WLA.x0 rfl ?_ (fun x => ?_)); first | exact trivial | exact rfl | assumption | omega | (refine ⟨?_, ?_⟩ <;> omega) | (simp only [Room, lenS]; omega) | decide | skip) | (refine Stp.go ?_) | (refine WPA.ifT ?_) | (refine WPA.ifF ?_) | ((first | refine WPA.dec ?_); first | refine .inl ⟨by first | assumption | omega | with_reducible rfl | (refine fun h => h ?_; first | assumption | with_reducible rfl) | (simp only [lenS] <;> omega) | decide, ?_⟩ | refine .inr ⟨by first | assumption | omega | with_reducible rfl | (refine fun h => h ?_; first | assumption | with_reducible rfl) | (simp only [lenS] <;> omega) | decide, ?_⟩) | ((first | refine WPA.ifBt ?_ ?_ | refine WPA.ifBnf ?_ ?_); assumption) | ((first | refine WPA.ifBnt ?_ ?_ | refine WPA.ifBf ?_ ?_); assumption) | ((first | refine WPA.ifs ?_ ?_ | refine WPA.ifB ?_ ?_) <;> intro hc))
    exact QQ.loopS (i + 1, x) ⟨rfl, rfl, rfl, rfl, rfl, rfl, rfl, trivial⟩ hlt (by dsimp only; omega) (fun w h => by dsimp only; rw [htk]; exact h.to)
  have hlt' : ¬ (i : Int) < es.length := by omega
  have hie : i = es.length := by omega
  subst hie
  rw [List.take_length]
  refine WPA.freeze fun R0 hF0 => ?_
  have hvs : SlI (R0 ++ I) v SV inferInstance (es.map Prod.snd) := by have := SlI.ofOwn hF0; infer_instance
  have hsJ : SlI (R0 ++ I) g RF inferInstance es := hs.sub
  have hRJ : Rows (RRunI (R0 ++ I)) es l := hR.mono fun _ _ k => k.sub inferInstance
  have hJI : SubI (R0 ++ I) I := inferInstance
  clear hF0 hs hR
  generalize R0 ++ I = J at hvs hsJ hRJ hJI
  have hLs : LsI J (es.map Prod.snd) (l.map Prod.snd) := ⟨by rw [List.length_map, List.length_map]; exact hel, fun j hj => by
    rw [List.length_map] at hj
    have := (hRJ.get hj).2
    rw [at_nat _ j (by rw [List.length_map]; omega), List.getElem_map, List.getD_eq_getElem?_getD, List.getElem?_map, List.getElem?_eq_getElem hj]
    exact this⟩
  have hgs : ∀ ms ∈ l.map Prod.snd, Ris id ms ∧ ∀ m ∈ ms, m.1.length ≤ 1000000 := fun ms hms => by
    obtain ⟨r, hr, rfl⟩ := List.mem_map.1 hms
    have hr' : r ∈ a ++ (l ++ b) := List.mem_append_right _ (List.mem_append_left _ hr)
    exact ⟨hI.ris r hr', fun x hx => by have := wrong_len8 (hI.wr r hr') x hx; omega⟩
  have hfl : (l.map Prod.snd).flatten = ctsF l := by rw [ctsF, List.flatMap_def]
  have hc3 : (ctsF l).length ≤ 300 := by
    have := hI.len
    rw [ctsF, List.flatMap_append, List.flatMap_append, List.length_append, List.length_append] at this
    show (l.flatMap Prod.snd).length ≤ 300
    omega
  have hLt : ∀ {L : List HP}, Tr Tryz.prog 20 #[.slice v.a v.n v.cap] (SL w0 J L) (fun x : SV × Foot => .slice x.1.a x.1.n x.1.cap) (fun x w => (SubI x.2 J ∧ LstI x.2 x.1 (mrg (ctsF l))) ∧ SL w0 x.2 L w) := fun {L} => by
    have := rLists_trC (s := v) (L := L) (w0 := w0) hLs hgs (by rw [hfl, List.length_map]; omega)
    rw [hfl] at this
    exact this
  have hml : (mrg (ctsF l)).length ≤ 300 := Nat.le_trans (mrg_len _) hc3
  have hm8 : ∀ m ∈ mrg (ctsF l), m.1.length ≤ 1000000 := fun m hm => by
    obtain ⟨y, hy, e⟩ := mrg_key hm
    obtain ⟨r, hr, hyr⟩ := List.mem_flatMap.1 hy
    have := wrong_len8 (hI.wr r (List.mem_append_right _ (List.mem_append_left _ hr))) y hyr
    rw [e]; omega
  by_cases hw : wrong o (mrg (ctsF l)) = 0
  case neg =>
    have hee := errW_bad (m := m) hw
    rw [grp_err h1 (by rw [hee]; exact hw), hee] at hG
    simp only [Prod.mk.injEq] at hG
    obtain ⟨rfl, rfl, rfl⟩ := hG
    generalize mrg (ctsF l) = M at hLt hml hm8 hw
    repeat' (first | ((first | refine WLA.m rfl rfl ?_ ?_ | refine WLA.st rfl ?_ ?_ | refine WLA.x rfl rfl ?_ (fun x => ?_) | refine WLA.x0 rfl ?_ (fun x => ?_)); first | exact trivial | exact rfl | assumption | omega | (refine ⟨?_, ?_⟩ <;> omega) | (simp only [Room, lenS]; omega) | decide | skip) | (refine Stp.go ?_) | (guard_target =~ WLA _ _ _ _ _ (⟨_, .call ⟨.value (.func 20), _, _⟩, _, _, _, _⟩ :: _) _ _; refine WLA.call rfl rfl (hLt) ?_; rintro ⟨c, K⟩; dsimp only; refine WLA.pure fun hc => ?_) | (refine WPA.ifT ?_) | (refine WPA.ifF ?_) | ((first | refine WPA.dec ?_); first | refine .inl ⟨by first | assumption | omega | with_reducible rfl | (refine fun h => h ?_; first | assumption | with_reducible rfl) | (simp only [lenS] <;> omega) | decide, ?_⟩ | refine .inr ⟨by first | assumption | omega | with_reducible rfl | (refine fun h => h ?_; first | assumption | with_reducible rfl) | (simp only [lenS] <;> omega) | decide, ?_⟩) | ((first | refine WPA.ifBt ?_ ?_ | refine WPA.ifBnf ?_ ?_); assumption) | ((first | refine WPA.ifBnt ?_ ?_ | refine WPA.ifBf ?_ ?_); assumption) | ((first | refine WPA.ifs ?_ ?_ | refine WPA.ifB ?_ ?_) <;> intro hc))
    obtain ⟨hc1, hc2⟩ := hc
    repeat' (first | ((first | refine WLA.m rfl rfl ?_ ?_ | refine WLA.st rfl ?_ ?_ | refine WLA.x rfl rfl ?_ (fun x => ?_) | refine WLA.x0 rfl ?_ (fun x => ?_)); first | exact trivial | exact rfl | assumption | omega | (refine ⟨?_, ?_⟩ <;> omega) | (simp only [Room, lenS]; omega) | decide | skip) | (refine Stp.go ?_) | (guard_target =~ WLA _ _ _ _ _ (⟨_, .call ⟨.value (.func 10), _, _⟩, _, _, _, _⟩ :: _) _ _; refine WLA.call rfl rfl (Wrong_trI hc2 hm8 (by omega)) ?_; rintro ⟨⟩) | (refine WPA.ifT ?_) | (refine WPA.ifF ?_) | ((first | refine WPA.dec ?_); first | refine .inl ⟨by first | assumption | omega | with_reducible rfl | (refine fun h => h ?_; first | assumption | with_reducible rfl) | (simp only [lenS] <;> omega) | decide, ?_⟩ | refine .inr ⟨by first | assumption | omega | with_reducible rfl | (refine fun h => h ?_; first | assumption | with_reducible rfl) | (simp only [lenS] <;> omega) | decide, ?_⟩) | ((first | refine WPA.ifBt ?_ ?_ | refine WPA.ifBnf ?_ ?_); assumption) | ((first | refine WPA.ifBnt ?_ ?_ | refine WPA.ifBf ?_ ?_); assumption) | ((first | refine WPA.ifs ?_ ?_ | refine WPA.ifB ?_ ?_) <;> intro hc))
    exact QQ.endc rfl ((SV.nil, c), K, rs) rfl fun w h => ⟨⟨⟨fun z hz => hc1.out (hJI.out hz)⟩, rel, fun h0 => absurd h0 hw⟩, h.to⟩
  have hee := errW_ok (m := m) hw
  by_cases hr : m.size * (m.most - m.used) < (byS (mrg (ctsF l))).size
  · rw [if_pos hr] at hee
    rw [grp_err h1 (by rw [hee]; decide), hee] at hG
    simp only [Prod.mk.injEq] at hG
    obtain ⟨rfl, rfl, rfl⟩ := hG
    have hby := byS_300 hw hml
    generalize mrg (ctsF l) = M at hLt hml hm8 hw hr hby
    have hw0 : ¬ wrong o M ≠ 0 := fun h => h hw
    repeat' (first | ((first | refine WLA.m rfl rfl ?_ ?_ | refine WLA.st rfl ?_ ?_ | refine WLA.x rfl rfl ?_ (fun x => ?_) | refine WLA.x0 rfl ?_ (fun x => ?_)); first | exact trivial | exact rfl | assumption | omega | (refine ⟨?_, ?_⟩ <;> omega) | (simp only [Room, lenS]; omega) | decide | skip) | (refine Stp.go ?_) | (guard_target =~ WLA _ _ _ _ _ (⟨_, .call ⟨.value (.func 20), _, _⟩, _, _, _, _⟩ :: _) _ _; refine WLA.call rfl rfl (hLt) ?_; rintro ⟨c, K⟩; dsimp only; refine WLA.pure fun hc => ?_) | (refine WPA.ifT ?_) | (refine WPA.ifF ?_) | ((first | refine WPA.dec ?_); first | refine .inl ⟨by first | assumption | omega | with_reducible rfl | (refine fun h => h ?_; first | assumption | with_reducible rfl) | (simp only [lenS] <;> omega) | decide, ?_⟩ | refine .inr ⟨by first | assumption | omega | with_reducible rfl | (refine fun h => h ?_; first | assumption | with_reducible rfl) | (simp only [lenS] <;> omega) | decide, ?_⟩) | ((first | refine WPA.ifBt ?_ ?_ | refine WPA.ifBnf ?_ ?_); assumption) | ((first | refine WPA.ifBnt ?_ ?_ | refine WPA.ifBf ?_ ?_); assumption) | ((first | refine WPA.ifs ?_ ?_ | refine WPA.ifB ?_ ?_) <;> intro hc))
    obtain ⟨hc1, hc2⟩ := hc
    repeat' (first | ((first | refine WLA.m rfl rfl ?_ ?_ | refine WLA.st rfl ?_ ?_ | refine WLA.x rfl rfl ?_ (fun x => ?_) | refine WLA.x0 rfl ?_ (fun x => ?_)); first | exact trivial | exact rfl | assumption | omega | (refine ⟨?_, ?_⟩ <;> omega) | (simp only [Room, lenS]; omega) | decide | skip) | (refine Stp.go ?_) | (guard_target =~ WLA _ _ _ _ _ (⟨_, .call ⟨.value (.func 10), _, _⟩, _, _, _, _⟩ :: _) _ _; refine WLA.call rfl rfl (Wrong_trI hc2 hm8 (by omega)) ?_; rintro ⟨⟩) | (guard_target =~ WLA _ _ _ _ _ (⟨_, .call ⟨.value (.func 11), _, _⟩, _, _, _, _⟩ :: _) _ _; refine WLA.call rfl rfl (rBytes_trI hc2 hw (by omega)) ?_; rintro ⟨⟩) | (guard_target =~ WLA _ _ _ _ _ (⟨_, .call ⟨.value (.func 41), _, _⟩, _, _, _, _⟩ :: _) _ _; refine WLA.call rfl rfl (rFill_no hI.ok rel hmost (by omega) hr) ?_; rintro ⟨⟩) | (refine WPA.ifT ?_) | (refine WPA.ifF ?_) | ((first | refine WPA.dec ?_); first | refine .inl ⟨by first | assumption | omega | with_reducible rfl | (refine fun h => h ?_; first | assumption | with_reducible rfl) | (simp only [lenS] <;> omega) | decide, ?_⟩ | refine .inr ⟨by first | assumption | omega | with_reducible rfl | (refine fun h => h ?_; first | assumption | with_reducible rfl) | (simp only [lenS] <;> omega) | decide, ?_⟩) | ((first | refine WPA.ifBt ?_ ?_ | refine WPA.ifBnf ?_ ?_); assumption) | ((first | refine WPA.ifBnt ?_ ?_ | refine WPA.ifBf ?_ ?_); assumption) | ((first | refine WPA.ifs ?_ ?_ | refine WPA.ifB ?_ ?_) <;> intro hc))
    exact QQ.endc rfl ((SV.nil, c), K, rs) rfl fun w h => ⟨⟨⟨fun z hz => hc1.out (hJI.out hz)⟩, rel, fun h0 => absurd h0 (by decide)⟩, h.to⟩
  rw [if_neg hr] at hee
  rw [grp_go h1 hee] at hG
  simp only [Prod.mk.injEq] at hG
  obtain ⟨hm', hrr, rfl⟩ := hG
  have F := fill_law hI.ok hr
  have hfs := fun {i : Nat} (hi : i < l.length) => free_step hI F hi
  have hby := byS_300 hw hml
  generalize mrg (ctsF l) = M at hLt hml hm8 hw hr hm' hrr F hfs hby
  have hw0 : ¬ wrong o M ≠ 0 := fun h => h hw
  have hft : ∀ {K : Foot} {L L' : List HP} [FindK L RefR S rs L'], Tr Tryz.prog 41 #[.pointer (some ⟨S, 0, none⟩), .string (byS M)] (SL w0 K L) (fun s : SV × { r' : RS // Rel (fillN (byS M) m [] 0).1 r' } => .tuple #[.slice s.1.a s.1.n s.1.cap, .int .i64 0]) (fun s => SL w0 K (OwnS 3 s.1 (fillN (byS M) m [] 0).2 :: RefR S s.2.1 :: L')) := fun {K L L'} _ => rFill_tr hI.ok rel hmost (by omega) hr
  generalize (fillN (byS M) m [] 0).1 = m1 at hm' F hfs hft
  generalize (fillN (byS M) m [] 0).2 = new at hrr F hfs hft
  subst hrr
  repeat' (first | ((first | refine WLA.m rfl rfl ?_ ?_ | refine WLA.st rfl ?_ ?_ | refine WLA.x rfl rfl ?_ (fun x => ?_) | refine WLA.x0 rfl ?_ (fun x => ?_)); first | exact trivial | exact rfl | assumption | omega | (refine ⟨?_, ?_⟩ <;> omega) | (simp only [Room, lenS]; omega) | decide | skip) | (refine Stp.go ?_) | (guard_target =~ WLA _ _ _ _ _ (⟨_, .call ⟨.value (.func 20), _, _⟩, _, _, _, _⟩ :: _) _ _; refine WLA.call rfl rfl (hLt) ?_; rintro ⟨c, K⟩; dsimp only; refine WLA.pure fun hc => ?_) | (refine WPA.ifT ?_) | (refine WPA.ifF ?_) | ((first | refine WPA.dec ?_); first | refine .inl ⟨by first | assumption | omega | with_reducible rfl | (refine fun h => h ?_; first | assumption | with_reducible rfl) | (simp only [lenS] <;> omega) | decide, ?_⟩ | refine .inr ⟨by first | assumption | omega | with_reducible rfl | (refine fun h => h ?_; first | assumption | with_reducible rfl) | (simp only [lenS] <;> omega) | decide, ?_⟩) | ((first | refine WPA.ifBt ?_ ?_ | refine WPA.ifBnf ?_ ?_); assumption) | ((first | refine WPA.ifBnt ?_ ?_ | refine WPA.ifBf ?_ ?_); assumption) | ((first | refine WPA.ifs ?_ ?_ | refine WPA.ifB ?_ ?_) <;> intro hc))
  obtain ⟨hc1, hc2⟩ := hc
  repeat' (first | ((first | refine WLA.m rfl rfl ?_ ?_ | refine WLA.st rfl ?_ ?_ | refine WLA.x rfl rfl ?_ (fun x => ?_) | refine WLA.x0 rfl ?_ (fun x => ?_)); first | exact trivial | exact rfl | assumption | omega | (refine ⟨?_, ?_⟩ <;> omega) | (simp only [Room, lenS]; omega) | decide | skip) | (refine Stp.go ?_) | (guard_target =~ WLA _ _ _ _ _ (⟨_, .call ⟨.value (.func 10), _, _⟩, _, _, _, _⟩ :: _) _ _; refine WLA.call rfl rfl (Wrong_trI hc2 hm8 (by omega)) ?_; rintro ⟨⟩) | (guard_target =~ WLA _ _ _ _ _ (⟨_, .call ⟨.value (.func 11), _, _⟩, _, _, _, _⟩ :: _) _ _; refine WLA.call rfl rfl (rBytes_trI hc2 hw (by omega)) ?_; rintro ⟨⟩) | (guard_target =~ WLA _ _ _ _ _ (⟨_, .call ⟨.value (.func 41), _, _⟩, _, _, _, _⟩ :: _) _ _; refine WLA.call rfl rfl (hft) ?_; rintro ⟨nb, rs1, rel1⟩; dsimp only) | (refine WPA.ifT ?_) | (refine WPA.ifF ?_) | ((first | refine WPA.dec ?_); first | refine .inl ⟨by first | assumption | omega | with_reducible rfl | (refine fun h => h ?_; first | assumption | with_reducible rfl) | (simp only [lenS] <;> omega) | decide, ?_⟩ | refine .inr ⟨by first | assumption | omega | with_reducible rfl | (refine fun h => h ?_; first | assumption | with_reducible rfl) | (simp only [lenS] <;> omega) | decide, ?_⟩) | ((first | refine WPA.ifBt ?_ ?_ | refine WPA.ifBnf ?_ ?_); assumption) | ((first | refine WPA.ifBnt ?_ ?_ | refine WPA.ifBf ?_ ?_); assumption) | ((first | refine WPA.ifs ?_ ?_ | refine WPA.ifB ?_ ?_) <;> intro hc))
  revert x; intro X
  refine WPA.ent (EntC.out (L' := OwnS 3 nb new :: Bk X 49 [.slice nb.a nb.n nb.cap, .slice c.a c.n c.cap] :: Bk R6 49 [.slice none 0 0, .slice none 0 0] :: RefR S rs1 :: L')) ?_
  refine WPA.freeze fun R2 hF2 => ?_
  have hnb : SlI (R2 ++ K) nb Int inferInstance new := by have := SlI.ofOwn hF2; infer_instance
  have hsubN : SubI (R2 ++ K) J := ⟨fun z hz => List.mem_append_right _ (hc1.out hz)⟩
  have hcN : LstI (R2 ++ K) c M := hc2.sub inferInstance
  have hsN : SlI (R2 ++ K) g RF inferInstance es := hsJ.sub
  have hRN : Rows (RRunI (R2 ++ K)) es l := hRJ.mono fun _ _ k => k.sub hsubN
  have hNI : SubI (R2 ++ K) I := ⟨fun z hz => hsubN.out (hJI.out hz)⟩
  clear hF2 hc1 hc2 hsubN hsJ hRJ
  generalize R2 ++ K = N at hnb hcN hsN hRN hNI
  refine WPA.loopS (σ := GR) (fun y => [(0, .pointer (some ⟨S, 0, none⟩)), (2, .slice g.a g.n g.cap), (6, .pointer (some ⟨R6, 0, none⟩)), (7, .int .i64 0), (10, .pointer (some ⟨X, 0, none⟩)), (14, .int .i64 y.i)])
    (fun y => y.i ≤ l.length ∧ Rel ((idsF (l.take y.i)).foldl BS.free m1) y.rs) (fun y => SL w0 N (Bk X 49 [.slice nb.a nb.n nb.cap, .slice c.a c.n c.cap] :: Bk R6 49 [.slice none 0 0, .slice none 0 0] :: RefR S y.rs :: L')) (fun y => l.length - y.i) ⟨0, rs1⟩ ⟨rfl, rfl, rfl, rfl, rfl, rfl, trivial⟩ ⟨Nat.zero_le _, by rw [List.take_zero]; exact rel1⟩ (fun w h => h.to) ?_
  rintro ⟨i, rs2⟩ ρ ⟨hi, rel2⟩
  dsimp only at hi rel2 ⊢
  by_cases hlt : i < l.length
  · have hlt' : (i : Int) < es.length := by omega
    have hir : (0 : Int) ≤ i ∧ (i : Int) < es.length := by omega
    have hRi := hRN.2 i hlt
    have hln := hI.idl _ (hmem hlt)
    obtain ⟨f1, f2, f3⟩ := hfs hlt
    obtain ⟨q, hq⟩ : ∃ q, at_ es (i : Int) = q := ⟨_, rfl⟩
    rw [hq] at hRi
    obtain ⟨qb, ql⟩ := q
    have hqs : SlI N qb Int inferInstance (l.getD i ([], [])).1 := hRi.1
    generalize (l.getD i ([], [])).1 = ids at f2 f3 hqs hln
    generalize (idsF (l.take i)).foldl BS.free m1 = mi at f1 f2 f3 rel2
    repeat' (first | ((first | refine WLA.m rfl rfl ?_ ?_ | refine WLA.st rfl ?_ ?_ | refine WLA.x rfl rfl ?_ (fun x => ?_) | refine WLA.x0 rfl ?_ (fun x => ?_)); first | exact trivial | exact rfl | assumption | omega | (refine ⟨?_, ?_⟩ <;> omega) | (simp only [Room, lenS]; omega) | decide | skip) | (refine Stp.go ?_) | (refine WPA.ifT ?_) | (refine WPA.ifF ?_) | ((first | refine WPA.dec ?_); first | refine .inl ⟨by first | assumption | omega | with_reducible rfl | (refine fun h => h ?_; first | assumption | with_reducible rfl) | (simp only [lenS] <;> omega) | decide, ?_⟩ | refine .inr ⟨by first | assumption | omega | with_reducible rfl | (refine fun h => h ?_; first | assumption | with_reducible rfl) | (simp only [lenS] <;> omega) | decide, ?_⟩) | ((first | refine WPA.ifBt ?_ ?_ | refine WPA.ifBnf ?_ ?_); assumption) | ((first | refine WPA.ifBnt ?_ ?_ | refine WPA.ifBf ?_ ?_); assumption) | ((first | refine WPA.ifs ?_ ?_ | refine WPA.ifB ?_ ?_) <;> intro hc))
    refine WPA.loopS (σ := GR) (fun y => [(0, .pointer (some ⟨S, 0, none⟩)), (2, .slice g.a g.n g.cap), (6, .pointer (some ⟨R6, 0, none⟩)), (7, .int .i64 0), (10, .pointer (some ⟨X, 0, none⟩)), (14, .int .i64 i), (15, .int .i64 y.i)])
      (fun y => y.i ≤ ids.length ∧ Rel ((ids.take y.i).foldl BS.free mi) y.rs) (fun y => SL w0 N (Bk X 49 [.slice nb.a nb.n nb.cap, .slice c.a c.n c.cap] :: Bk R6 49 [.slice none 0 0, .slice none 0 0] :: RefR S y.rs :: L')) (fun y => ids.length - y.i) ⟨0, rs2⟩ ⟨rfl, rfl, rfl, rfl, rfl, rfl, rfl, trivial⟩ ⟨Nat.zero_le _, by rw [List.take_zero]; exact rel2⟩ (fun w h => h.to) ?_
    rintro ⟨k, rs3⟩ ρ ⟨hk, rel3⟩
    dsimp only at hk rel3 ⊢
    by_cases hkl : k < ids.length
    · have hkl' : (k : Int) < ids.length := by omega
      have hkr : (0 : Int) ≤ k ∧ (k : Int) < ids.length := by omega
      obtain ⟨g1, g2, g3⟩ := free_in f1 f2 hkl
      obtain ⟨id, hid⟩ : ∃ id : Int, at_ ids (k : Int) = id := ⟨_, rfl⟩
      rw [hid] at g2 g3
      generalize (ids.take k).foldl BS.free mi = mk at g1 g2 g3 rel3
      have rel4 := rel3.free (id := id) g1
      rw [show mk.free' id = mk.free id from if_pos g2] at rel4
      repeat' (first | ((rw [hq])) | ((rw [hid])) | ((first | refine WLA.m rfl rfl ?_ ?_ | refine WLA.st rfl ?_ ?_ | refine WLA.x rfl rfl ?_ (fun x => ?_) | refine WLA.x0 rfl ?_ (fun x => ?_)); first | exact trivial | exact rfl | assumption | omega | (refine ⟨?_, ?_⟩ <;> omega) | (simp only [Room, lenS]; omega) | decide | skip) | (refine Stp.go ?_) | (guard_target =~ WLA _ _ _ _ _ (⟨_, .call ⟨.value (.func 73), _, _⟩, _, _, _, _⟩ :: _) _ _; refine WLA.call rfl rfl (rFree_k) ?_; rintro ⟨⟩) | (refine WPA.ifT ?_) | (refine WPA.ifF ?_) | ((first | refine WPA.dec ?_); first | refine .inl ⟨by first | assumption | omega | with_reducible rfl | (refine fun h => h ?_; first | assumption | with_reducible rfl) | (simp only [lenS] <;> omega) | decide, ?_⟩ | refine .inr ⟨by first | assumption | omega | with_reducible rfl | (refine fun h => h ?_; first | assumption | with_reducible rfl) | (simp only [lenS] <;> omega) | decide, ?_⟩) | ((first | refine WPA.ifBt ?_ ?_ | refine WPA.ifBnf ?_ ?_); assumption) | ((first | refine WPA.ifBnt ?_ ?_ | refine WPA.ifBf ?_ ?_); assumption) | ((first | refine WPA.ifs ?_ ?_ | refine WPA.ifB ?_ ?_) <;> intro hc))
      exact QQ.loopS ⟨k + 1, rs3.free' id⟩ ⟨rfl, rfl, rfl, rfl, rfl, rfl, rfl, trivial⟩ ⟨hkl, by rw [g3]; exact rel4⟩ (by dsimp only; omega) (fun w h => h.to)
    · have hkl' : ¬ (k : Int) < ids.length := by omega
      rw [List.take_of_length_le (by omega), ← f3] at rel3
      repeat' (first | ((rw [hq])) | ((first | refine WLA.m rfl rfl ?_ ?_ | refine WLA.st rfl ?_ ?_ | refine WLA.x rfl rfl ?_ (fun x => ?_) | refine WLA.x0 rfl ?_ (fun x => ?_)); first | exact trivial | exact rfl | assumption | omega | (refine ⟨?_, ?_⟩ <;> omega) | (simp only [Room, lenS]; omega) | decide | skip) | (refine Stp.go ?_) | (refine WPA.ifT ?_) | (refine WPA.ifF ?_) | ((first | refine WPA.dec ?_); first | refine .inl ⟨by first | assumption | omega | with_reducible rfl | (refine fun h => h ?_; first | assumption | with_reducible rfl) | (simp only [lenS] <;> omega) | decide, ?_⟩ | refine .inr ⟨by first | assumption | omega | with_reducible rfl | (refine fun h => h ?_; first | assumption | with_reducible rfl) | (simp only [lenS] <;> omega) | decide, ?_⟩) | ((first | refine WPA.ifBt ?_ ?_ | refine WPA.ifBnf ?_ ?_); assumption) | ((first | refine WPA.ifBnt ?_ ?_ | refine WPA.ifBf ?_ ?_); assumption) | ((first | refine WPA.ifs ?_ ?_ | refine WPA.ifB ?_ ?_) <;> intro hc))
      exact QQ.loopS ⟨i + 1, rs3⟩ ⟨rfl, rfl, rfl, rfl, rfl, rfl, trivial⟩ ⟨hlt, rel3⟩ (by dsimp only; omega) (fun w h => h.to)
  · have hlt' : ¬ (i : Int) < es.length := by omega
    rw [List.take_of_length_le (by omega), hm'] at rel2
    repeat' (first | ((first | refine WLA.m rfl rfl ?_ ?_ | refine WLA.st rfl ?_ ?_ | refine WLA.x rfl rfl ?_ (fun x => ?_) | refine WLA.x0 rfl ?_ (fun x => ?_)); first | exact trivial | exact rfl | assumption | omega | (refine ⟨?_, ?_⟩ <;> omega) | (simp only [Room, lenS]; omega) | decide | skip) | (refine Stp.go ?_) | (refine WPA.ifT ?_) | (refine WPA.ifF ?_) | ((first | refine WPA.dec ?_); first | refine .inl ⟨by first | assumption | omega | with_reducible rfl | (refine fun h => h ?_; first | assumption | with_reducible rfl) | (simp only [lenS] <;> omega) | decide, ?_⟩ | refine .inr ⟨by first | assumption | omega | with_reducible rfl | (refine fun h => h ?_; first | assumption | with_reducible rfl) | (simp only [lenS] <;> omega) | decide, ?_⟩) | ((first | refine WPA.ifBt ?_ ?_ | refine WPA.ifBnf ?_ ?_); assumption) | ((first | refine WPA.ifBnt ?_ ?_ | refine WPA.ifBf ?_ ?_); assumption) | ((first | refine WPA.ifs ?_ ?_ | refine WPA.ifB ?_ ?_) <;> intro hc))
    exact QQ.endc rfl ((nb, c), N, rs2) rfl fun w h => ⟨⟨hNI, rel2, fun _ => ⟨hnb, hcN⟩⟩, h.to⟩
end
end Go.Proofs.YtamnobjdgjbmbaaGreat
namespace Go.Proofs.YtamnobjdgjbmbaaGreat
open Go Go.Fw Go.RowKit
set_option linter.unusedVariables false
set_option linter.unusedSimpArgs false
set_option maxRecDepth 100000
set_option maxHeartbeats 16000000
set_option synthInstance.maxHeartbeats 200000
set_option synthInstance.maxSize 100000
attribute [local irreducible] WPA WLA WDA WDQ WDE QQ seqQ blockQ loopQ fnQ OpP OpT Tr TrP SL SLd OwnS LitS Bk BkE Ob
attribute [local irreducible] vS keyS parL RowH CtsH mrg grp
structure RV where
  J : Foot
  s : SV
  es : List RF
  m : BS
  l : List PR
  p : Nat
  rs : RS
structure IV where
  J : Foot
  s : SV
  es : List RF
  l : List PR
  m : BS
  rs : RS
  acc : List PR
  nx : SV
  nes : List RF
def RefRes (J : Foot) (x : RF) (l : List PR) : Prop := (l = [] ∧ x = (SV.nil, SV.nil)) ∨ ∃ r, l = [r] ∧ RRunI J x r
section
variable {L L' : List HP} {w0 : World} {I : Foot} {S : Nat}
theorem rRuns_tr {m m' : BS} {rs : RS} {o e : Int} {f p : Nat} {s : SV} {es : List RF} {l l' : List PR} [h : FindK L RefR S rs L'] (hf : 2 ≤ f ∧ (f : Int) ≤ 9223372036854775807) (hs : SlI I s RF inferInstance es) (hR : Rows (RRunI I) es l) (hI : RInv o m l) (rel : Rel m rs) (hn : l.length ≤ 1000) (hG : runsF o f m l 0 = (m', l', p, e)) :
    Tr Tryz.prog 16 #[.pointer (some ⟨S, 0, none⟩), .int .i64 o, .slice s.a s.n s.cap, .int .i64 f] (SL w0 I L) (fun x : RF × Foot × RS => .tuple #[.agg #[.slice x.1.1.a x.1.1.n x.1.1.cap, .slice x.1.2.a x.1.2.n x.1.2.cap], .int .i64 p, .int .i64 e])
      (fun x w => (SubI x.2.1 I ∧ Rel m' x.2.2 ∧ (e = 0 → RefRes x.2.1 x.1 l')) ∧ SL w0 x.2.1 (RefR S x.2.2 :: L') w) := by
  refine Tr.at h.out ?_
  refine Tr.intro Tryz.func16 rfl Tryz.ntmps16 rfl ?_
  repeat' (first | ((first | refine WLA.m rfl rfl ?_ ?_ | refine WLA.st rfl ?_ ?_ | refine WLA.x rfl rfl ?_ (fun x => ?_) | refine WLA.x0 rfl ?_ (fun x => ?_)); first | exact trivial | exact rfl | assumption | omega | (refine ⟨?_, ?_⟩ <;> omega) | (simp only [Room, lenS]; omega) | decide | skip) | (refine Stp.go ?_) | (refine WPA.ifT ?_) | (refine WPA.ifF ?_) | ((first | refine WPA.dec ?_); first | refine .inl ⟨by first | assumption | omega | with_reducible rfl | (refine fun h => h ?_; first | assumption | with_reducible rfl) | (simp only [lenS] <;> omega) | decide, ?_⟩ | refine .inr ⟨by first | assumption | omega | with_reducible rfl | (refine fun h => h ?_; first | assumption | with_reducible rfl) | (simp only [lenS] <;> omega) | decide, ?_⟩) | ((first | refine WPA.ifBt ?_ ?_ | refine WPA.ifBnf ?_ ?_); assumption) | ((first | refine WPA.ifBnt ?_ ?_ | refine WPA.ifBf ?_ ?_); assumption) | ((first | refine WPA.ifs ?_ ?_ | refine WPA.ifB ?_ ?_) <;> intro hc))
  revert x; intro X8
  refine WPA.loopS (σ := RV) (fun y => [(0, .pointer (some ⟨S, 0, none⟩)), (1, .int .i64 o), (2, .slice y.s.a y.s.n y.s.cap), (3, .int .i64 f), (8, .pointer (some ⟨X8, 0, none⟩)), (9, .int .i64 0), (10, .int .i64 0), (11, .int .i64 y.p)])
    (fun y => (SubI y.J I ∧ SlI y.J y.s RF inferInstance y.es ∧ Rows (RRunI y.J) y.es y.l ∧ RInv o y.m y.l ∧ Rel y.m y.rs) ∧ (y.l.length ≤ 1000 ∧ (y.l = [] → y.p = 0) ∧ y.p + y.l.length ≤ 1000) ∧ runsF o f y.m y.l y.p = (m', l', p, e))
    (fun y => SL w0 y.J (Bk X8 49 [.slice none 0 0, .slice none 0 0] :: RefR S y.rs :: L')) (fun y => y.l.length) ⟨I, s, es, m, l, 0, rs⟩ ⟨rfl, rfl, rfl, rfl, rfl, rfl, rfl, rfl, trivial⟩ ⟨⟨inferInstance, hs, hR, hI, rel⟩, ⟨hn, fun _ => rfl, by dsimp only; omega⟩, hG⟩ (fun w h => h.to) ?_
  clear hs hR hI hn hG rel
  rintro ⟨J, s, es, m, l, p1, rs⟩ ρ ⟨⟨hJ, hs, hR, hI, rel⟩, ⟨hn, hp0, hpl⟩, hG⟩
  dsimp only at hJ hs hR hI rel hn hp0 hG hpl ⊢
  have hel := hR.1
  by_cases hl1 : 1 < l.length
  · have hl1' : (1 : Int) < es.length := by omega
    repeat' (first | ((first | refine WLA.m rfl rfl ?_ ?_ | refine WLA.st rfl ?_ ?_ | refine WLA.x rfl rfl ?_ (fun x => ?_) | refine WLA.x0 rfl ?_ (fun x => ?_)); first | exact trivial | exact rfl | assumption | omega | (refine ⟨?_, ?_⟩ <;> omega) | (simp only [Room, lenS]; omega) | decide | skip) | (refine Stp.go ?_) | (refine WPA.ifT ?_) | (refine WPA.ifF ?_) | ((first | refine WPA.dec ?_); first | refine .inl ⟨by first | assumption | omega | with_reducible rfl | (refine fun h => h ?_; first | assumption | with_reducible rfl) | (simp only [lenS] <;> omega) | decide, ?_⟩ | refine .inr ⟨by first | assumption | omega | with_reducible rfl | (refine fun h => h ?_; first | assumption | with_reducible rfl) | (simp only [lenS] <;> omega) | decide, ?_⟩) | ((first | refine WPA.ifBt ?_ ?_ | refine WPA.ifBnf ?_ ?_); assumption) | ((first | refine WPA.ifBnt ?_ ?_ | refine WPA.ifBf ?_ ?_); assumption) | ((first | refine WPA.ifs ?_ ?_ | refine WPA.ifB ?_ ?_) <;> intro hc))
    refine WPA.loopS (σ := IV) (fun x => [(0, .pointer (some ⟨S, 0, none⟩)), (1, .int .i64 o), (2, .slice x.s.a x.s.n x.s.cap), (3, .int .i64 f), (8, .pointer (some ⟨X8, 0, none⟩)), (9, .int .i64 0), (10, .int .i64 0), (11, .int .i64 p1), (12, .slice x.nx.a x.nx.n x.nx.cap)])
      (fun x => (SubI x.J J ∧ SlI x.J x.s RF inferInstance x.es ∧ Rows (RRunI x.J) x.es x.l ∧ Rows (RRunI x.J) x.nes x.acc ∧ RInv o x.m (x.acc ++ x.l) ∧ Rel x.m x.rs) ∧ (x.acc.length + x.l.length ≤ l.length ∧ (x.l = [] → x.acc ≠ [])) ∧ pass o f x.m x.acc x.l = pass o f m [] l)
      (fun x => SL w0 x.J (OwnS 49 x.nx x.nes :: Bk X8 49 [.slice none 0 0, .slice none 0 0] :: RefR S x.rs :: L')) (fun x => x.l.length) ⟨J, s, es, l, m, rs, [], SV.nil, []⟩ ⟨rfl, rfl, rfl, rfl, rfl, rfl, rfl, rfl, rfl, trivial⟩
      ⟨⟨inferInstance, hs, hR, Rows.nil, hI, rel⟩, ⟨by simp, fun h => by dsimp only at h; rw [h] at hl1; simp at hl1⟩, rfl⟩ (fun w h => by
        have h2 := (Ent.ownNil (α := RF) (t := 49) Ent.refl).sl h
        show SL w0 J (OwnS 49 SV.nil ([] : List RF) :: Bk X8 49 [.slice none 0 0, .slice none 0 0] :: RefR S rs :: L') w
        exact h2.to) ?_
    rintro ⟨K, s2, es2, l2, m1, rs1, acc, nx, nes⟩ ρ ⟨⟨hK, hs2, hR2, hA, hI1, rel1⟩, ⟨hcl, hne⟩, hP⟩
    dsimp only at hK hs2 hR2 hA hI1 rel1 hcl hne hP ⊢
    have hel2 := hR2.1
    have hal := hA.1
    by_cases h20 : l2 = []
    · subst h20
      have hel0 : ¬ (0 : Int) < es2.length := by rw [hel2]; simp
      rw [pass_nil] at hP
      rw [List.append_nil] at hI1
      have hne' := hne rfl
      have hlen := pass_len (o := o) (f := f) (by omega) l.length l rfl m []
      rw [← hP] at hlen
      simp only [List.length_nil] at hlen
      have hgo := runs_go (p := p1) (o := o) (f := f) (m := m) hl1 (by omega) (by rw [← hP])
      rw [hG, ← hP] at hgo
      dsimp only at hgo
      repeat' (first | ((first | refine WLA.m rfl rfl ?_ ?_ | refine WLA.st rfl ?_ ?_ | refine WLA.x rfl rfl ?_ (fun x => ?_) | refine WLA.x0 rfl ?_ (fun x => ?_)); first | exact trivial | exact rfl | assumption | omega | (refine ⟨?_, ?_⟩ <;> omega) | (simp only [Room, lenS]; omega) | decide | skip) | (refine Stp.go ?_) | (refine WPA.ifT ?_) | (refine WPA.ifF ?_) | ((first | refine WPA.dec ?_); first | refine .inl ⟨by first | assumption | omega | with_reducible rfl | (refine fun h => h ?_; first | assumption | with_reducible rfl) | (simp only [lenS] <;> omega) | decide, ?_⟩ | refine .inr ⟨by first | assumption | omega | with_reducible rfl | (refine fun h => h ?_; first | assumption | with_reducible rfl) | (simp only [lenS] <;> omega) | decide, ?_⟩) | ((first | refine WPA.ifBt ?_ ?_ | refine WPA.ifBnf ?_ ?_); assumption) | ((first | refine WPA.ifBnt ?_ ?_ | refine WPA.ifBf ?_ ?_); assumption) | ((first | refine WPA.ifs ?_ ?_ | refine WPA.ifB ?_ ?_) <;> intro hc))
      refine QQ.freeze fun R hF => ?_
      have hsn : SlI (R ++ K) nx RF inferInstance nes := by have := SlI.ofOwn hF; infer_instance
      exact QQ.loopS ⟨R ++ K, nx, nes, m1, acc, p1 + 1, rs1⟩ ⟨rfl, rfl, rfl, rfl, rfl, rfl, rfl, rfl, trivial⟩ ⟨⟨⟨fun z hz => List.mem_append_right _ (hK.out (hJ.out hz))⟩, hsn, hA.mono fun _ _ k => k.sub inferInstance, hI1, rel1⟩, ⟨by dsimp only; omega, fun h => absurd h hne', by dsimp only; omega⟩, hgo.symm⟩ (by dsimp only; omega) (fun w h => h.to)
    · have hpos := List.length_pos_iff.2 h20
      have hel0 : (0 : Int) < es2.length := by omega
      obtain ⟨n, hn1, hn2, hnt, hnd, hmin⟩ : ∃ n : Nat, 1 ≤ n ∧ n ≤ l2.length ∧ l2.take n = l2.take f ∧ l2.drop n = l2.drop f ∧ min (f : Int) (es2.length : Int) = (n : Int) := by
        by_cases hfl : f ≤ l2.length
        · exact ⟨f, by omega, hfl, rfl, rfl, Int.min_eq_left (by omega)⟩
        · exact ⟨l2.length, by omega, Nat.le_refl _, by rw [List.take_length, List.take_of_length_le (by omega)], by rw [List.drop_length, List.drop_of_length_le (by omega)], by rw [Int.min_eq_right (by omega), hel2]⟩
      have hnr : (0 : Int) ≤ 0 ∧ (0 : Int) ≤ n := by omega
      have hnr2 : (n : Int) ≤ es2.length := by omega
      have hnr3 : (0 : Int) ≤ n ∧ (n : Int) ≤ es2.length := by omega
      have hnr4 : (es2.length : Int) ≤ es2.length := by omega
      have hsg : SlI K (s2.cut 2 0 (n : Int)) RF inferInstance (es2.take n) := by rw [← cutL_pre (by omega)]; infer_instance
      have hI2 : RInv o m1 (acc ++ (l2.take n ++ l2.drop n)) := by rw [List.take_append_drop]; exact hI1
      have htl : l2.take n ≠ [] := fun h => by have := congrArg List.length h; rw [List.length_take, List.length_nil] at this; omega
      have hgl : (l2.take n).length ≤ 1000 := by rw [List.length_take]; omega
      obtain ⟨m2, r, e2, hgr⟩ : ∃ m2 r e2, grp o m1 (l2.take n) = (m2, r, e2) := ⟨_, _, _, rfl⟩
      have hgt := fun {L L' : List HP} [FindK L RefR S rs1 L'] => rGroup_tr (L := L) (L' := L') (w0 := w0) (S := S) hsg (hR2.take n) hI2 rel1 htl hgl hgr
      by_cases he2 : e2 = 0
      · subst he2
        have hz : (grp o m1 (l2.take n)).2.2 = 0 := by rw [hgr]
        have hnl := (grp_law hI2 hz).1
        have hgo := pass_go (acc := acc) (f := f) h20 (by omega) (by rw [← hnt]; exact hz)
        rw [← hnt, ← hnd, hgr, hP] at hgo
        rw [hgr] at hnl
        dsimp only at hnl hgo
        rw [← List.append_assoc] at hnl
        have hroom : Room (nes.length + 1) 48 := ⟨by omega, by omega⟩
        repeat' (first | ((rw [hmin])) | ((first | refine WLA.m rfl rfl ?_ ?_ | refine WLA.st rfl ?_ ?_ | refine WLA.x rfl rfl ?_ (fun x => ?_) | refine WLA.x0 rfl ?_ (fun x => ?_)); first | exact trivial | exact rfl | assumption | omega | (refine ⟨?_, ?_⟩ <;> omega) | (simp only [Room, lenS]; omega) | decide | skip) | (refine Stp.go ?_) | (guard_target =~ WLA _ _ _ _ _ (⟨_, .call ⟨.value (.func 47), _, _⟩, _, _, _, _⟩ :: _) _ _; refine WLA.call rfl rfl (hgt) ?_; rintro ⟨q, J2, rs2⟩; dsimp only; refine WLA.pure fun hq => ?_; have hs22 : SlI J2 s2 RF inferInstance es2 := hs2.sub (hs := hq.1)) | (refine WPA.ifT ?_) | (refine WPA.ifF ?_) | ((first | refine WPA.dec ?_); first | refine .inl ⟨by first | assumption | omega | with_reducible rfl | (refine fun h => h ?_; first | assumption | with_reducible rfl) | (simp only [lenS] <;> omega) | decide, ?_⟩ | refine .inr ⟨by first | assumption | omega | with_reducible rfl | (refine fun h => h ?_; first | assumption | with_reducible rfl) | (simp only [lenS] <;> omega) | decide, ?_⟩) | ((first | refine WPA.ifBt ?_ ?_ | refine WPA.ifBnf ?_ ?_); assumption) | ((first | refine WPA.ifBnt ?_ ?_ | refine WPA.ifBf ?_ ?_); assumption) | ((first | refine WPA.ifs ?_ ?_ | refine WPA.ifB ?_ ?_) <;> intro hc))
        have hqr := hq.2.2 rfl
        have hq1 := hq.1
        obtain ⟨qb, ql⟩ := q
        have hs3 : SlI J2 (s2.cut 2 (n : Int) (es2.length : Int)) RF inferInstance (es2.drop n) := by
          rw [← cutL_post (by omega)]; infer_instance
        refine QQ.loopS ⟨J2, s2.cut 2 (n : Int) (es2.length : Int), es2.drop n, l2.drop n, m2, rs2, acc ++ [r], x, nes ++ [(qb, ql)]⟩ ⟨rfl, rfl, rfl, rfl, rfl, rfl, rfl, rfl, rfl, trivial⟩
          ⟨⟨⟨fun z hz => hq1.out (hK.out hz)⟩, hs3, (hR2.mono fun _ _ k => k.sub hq1).drop n, (hA.mono fun _ _ k => k.sub hq1).snoc hqr, hnl, hq.2.1⟩, ⟨by dsimp only; rw [List.length_append, List.length_drop, List.length_singleton]; omega, fun _ => by dsimp only; simp⟩, hgo.symm⟩ (by dsimp only; rw [List.length_drop]; omega) (fun w h => h.to)
      · have hz : (grp o m1 (l2.take n)).2.2 ≠ 0 := by rw [hgr]; exact he2
        have hbad := pass_err (acc := acc) (f := f) h20 (by omega) (by rw [← hnt]; exact hz)
        rw [← hnt, hgr, hP] at hbad
        dsimp only at hbad
        have hb2 := runs_err (p := p1) (o := o) (f := f) (m := m) hl1 (by omega) (by rw [hbad]; exact he2)
        rw [hG, hbad] at hb2
        simp only [Prod.mk.injEq] at hb2
        obtain ⟨rfl, rfl, rfl, rfl⟩ := hb2
        repeat' (first | ((rw [hmin])) | ((first | refine WLA.m rfl rfl ?_ ?_ | refine WLA.st rfl ?_ ?_ | refine WLA.x rfl rfl ?_ (fun x => ?_) | refine WLA.x0 rfl ?_ (fun x => ?_)); first | exact trivial | exact rfl | assumption | omega | (refine ⟨?_, ?_⟩ <;> omega) | (simp only [Room, lenS]; omega) | decide | skip) | (refine Stp.go ?_) | (guard_target =~ WLA _ _ _ _ _ (⟨_, .call ⟨.value (.func 47), _, _⟩, _, _, _, _⟩ :: _) _ _; refine WLA.call rfl rfl (hgt) ?_; rintro ⟨q, J2, rs2⟩; dsimp only; refine WLA.pure fun hq => ?_) | (refine WPA.ifT ?_) | (refine WPA.ifF ?_) | ((first | refine WPA.dec ?_); first | refine .inl ⟨by first | assumption | omega | with_reducible rfl | (refine fun h => h ?_; first | assumption | with_reducible rfl) | (simp only [lenS] <;> omega) | decide, ?_⟩ | refine .inr ⟨by first | assumption | omega | with_reducible rfl | (refine fun h => h ?_; first | assumption | with_reducible rfl) | (simp only [lenS] <;> omega) | decide, ?_⟩) | ((first | refine WPA.ifBt ?_ ?_ | refine WPA.ifBnf ?_ ?_); assumption) | ((first | refine WPA.ifBnt ?_ ?_ | refine WPA.ifBf ?_ ?_); assumption) | ((first | refine WPA.ifs ?_ ?_ | refine WPA.ifB ?_ ?_) <;> intro hc))
        exact QQ.endc rfl ((SV.nil, SV.nil), J2, rs2) rfl fun w h => ⟨⟨⟨fun z hz => hq.1.out (hK.out (hJ.out hz))⟩, hq.2.1, fun h0 => absurd h0 he2⟩, h.to⟩
  · have hl1' : ¬ (1 : Int) < es.length := by omega
    rw [runs_end hl1] at hG
    simp only [Prod.mk.injEq] at hG
    obtain ⟨rfl, rfl, rfl, rfl⟩ := hG
    by_cases h0 : l = []
    · have hp00 := hp0 h0
      subst hp00
      have he0 : (es.length : Int) = 0 := by rw [hel, h0]; rfl
      repeat' (first | ((first | refine WLA.m rfl rfl ?_ ?_ | refine WLA.st rfl ?_ ?_ | refine WLA.x rfl rfl ?_ (fun x => ?_) | refine WLA.x0 rfl ?_ (fun x => ?_)); first | exact trivial | exact rfl | assumption | omega | (refine ⟨?_, ?_⟩ <;> omega) | (simp only [Room, lenS]; omega) | decide | skip) | (refine Stp.go ?_) | (refine WPA.ifT ?_) | (refine WPA.ifF ?_) | ((first | refine WPA.dec ?_); first | refine .inl ⟨by first | assumption | omega | with_reducible rfl | (refine fun h => h ?_; first | assumption | with_reducible rfl) | (simp only [lenS] <;> omega) | decide, ?_⟩ | refine .inr ⟨by first | assumption | omega | with_reducible rfl | (refine fun h => h ?_; first | assumption | with_reducible rfl) | (simp only [lenS] <;> omega) | decide, ?_⟩) | ((first | refine WPA.ifBt ?_ ?_ | refine WPA.ifBnf ?_ ?_); assumption) | ((first | refine WPA.ifBnt ?_ ?_ | refine WPA.ifBf ?_ ?_); assumption) | ((first | refine WPA.ifs ?_ ?_ | refine WPA.ifB ?_ ?_) <;> intro hc))
      exact QQ.endc rfl ((SV.nil, SV.nil), J, rs) rfl fun w h => ⟨⟨hJ, rel, fun _ => .inl ⟨h0, rfl⟩⟩, h.to⟩
    · have he0 : ¬ (es.length : Int) = 0 := by have := List.length_pos_iff.2 h0; omega
      have hlp := List.length_pos_iff.2 h0
      obtain ⟨r, hr⟩ := List.length_eq_one_iff.1 (show l.length = 1 by omega)
      have hir : (0 : Int) ≤ 0 ∧ (0 : Int) < es.length := by omega
      have hR0 : RRunI J (at_ es 0) (l.getD 0 ([], [])) := hR.2 0 (by omega)
      obtain ⟨q, hq⟩ : ∃ q, at_ es 0 = q := ⟨_, rfl⟩
      rw [hq, hr] at hR0
      repeat' (first | ((rw [hq])) | ((first | refine WLA.m rfl rfl ?_ ?_ | refine WLA.st rfl ?_ ?_ | refine WLA.x rfl rfl ?_ (fun x => ?_) | refine WLA.x0 rfl ?_ (fun x => ?_)); first | exact trivial | exact rfl | assumption | omega | (refine ⟨?_, ?_⟩ <;> omega) | (simp only [Room, lenS]; omega) | decide | skip) | (refine Stp.go ?_) | (refine WPA.ifT ?_) | (refine WPA.ifF ?_) | ((first | refine WPA.dec ?_); first | refine .inl ⟨by first | assumption | omega | with_reducible rfl | (refine fun h => h ?_; first | assumption | with_reducible rfl) | (simp only [lenS] <;> omega) | decide, ?_⟩ | refine .inr ⟨by first | assumption | omega | with_reducible rfl | (refine fun h => h ?_; first | assumption | with_reducible rfl) | (simp only [lenS] <;> omega) | decide, ?_⟩) | ((first | refine WPA.ifBt ?_ ?_ | refine WPA.ifBnf ?_ ?_); assumption) | ((first | refine WPA.ifBnt ?_ ?_ | refine WPA.ifBf ?_ ?_); assumption) | ((first | refine WPA.ifs ?_ ?_ | refine WPA.ifB ?_ ?_) <;> intro hc))
      exact QQ.endc rfl (q, J, rs) rfl fun w h => ⟨⟨hJ, rel, fun _ => .inr ⟨r, hr, hR0⟩⟩, h.to⟩
end
end Go.Proofs.YtamnobjdgjbmbaaGreat
namespace Go.Proofs.YtamnobjdgjbmbaaGreat
open Go Go.Fw Go.RowKit
set_option linter.unusedVariables false
set_option linter.unusedSimpArgs false
set_option maxRecDepth 100000
set_option maxHeartbeats 16000000
set_option synthInstance.maxHeartbeats 200000
set_option synthInstance.maxSize 100000
attribute [local irreducible] WPA WLA WDA WDQ WDE QQ seqQ blockQ loopQ fnQ OpP OpT Tr TrP SL SLd OwnS LitS Bk BkE Ob
attribute [local irreducible] RowH
theorem live_tr21 (w0 : World) (I : Foot) (L : List HP) : Tr Tryz.prog 9 #[] (SL w0 I L) (fun _ : Unit => .bool true) (fun _ => SL w0 I L) := by
  refine Tr.intro Tryz.func9 rfl Tryz.ntmps9 rfl ?_
  repeat' ((fail_if_success (guard_target =~ WPA _ _ _ (.region 3 _ _) _ _ _)); first | (guard_target =~ WLA _ _ _ _ _ (⟨_, .build _ _, _, _, _, _⟩ :: _) _ _; refine WLA.freeze fun R hR => ?_; have hs := SlI.ofLit hR; clear hR; refine WLA.m rfl rfl trivial ?_) | ((first | refine WLA.m rfl rfl ?_ ?_ | refine WLA.st rfl ?_ ?_ | refine WLA.x rfl rfl ?_ (fun x => ?_) | refine WLA.x0 rfl ?_ (fun x => ?_)); first | exact trivial | exact rfl | assumption | omega | (refine ⟨?_, ?_⟩ <;> omega) | (simp only [Room, lenS]; omega) | decide | skip) | (refine Stp.go ?_) | (refine WPA.ifT ?_) | (refine WPA.ifF ?_) | ((first | refine WPA.dec ?_); first | refine .inl ⟨by first | assumption | omega | with_reducible rfl | (refine fun h => h ?_; first | assumption | with_reducible rfl) | (simp only [lenS] <;> omega) | decide, ?_⟩ | refine .inr ⟨by first | assumption | omega | with_reducible rfl | (refine fun h => h ?_; first | assumption | with_reducible rfl) | (simp only [lenS] <;> omega) | decide, ?_⟩) | ((first | refine WPA.ifBt ?_ ?_ | refine WPA.ifBnf ?_ ?_); assumption) | ((first | refine WPA.ifBnt ?_ ?_ | refine WPA.ifBf ?_ ?_); assumption) | ((first | refine WPA.ifs ?_ ?_ | refine WPA.ifB ?_ ?_) <;> intro hc))
  rename_i g1 R1 k1 g3 R2 k3 sa g5 R3 k5 g2
  refine WPA.freeze fun RB hB => ?_
  have gB := SlI.ofLit hB
  refine WPA.freeze fun RA hA => ?_
  have gA := SlI.ofLit hA
  have hsub : SubI (RA ++ (RB ++ (R ++ (R3 ++ (R2 ++ (R1 ++ I)))))) I := inferInstance
  have j1 : SlI (RA ++ (RB ++ (R ++ (R3 ++ (R2 ++ (R1 ++ I)))))) g1 Int inferInstance [1] := inferInstance
  have j3 : SlI (RA ++ (RB ++ (R ++ (R3 ++ (R2 ++ (R1 ++ I)))))) g3 Int inferInstance [3] := inferInstance
  have j5 : SlI (RA ++ (RB ++ (R ++ (R3 ++ (R2 ++ (R1 ++ I)))))) g5 Int inferInstance [1] := inferInstance
  have j2 : SlI (RA ++ (RB ++ (R ++ (R3 ++ (R2 ++ (R1 ++ I)))))) g2 Int inferInstance [2] := inferInstance
  have ja : SlI (RA ++ (RB ++ (R ++ (R3 ++ (R2 ++ (R1 ++ I)))))) sa (SV × Int) inferInstance [(g1, 2), (g3, 1)] := inferInstance
  have jb : SlI (RA ++ (RB ++ (R ++ (R3 ++ (R2 ++ (R1 ++ I)))))) x (SV × Int) inferInstance [(g5, 5), (g2, 1)] := inferInstance
  generalize RA ++ (RB ++ (R ++ (R3 ++ (R2 ++ (R1 ++ I))))) = J at hsub j1 j3 j5 j2 ja jb
  refine WPA.rd j1 fun e1 => WPA.rd j3 fun e3 => WPA.rd j5 fun e5 => WPA.rd j2 fun e2 => WPA.rd ja fun ea => WPA.rd jb fun eb => ?_
  have hG : ∀ h ∈ [sa, x], GoodL J (rd Int J) (rd (SV × Int) J) h := by
    intro h hm
    simp only [List.mem_cons, List.not_mem_nil, or_false] at hm
    rcases hm with rfl | rfl
    · refine goodL_rd ja ea (fun p hp => ?_) ?_
      · simp only [List.mem_cons, List.not_mem_nil, or_false] at hp
        rcases hp with rfl | rfl
        · dsimp only; rw [e1]; exact ⟨j1, by decide⟩
        · dsimp only; rw [e3]; exact ⟨j3, by decide⟩
      · unfold Ris; simp only [List.pairwise_cons, List.mem_cons, List.not_mem_nil, or_false, forall_eq, e1, e3]; simp [ltL, cmpL]
    · refine goodL_rd jb eb (fun p hp => ?_) ?_
      · simp only [List.mem_cons, List.not_mem_nil, or_false] at hp
        rcases hp with rfl | rfl
        · dsimp only; rw [e5]; exact ⟨j5, by decide⟩
        · dsimp only; rw [e2]; exact ⟨j2, by decide⟩
      · unfold Ris; simp only [List.pairwise_cons, List.mem_cons, List.not_mem_nil, or_false, forall_eq, e5, e2]; simp [ltL, cmpL]
  have hrem : remL (rd Int J) (rd (SV × Int) J) ([sa, x].map fun h => (h, 0)) = [([1], 2), ([3], 1), ([1], 5), ([2], 1)] := by simp [remL, remC, moP, ea, eb, e1, e3, e5, e2]
  have hL : ∀ {s : SV} {L : List HP} [RdS J L s SV inferInstance [sa, x]], Tr Tryz.prog 36 #[.slice s.a s.n s.cap] (SL w0 J L) (fun x : SV × List (SV × Int) => .slice x.1.a x.1.n x.1.cap)
      (fun x w => x.2.map Prod.snd = ([([1], 7), ([2], 1), ([3], 1)] : List Ct).map Prod.snd ∧ SL w0 J (OwnS 84 x.1 x.2 :: RowH 3 (x.2.map Prod.fst) (([([1], 7), ([2], 1), ([3], 1)] : List Ct).map Prod.fst) :: L) w) := by
    intro s L _
    have := Lists_tr (s := s) (L := L) (w0 := w0) hG (by rw [hrem]; simp)
    rw [hrem, show ([([1], 2), ([3], 1), ([1], 5), ([2], 1)] : List Ct).foldl putM [] = [([1], 7), ([2], 1), ([3], 1)] from by decide +kernel] at this
    exact this
  have p1 : passes 2 5 = 3 := by rw [passes, dif_pos (by decide), show cd 5 2 = 3 from by decide, passes, dif_pos (by decide), show cd 3 2 = 2 from by decide, passes, dif_pos (by decide), show cd 2 2 = 1 from by decide, passes, dif_neg (by decide)]; rfl
  have p2 : passes 3 9 = 2 := by rw [passes, dif_pos (by decide), show cd 9 3 = 3 from by decide, passes, dif_pos (by decide), show cd 3 3 = 1 from by decide, passes, dif_neg (by decide)]; rfl
  have q1 : passes 2 5 = 3 := p1
  repeat' (first | ((first | refine WLA.m rfl rfl ?_ ?_ | refine WLA.st rfl ?_ ?_ | refine WLA.x rfl rfl ?_ (fun x => ?_) | refine WLA.x0 rfl ?_ (fun x => ?_)); first | exact trivial | exact rfl | assumption | omega | (refine ⟨?_, ?_⟩ <;> omega) | (simp only [Room, lenS]; omega) | decide | skip) | (refine Stp.go ?_) | (guard_target =~ WLA _ _ _ _ _ (⟨_, .call ⟨.value (.func 36), _, _⟩, _, _, _, _⟩ :: _) _ _; refine WLA.call rfl rfl (hL) ?_; rintro ⟨r, cs⟩; refine WLA.pure fun hcs => ?_; dsimp only at hcs ⊢; refine WLA.ent Ent.swap ?_; refine WLA.freeze fun R hR => ?_) | (guard_target =~ WLA _ _ _ _ _ (⟨_, .call ⟨.value (.func 37), _, _⟩, _, _, _, _⟩ :: _) _ _; refine WLA.cq rfl rfl (Passes_tr (by decide)) ?_) | (guard_target =~ WLA _ _ _ _ _ (⟨_, .call ⟨.value (.func 19), _, _⟩, _, _, _, _⟩ :: _) _ _; refine WLA.cq rfl rfl (Same_trC hcs (row_at hR hcs) (by decide) (by decide)) ?_) | (refine WPA.ifT ?_) | (refine WPA.ifF ?_) | (refine WLA.no rfl rfl ?_) | ((first | refine WPA.dec ?_ | ((fail_if_success (guard_target =~ WLA _ _ _ _ _ _ (put1 _ _ (.bool true)) _)); (fail_if_success (guard_target =~ WLA _ _ _ _ _ _ (put1 _ _ (.bool false)) _)); refine WLA.dec rfl rfl ?_) | refine WLA.pk ?_); first | refine .inl ⟨by first | assumption | omega | with_reducible rfl | (refine fun h => h ?_; first | assumption | with_reducible rfl) | (simp only [lenS] <;> omega) | decide, ?_⟩ | refine .inr ⟨by first | assumption | omega | with_reducible rfl | (refine fun h => h ?_; first | assumption | with_reducible rfl) | (simp only [lenS] <;> omega) | decide, ?_⟩) | ((first | refine WPA.ifBt ?_ ?_ | refine WPA.ifBnf ?_ ?_); assumption) | ((first | refine WPA.ifBnt ?_ ?_ | refine WPA.ifBf ?_ ?_); assumption) | ((first | refine WPA.ifs ?_ ?_ | refine WPA.ifB ?_ ?_) <;> intro hc) | ((fail_if_success (guard_target =~ WLA _ _ _ _ _ _ (put1 _ _ (.bool true)) _)); (fail_if_success (guard_target =~ WLA _ _ _ _ _ _ (put1 _ _ (.bool false)) _)); (first | refine WLA.both rfl rfl ?_ ?_ | refine WLA.bothB rfl rfl ?_ ?_) <;> intro hg))
  exact QQ.end_ rfl () (congrArg Value.bool (by decide)) fun w h => (h.unI.sub hsub.out).to
end Go.Proofs.YtamnobjdgjbmbaaGreat
namespace Go.Proofs.YtamnobjdgjbmbaaGreat
open Go Go.Fw Go.RowKit
set_option linter.unusedVariables false
set_option linter.unusedSimpArgs false
set_option maxRecDepth 100000
set_option maxHeartbeats 16000000
set_option synthInstance.maxHeartbeats 200000
set_option synthInstance.maxSize 100000
attribute [local irreducible] WPA WLA WDA WDQ WDE QQ seqQ blockQ loopQ fnQ OpP OpT Tr TrP SL SLd OwnS LitS Bk BkE Ob
attribute [local irreducible] vS keyS parL RowH CtsH mrg
def blkN (z : Int) (n : Nat) : Int := (n + z - 1) / z
def blkS (z : Int) (ls : List (List Ct)) : Int := (ls.map fun ms => blkN z (byS ms).size).sum
theorem blkN_le {z : Int} {n : Nat} (hz : 1 ≤ z) : 0 ≤ blkN z n ∧ blkN z n ≤ n ∧ (n : Int) ≤ z * blkN z n := by
  unfold blkN
  have h1 := Int.mul_ediv_add_emod (n + z - 1) z
  have h2 := Int.emod_lt_of_pos (n + z - 1 : Int) (by omega : 0 < z)
  have h3 := Int.emod_nonneg (n + z - 1 : Int) (by omega : z ≠ 0)
  generalize (n + z - 1 : Int) / z = q at h1
  generalize (n + z - 1 : Int) % z = r at h1 h2 h3
  have hq0 : 0 ≤ q := by
    by_cases h : q < 0
    · have : z * q ≤ z * (-1) := Int.mul_le_mul_of_nonneg_left (by omega) (by omega)
      omega
    · omega
  refine ⟨hq0, ?_, by omega⟩
  by_cases h : (n : Int) < q
  · have h4 : z * (n + 1) ≤ z * q := Int.mul_le_mul_of_nonneg_left (by omega) (by omega)
    rw [Int.mul_add, Int.mul_one] at h4
    have h5 : 1 * (n : Int) ≤ z * n := Int.mul_le_mul_of_nonneg_right hz (by omega)
    omega
  · omega
theorem blkN_eq {z c : Int} {n : Nat} (hz : 1 ≤ z) (h1 : c * z < n + z) (h2 : (n : Int) ≤ c * z) : c = blkN z n := by
  unfold blkN
  have e : (n + z - 1 : Int) = (n + z - 1 - z * c) + z * c := by omega
  rw [e, Int.add_mul_ediv_left _ _ (by omega : z ≠ 0), Int.ediv_eq_zero_of_lt]
  · omega
  · rw [Int.mul_comm]; omega
  · rw [Int.mul_comm]; omega
theorem blkS_snoc (z : Int) (ls : List (List Ct)) (ms : List Ct) : blkS z (ls ++ [ms]) = blkS z ls + blkN z (byS ms).size := by
  unfold blkS; rw [List.map_append, List.sum_append]; simp
theorem blkS_nonneg {z : Int} (hz : 1 ≤ z) : ∀ ls : List (List Ct), 0 ≤ blkS z ls
  | [] => Int.le_refl 0
  | ms :: ls => by
    have h1 := blkS_nonneg hz ls
    have h2 := (blkN_le (n := (byS ms).size) hz).1
    have : blkS z (ms :: ls) = blkN z (byS ms).size + blkS z ls := rfl
    omega
theorem blkS_take {z : Int} (hz : 1 ≤ z) {ls : List (List Ct)} {i : Nat} (hi : i < ls.length) : blkS z (ls.take i) + blkN z (byS (ls.getD i [])).size ≤ blkS z ls := by
  have e : ls = (ls.take i ++ [ls.getD i []]) ++ ls.drop (i + 1) := by
    rw [List.append_assoc, List.singleton_append, List.getD_eq_getElem?_getD, List.getElem?_eq_getElem hi, Option.getD_some, List.getElem_cons_drop, List.take_append_drop]
  have h1 := blkS_nonneg hz (ls.drop (i + 1))
  have h2 : blkS z ls = blkS z (ls.take i ++ [ls.getD i []]) + blkS z (ls.drop (i + 1)) := by
    conv => lhs; rw [e]
    unfold blkS; rw [List.map_append, List.sum_append]
  rw [blkS_snoc] at h2
  omega
theorem flat_pre_len {ls : List (List Ct)} {i : Nat} (hi : i < ls.length) : (ls.take i).flatten.length + (ls.getD i []).length ≤ ls.flatten.length := by
  have e : ls = (ls.take i ++ [ls.getD i []]) ++ ls.drop (i + 1) := by
    rw [List.append_assoc, List.singleton_append, List.getD_eq_getElem?_getD, List.getElem?_eq_getElem hi, Option.getD_some, List.getElem_cons_drop, List.take_append_drop]
  conv => rhs; rw [e]
  simp
structure LW where
  i : Nat
  J : Foot
  m : BS
  rs : RS
  out : SV
  oes : List RE
  want : SV
  wes : List RF
  lp : List PR
structure LaidP (I : Foot) (o z M : Int) (ls : List (List Ct)) (y : LW) : Prop where
  sub : SubI y.J I
  p : Rows (PRunI y.J o) y.oes y.lp
  r : Rows (RRunI y.J) y.wes y.lp
  inv : RInv o y.m y.lp
  rel : Rel y.m y.rs
  snd : y.lp.map Prod.snd = ls
  used : y.m.used = blkS z ls
  nums : y.m.size = z ∧ y.m.most = M
section
variable {L L1 L2 : List HP} {w0 : World} {I : Foot} {S X : Nat}
theorem laid_tr {o z M : Int} {s : SV} {hs : List SV} {ls : List (List Ct)} [h1 : FindK L StoreR S (BS.mk z M [] [] 0 0 0) L1] [h2 : FindK L1 RefR X (RS.mk z M [] [] 0) L2] (hsl : SlI I s SV inferInstance hs) (hls : LsI I hs ls) (hz : 1 ≤ z ∧ z ≤ 65536) (hM : 1 ≤ M ∧ M ≤ 1048576) (hB : blkS z ls ≤ M)
    (hw : ∀ ms ∈ ls, wrong o ms = 0 ∧ Ris id ms) (hn : ls.length ≤ 1000) (hf : ls.flatten.length ≤ 300) :
    Tr Tryz.prog 13 #[.pointer (some ⟨S, 0, none⟩), .pointer (some ⟨X, 0, none⟩), .int .i64 o, .slice s.a s.n s.cap] (SL w0 I L) (fun y : LW => .tuple #[.slice y.out.a y.out.n y.out.cap, .slice y.want.a y.want.n y.want.cap, .bool true])
      (fun y w => LaidP I o z M ls y ∧ SL w0 y.J (OwnS 44 y.out y.oes :: OwnS 49 y.want y.wes :: StoreR S y.m :: RefR X y.rs :: L2) w) := by
  refine Tr.at (h1.out.trans (Ent.cons h2.out)) ?_
  refine Tr.intro Tryz.func13 rfl Tryz.ntmps13 rfl ?_
  have hll := hls.1
  repeat' (first | ((first | refine WLA.m rfl rfl ?_ ?_ | refine WLA.st rfl ?_ ?_ | refine WLA.x rfl rfl ?_ (fun x => ?_) | refine WLA.x0 rfl ?_ (fun x => ?_)); first | exact trivial | exact rfl | assumption | omega | (refine ⟨?_, ?_⟩ <;> omega) | (simp only [Room, lenS]; omega) | decide | skip) | (refine Stp.go ?_) | (refine WPA.ifT ?_) | (refine WPA.ifF ?_) | ((first | refine WPA.dec ?_); first | refine .inl ⟨by first | assumption | omega | with_reducible rfl | (refine fun h => h ?_; first | assumption | with_reducible rfl) | (simp only [lenS] <;> omega) | decide, ?_⟩ | refine .inr ⟨by first | assumption | omega | with_reducible rfl | (refine fun h => h ?_; first | assumption | with_reducible rfl) | (simp only [lenS] <;> omega) | decide, ?_⟩) | ((first | refine WPA.ifBt ?_ ?_ | refine WPA.ifBnf ?_ ?_); assumption) | ((first | refine WPA.ifBnt ?_ ?_ | refine WPA.ifBf ?_ ?_); assumption) | ((first | refine WPA.ifs ?_ ?_ | refine WPA.ifB ?_ ?_) <;> intro hc))
  refine WPA.loopS (σ := LW) (fun y => [(0, .pointer (some ⟨S, 0, none⟩)), (1, .pointer (some ⟨X, 0, none⟩)), (2, .int .i64 o), (3, .slice s.a s.n s.cap), (11, .slice y.out.a y.out.n y.out.cap), (12, .slice y.want.a y.want.n y.want.cap), (13, .int .i64 y.i)])
    (fun y => y.i ≤ ls.length ∧ LaidP I o z M (ls.take y.i) y) (fun y => SL w0 y.J (OwnS 44 y.out y.oes :: OwnS 49 y.want y.wes :: StoreR S y.m :: RefR X y.rs :: L2)) (fun y => ls.length - y.i) ⟨0, I, BS.mk z M [] [] 0 0 0, RS.mk z M [] [] 0, SV.nil, [], SV.nil, [], []⟩ ⟨rfl, rfl, rfl, rfl, rfl, rfl, rfl, trivial⟩
    ⟨Nat.zero_le _, inferInstance, Rows.nil, Rows.nil, ⟨BS.Ok.new hz hM, TxB.new, rfl, fun i hi => absurd hi List.not_mem_nil, List.nodup_nil, fun r hr => absurd hr List.not_mem_nil, fun r hr => absurd hr List.not_mem_nil, fun r hr => absurd hr List.not_mem_nil, Nat.zero_le _, fun r hr => absurd hr List.not_mem_nil⟩, ⟨rfl, rfl, rfl, rfl, rfl, fun i hi => by simp at hi⟩, by rw [List.take_zero]; rfl, by rw [List.take_zero]; rfl, rfl, rfl⟩ (fun w h => by
      have h3 := (Ent.ownNil (α := RE) (t := 44) (Ent.ownNil (α := RF) (t := 49) Ent.refl)).sl h
      show SL w0 I (OwnS 44 SV.nil ([] : List RE) :: OwnS 49 SV.nil ([] : List RF) :: StoreR S (BS.mk z M [] [] 0 0 0) :: RefR X (RS.mk z M [] [] 0) :: L2) w
      exact h3.to) ?_
  rintro ⟨i, J, m, rs, out, oes, want, wes, lp⟩ ρ ⟨hi, hP⟩
  obtain ⟨hJ, hp, hr, hI, rel, hsnd, hus, hzz, hmm⟩ := hP
  dsimp only at hi hJ hp hr hI rel hsnd hus hzz hmm ⊢
  have hpl := hp.1
  have hrl := hr.1
  have hlp : lp.length = i := by have := congrArg List.length hsnd; rw [List.length_map, List.length_take] at this; omega
  have hsJ : SlI J s SV inferInstance hs := hsl.sub
  by_cases hlt : i < ls.length
  · have hlt' : (i : Int) < hs.length := by omega
    have hir : (0 : Int) ≤ i ∧ (i : Int) < hs.length := by omega
    have hv := (hls.2 i hlt).sub hJ
    have hwi : wrong o (ls.getD i []) = 0 ∧ Ris id (ls.getD i []) := by
      rw [List.getD_eq_getElem?_getD, List.getElem?_eq_getElem hlt]; exact hw _ (List.getElem_mem _)
    have hbt := blkS_take (z := z) hz.1 hlt
    have hfp := flat_pre_len hlt
    have htk : ls.take (i + 1) = ls.take i ++ [ls.getD i []] := by rw [List.take_add_one, List.getElem?_eq_getElem hlt, List.getD_eq_getElem?_getD, List.getElem?_eq_getElem hlt]; rfl
    have hcf : (ctsF lp).length = (ls.take i).flatten.length := by rw [ctsF, List.flatMap_def, hsnd]
    have hsk := blkS_snoc z (ls.take i) (ls.getD i [])
    obtain ⟨v, hvq⟩ : ∃ v, at_ hs (i : Int) = v := ⟨_, rfl⟩
    rw [hvq] at hv
    generalize ls.getD i [] = ms at hv hwi hbt hfp htk hsk
    have hml : ms.length ≤ 300 := by omega
    have hm8 : ∀ m ∈ ms, m.1.length ≤ 1000 := fun x hx => by have := wrong_len8 hwi.1 x hx; omega
    have hby := byS_300 hwi.1 hml
    have hbl := blkN_le (z := z) (n := (byS ms).size) hz.1
    have hroom : ¬ m.size * (m.most - m.used) < (byS ms).size := by
      rw [hzz, hmm, hus]
      have h3 : z * blkN z (byS ms).size ≤ z * (M - blkS z (ls.take i)) := Int.mul_le_mul_of_nonneg_left (by omega) (by omega)
      omega
    have F := fill_law hI.ok hroom
    have hnew := put_law (a := lp) (g := []) (b := []) (M := ms) (by simpa using hI) hwi.1 hwi.2 (by show (ctsF lp).length + (ms.length + 0) ≤ 300; omega) hroom
    have hnew2 : RInv o (fillN (byS ms) m [] 0).1 (lp ++ [((fillN (byS ms) m [] 0).2, ms)]) := by simpa using hnew
    have he := errW_ok (m := m) hwi.1
    rw [if_neg hroom] at he
    have hft : ∀ {K : Foot} {L L' : List HP} [FindK L RefR X rs L'], Tr Tryz.prog 41 #[.pointer (some ⟨X, 0, none⟩), .string (byS ms)] (SL w0 K L) (fun s : SV × { r' : RS // Rel (fillN (byS ms) m [] 0).1 r' } => .tuple #[.slice s.1.a s.1.n s.1.cap, .int .i64 0]) (fun s => SL w0 K (OwnS 3 s.1 (fillN (byS ms) m [] 0).2 :: RefR X s.2.1 :: L')) := fun {K L L'} _ => rFill_tr hI.ok rel hI.ok.most.2 (by omega) hroom
    have hx : WrX o ms m 0 o ms.length (fillN (byS ms) m [] 0).1 (fillN (byS ms) m [] 0).2 := .inr ⟨rfl, rfl, rfl, rfl, rfl⟩
    clear hnew
    generalize (fillN (byS ms) m [] 0).1 = m1 at F hnew2 hft hx
    generalize (fillN (byS ms) m [] 0).2 = ids at F hnew2 hft hx
    have hidl := hnew2.idl (ids, ms) (List.mem_append_right _ (List.mem_singleton.2 rfl))
    dsimp only at hidl
    have hnum := F.num
    rw [hzz] at hnum
    have hcnt := blkN_eq hz.1 hnum.1 hnum.2
    have hid : decide (ids = ids) = true := decide_eq_true rfl
    have hbt2 : (!true) = false := rfl
    have hroom1 : Room (oes.length + 1) 40 := ⟨by omega, by omega⟩
    have hroom2 : Room (wes.length + 1) 48 := ⟨by omega, by omega⟩
    repeat' (first | ((rw [hvq])) | ((rw [hid])) | ((rw [hbt2])) | ((first | refine WLA.m rfl rfl ?_ ?_ | refine WLA.st rfl ?_ ?_ | refine WLA.x rfl rfl ?_ (fun x => ?_) | refine WLA.x0 rfl ?_ (fun x => ?_)); first | exact trivial | exact rfl | assumption | omega | (refine ⟨?_, ?_⟩ <;> omega) | (simp only [Room, lenS]; omega) | decide | skip) | (refine Stp.go ?_) | (guard_target =~ WLA _ _ _ _ _ (⟨_, .call ⟨.value (.func 22), _, _⟩, _, _, _, _⟩ :: _) _ _; refine WLA.call rfl rfl (runWrite_trI hI.ok hv hm8 (by omega) he.symm hx) ?_; rintro nr) | (guard_target =~ WLA _ _ _ _ _ (⟨_, .call ⟨.value (.func 11), _, _⟩, _, _, _, _⟩ :: _) _ _; refine WLA.call rfl rfl (rBytes_trI hv hwi.1 (by omega)) ?_; rintro ⟨⟩) | (guard_target =~ WLA _ _ _ _ _ (⟨_, .call ⟨.value (.func 41), _, _⟩, _, _, _, _⟩ :: _) _ _; refine WLA.call rfl rfl (hft) ?_; rintro ⟨nb, rs1, rel1⟩; dsimp only) | (guard_target =~ WLA _ _ _ _ _ (⟨_, .call ⟨.value (.func 21), _, _⟩, _, _, _, _⟩ :: _) _ _; refine WLA.cq rfl rfl (Ints_tr (by omega)) ?_) | (refine WPA.ifT ?_) | (refine WPA.ifF ?_) | (refine WLA.no rfl rfl ?_) | ((first | refine WPA.dec ?_ | ((fail_if_success (guard_target =~ WLA _ _ _ _ _ _ (put1 _ _ (.bool true)) _)); (fail_if_success (guard_target =~ WLA _ _ _ _ _ _ (put1 _ _ (.bool false)) _)); refine WLA.dec rfl rfl ?_) | refine WLA.pk ?_); first | refine .inl ⟨by first | assumption | omega | with_reducible rfl | (refine fun h => h ?_; first | assumption | with_reducible rfl) | (simp only [lenS] <;> omega) | decide, ?_⟩ | refine .inr ⟨by first | assumption | omega | with_reducible rfl | (refine fun h => h ?_; first | assumption | with_reducible rfl) | (simp only [lenS] <;> omega) | decide, ?_⟩) | ((first | refine WPA.ifBt ?_ ?_ | refine WPA.ifBnf ?_ ?_); assumption) | ((first | refine WPA.ifBnt ?_ ?_ | refine WPA.ifBf ?_ ?_); assumption) | ((first | refine WPA.ifs ?_ ?_ | refine WPA.ifB ?_ ?_) <;> intro hc) | ((fail_if_success (guard_target =~ WLA _ _ _ _ _ _ (put1 _ _ (.bool true)) _)); (fail_if_success (guard_target =~ WLA _ _ _ _ _ _ (put1 _ _ (.bool false)) _)); (first | refine WLA.both rfl rfl ?_ ?_ | refine WLA.bothB rfl rfl ?_ ?_) <;> intro hg))
    rename_i k3 k0 k2
    revert x; intro want2
    refine QQ.ent (EntC.out (L' := OwnS 3 nr ids :: OwnS 3 nb ids :: OwnS 44 k0 (oes ++ [(o, (ms.length : Int), nr)]) :: OwnS 49 want2 (wes ++ [(nb, v)]) :: StoreR S m1 :: RefR X rs1 :: L2)) ?_
    refine QQ.freeze fun R1 hF1 => ?_
    refine QQ.freeze fun R2 hF2 => ?_
    have s1 : SlI (R2 ++ (R1 ++ J)) nr Int inferInstance ids := by have := SlI.ofOwn hF1; infer_instance
    have s2 : SlI (R2 ++ (R1 ++ J)) nb Int inferInstance ids := by have := SlI.ofOwn hF2; infer_instance
    refine QQ.loopS ⟨i + 1, R2 ++ (R1 ++ J), m1, rs1, k0, oes ++ [(o, (ms.length : Int), nr)], want2, wes ++ [(nb, v)], lp ++ [(ids, ms)]⟩ ⟨rfl, rfl, rfl, rfl, rfl, rfl, rfl, trivial⟩ ⟨hlt, ⟨fun z hz => List.mem_append_right _ (List.mem_append_right _ (hJ.out hz))⟩, (hp.mono fun _ _ k => k.sub inferInstance).snoc ⟨⟨rfl, rfl⟩, s1⟩, (hr.mono fun _ _ k => k.sub inferInstance).snoc ⟨s2, hv.sub inferInstance⟩, hnew2, rel1, ?_, ?_, ?_, ?_⟩ (by dsimp only; omega) (fun w h => h.to)
    · dsimp only; rw [List.map_append, hsnd, htk]; rfl
    · dsimp only; rw [F.used, hus, htk, hsk, ← hcnt]
    · dsimp only; rw [F.sz.1, hzz]
    · dsimp only; rw [F.sz.2, hmm]
  · have hlt' : ¬ (i : Int) < hs.length := by omega
    rw [List.take_of_length_le (by omega)] at hsnd hus
    repeat' (first | ((first | refine WLA.m rfl rfl ?_ ?_ | refine WLA.st rfl ?_ ?_ | refine WLA.x rfl rfl ?_ (fun x => ?_) | refine WLA.x0 rfl ?_ (fun x => ?_)); first | exact trivial | exact rfl | assumption | omega | (refine ⟨?_, ?_⟩ <;> omega) | (simp only [Room, lenS]; omega) | decide | skip) | (refine Stp.go ?_) | (refine WPA.ifT ?_) | (refine WPA.ifF ?_) | ((first | refine WPA.dec ?_); first | refine .inl ⟨by first | assumption | omega | with_reducible rfl | (refine fun h => h ?_; first | assumption | with_reducible rfl) | (simp only [lenS] <;> omega) | decide, ?_⟩ | refine .inr ⟨by first | assumption | omega | with_reducible rfl | (refine fun h => h ?_; first | assumption | with_reducible rfl) | (simp only [lenS] <;> omega) | decide, ?_⟩) | ((first | refine WPA.ifBt ?_ ?_ | refine WPA.ifBnf ?_ ?_); assumption) | ((first | refine WPA.ifBnt ?_ ?_ | refine WPA.ifBf ?_ ?_); assumption) | ((first | refine WPA.ifs ?_ ?_ | refine WPA.ifB ?_ ?_) <;> intro hc))
    exact QQ.end_ rfl ⟨i, J, m, rs, out, oes, want, wes, lp⟩ rfl fun w h => ⟨⟨hJ, hp, hr, hI, rel, hsnd, hus, hzz, hmm⟩, h.to⟩
end
end Go.Proofs.YtamnobjdgjbmbaaGreat
namespace Go.Fw
open Go Go.RowKit
set_option linter.unusedVariables false
set_option linter.unusedSimpArgs false
class NatI (i : Int) (k : outParam Nat) : Prop where
  out : i = k
instance : NatI 0 0 := ⟨rfl⟩
instance : NatI 1 1 := ⟨rfl⟩
instance : NatI 2 2 := ⟨rfl⟩
instance : NatI 3 3 := ⟨rfl⟩
instance : NatI 4 4 := ⟨rfl⟩
instance {P : Program} {ρ : Env} {A : World → Prop} {ty : TypeId} {x y : Operand} {t e : TypeId} {n : Nat} {kd : IntKind} {b o : Nat} {i : Int} {k : Nat} {z : List Value} {bytes : Nat} [h1 : Ev ρ x (.pointer (some ⟨b, o, none⟩))] [h2 : Ev ρ y (.int kd i)] [hk : NatI i k] [ht : Und P t (.array n e)] [hz : Inf P e z 1 bytes] [hn : NatLe (k + 1) n] :
    OpM P ρ A (.indexAddr t x y) ty (.pointer (some ⟨b, o + k, none⟩)) True := ⟨fun _ d pos af g w _ => by
  obtain ⟨inf, hinf, hz'⟩ := Option.map_eq_some_iff.1 hz.size
  have hi := hk.out
  have hl := hn.out
  have ea : (⟨b, o, none⟩ : Addr).add k = ⟨b, o + k, none⟩ := by
    unfold Addr.add; split
    · rename_i h; simp [h]
    · rfl
  subst hi
  have h0 : (0 : Int) ≤ (k : Int) := by omega
  have h3 : (k : Int) < (n : Int) := by omega
  simp [execOp, Instr.indexAt, Instr.sureAddr, asIntOf, h1.out, h2.out, run_underlying ht.out, h0, h3, Go.sizeOf, typeInfo, hinf, hz', ea, go_sem]
  intro h; omega⟩
instance {P : Program} {t e : TypeId} [ht : Und P t (.array 3 e)] [he : Und P e (.int .i64)] {z : List Value} {bytes : Nat} [hz : Inf P e z 1 bytes] {zt : List Value} {bt : Nat} [hzt : Inf P t zt 3 bt] : OpenT P t (Int × Int × Int) inferInstance (gPair gInt (gPair gInt gInt)) := ⟨fun {H enc w base spare held fuel cs x} h hw => by
  obtain ⟨xs, m, _, _, hl, hxl, hf⟩ := DataW.trod_array ht.out h
  have hc : P.cellsOf e = 1 := by obtain ⟨i, h1, h2⟩ := Option.map_eq_some_iff.1 hz.size; simp [Program.cellsOf, h1, h2]
  have hct : P.cellsOf t = 3 := by obtain ⟨i, h1, h2⟩ := Option.map_eq_some_iff.1 hzt.size; simp [Program.cellsOf, h1, h2]
  rw [hct] at hl
  match cs, hl with
  | [a, b, c], _ =>
    have one : ∀ i (hi : i < 3) v, ([a, b, c].drop i).take 1 = [v] → ∃ y : Int, v = .int .i64 y ∧ gInt w y := by
      intro i hi v hv
      have h1 := hf i hi
      rw [hc, Nat.mul_one, hv, List.getElem?_eq_getElem (by omega)] at h1
      obtain ⟨n, h2, _, h4⟩ := DataW.trod_int he.out h1
      injection h2 with h2 _
      refine ⟨n, h2, ?_⟩
      simp [Lit.wf, IntKind.min, IntKind.max, IntKind.bits, IntKind.signed] at h4
      unfold gInt; omega
    obtain ⟨x, rfl, gx⟩ := one 0 (by omega) a rfl
    obtain ⟨y, rfl, gy⟩ := one 1 (by omega) b rfl
    obtain ⟨z, rfl, gz⟩ := one 2 (by omega) c rfl
    exact ⟨(x, y, z), rfl, gx, gy, gz⟩⟩
instance {P : Program} {t e : TypeId} {n : Nat} {α : Type} {en : Enc α} {good : World → α → Prop} [ht : Und P t (.array n e)] [h : OpenT P t α en good] : OpenP P t α (fun x => .agg (Enc.cells x).toArray) good := ⟨fun {H enc w base spare held v d p} hv hd hw => by
  obtain ⟨y, hy, hg⟩ := h.use hd hw
  refine ⟨y, ?_, hg⟩
  unfold Value.okWide at hv
  rw [ht.out] at hv
  obtain ⟨cs, rfl, _⟩ := hv
  rw [hy]; rfl⟩
end Go.Fw
