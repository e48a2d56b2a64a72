/- Texts that TallyStats_law leans on, part 18. Conditions: none. -/
import Derived.Test.YtamnobjdgjbmbaaGreatQs17
namespace Go.Proofs.YtamnobjdgjbmbaaGreat
open Go Go.Fw Go.RowKit
set_option linter.unusedVariables false
set_option linter.unusedSimpArgs false
set_option maxRecDepth 100000
set_option maxHeartbeats 16000000
set_option synthInstance.maxHeartbeats 200000
set_option synthInstance.maxSize 100000
attribute [local irreducible] WPA WLA WDA WDQ WDE QQ seqQ blockQ loopQ fnQ OpP OpT Tr TrP SL SLd OwnS LitS Bk BkE Ob
attribute [local irreducible] vS keyS parL RowH CtsH mrg grp RunsH CntH MarksH Fr
section
variable {L L' L1 L2 : List HP} {w0 : World} {I : Foot}
structure CS where
  k : Nat
  m : BS
  lp : List PR
  held : List (List Int)
abbrev st0 (z : Int) : BS := BS.mk z 1048576 [] [] 0 0 0
def cntC (o z : Int) (B : Nat) (all : List (List Int)) : BS × List PR := chF o B (st0 z) [] all
def cntR (o z : Int) (B f : Nat) (all : List (List Int)) : BS × List PR × Nat × Int := runsF o f (cntC o z B all).1 (cntC o z B all).2 0
theorem fin_p {K : Foot} {o : Int} {x : RE} {m' : BS} {l' : List PR} (ho : 1 ≤ o ∧ o ≤ 8) (h1 : RunRes K o x l') (hI : RInv o m' l') :
    ∃ (ids : List Int) (ms : List Ct), ((x.1 = o ∧ x.2.1 = (ms.length : Nat)) ∧ SlI K x.2.2 Int inferInstance ids) ∧ (txtN m' ids ids.length = some (byS ms) ∧ readS o ms.length (byS ms) = some ms) ∧ mrg (ctsF l') = ms ∧ ids.length ≤ 1000000 ∧ ms.length ≤ 300 := by
  rcases h1 with ⟨rfl, rfl⟩ | ⟨r, rfl, h1⟩
  · have hw : wrong o [] = 0 := by unfold wrong; rw [if_neg (by omega)]; rfl
    exact ⟨[], [], ⟨⟨rfl, rfl⟩, SlI.nil⟩, ⟨rfl, readS_back hw⟩, mrg_self List.Pairwise.nil, Nat.zero_le _, Nat.zero_le _⟩
  · have hm : r ∈ [r] := List.mem_singleton.2 rfl
    refine ⟨r.1, r.2, ⟨h1.1, h1.2⟩, ⟨hI.text hm, hI.back hm⟩, ?_, hI.idl r hm, hI.le hm⟩
    show mrg ([r].flatMap Prod.snd) = r.2
    rw [List.flatMap_singleton]; exact mrg_self (hI.ris r hm)
theorem Runs_trS {S : Nat} {m m' : BS} {o : Int} {f p : Nat} {s : SV} {es : List RE} {l l' : List PR} [h : FindK L StoreR S m L'] (ho : 1 ≤ o ∧ o ≤ 8) (hf : 2 ≤ f ∧ (f : Int) ≤ 9223372036854775807) (hs : SlI I s RE inferInstance es) (hR : Rows (PRunI I o) es l) (hI : RInv o m l) (hn : l.length ≤ 1000) (hG : runsF o f m l 0 = (m', l', p, 0)) :
    Tr Tryz.prog 14 #[.pointer (some ⟨S, 0, none⟩), .int .i64 o, .slice s.a s.n s.cap, .int .i64 f] (SL w0 I L) (fun x : { x : RE × Foot // RunRes (x.2 ++ I) o x.1 l' } => .tuple #[.agg #[.int .i64 x.1.1.1, .int .i64 x.1.1.2.1, .slice x.1.1.2.2.a x.1.1.2.2.n x.1.1.2.2.cap], .int .i64 p, .int .i64 0])
      (fun x => SL w0 (x.1.2 ++ I) (StoreR S m' :: L')) :=
  (Runs_tr ho hf hs hR hI hn hG).conv (fun _ h => h) fun x w h => ⟨⟨x, by
    rcases h.1.2.1 rfl with h1 | ⟨r, h1, h2⟩
    · exact .inl h1
    · exact .inr ⟨r, h1, h2.sub inferInstance⟩⟩, rfl, h.2.sub fun z hz => (List.mem_append.1 hz).elim id fun hz => h.1.1.out hz⟩
theorem TInv.zero {o z : Int} (hz : 1 ≤ z ∧ z ≤ 65536) : TInv o z (st0 z) [] := ⟨⟨BS.Ok.new hz (by decide), TxB.new, rfl, fun i hi => absurd hi List.not_mem_nil, List.nodup_nil, fun r hr => absurd hr List.not_mem_nil, fun r hr => absurd hr List.not_mem_nil, fun r hr => absurd hr List.not_mem_nil, Nat.zero_le _, fun r hr => absurd hr List.not_mem_nil⟩, fun x hx => absurd hx List.not_mem_nil, by show (0 : Int) ≤ 300; decide, fun r hr => absurd hr List.not_mem_nil, rfl, rfl⟩
theorem Count_tr {s : SV} {hs : List SV} {gs : List (List Int)} {o z : Int} {B f : Nat} [hsl : SlI I s SV inferInstance hs] (hg : GsI I hs gs) (hc : CfOk B z f) (ho : 1 ≤ o ∧ o ≤ 8) (hn : hs.length ≤ 1000) (hl : ∀ g ∈ gs, g.length ≤ 1000) (hall : (eachL gs o).length ≤ 300) :
    Tr Tryz.prog 25 #[.slice s.a s.n s.cap, .int .i64 o, .agg #[.int .i64 B, .int .i64 z, .int .i64 f]] (SL w0 I L)
      (fun x : SV ⊕ Unit => match x with | .inl y => .tuple #[.slice y.a y.n y.cap, .agg #[.int .i64 (eachL gs o).length, .int .i64 (cntC o z B (eachL gs o)).2.length, .int .i64 (cntR o z B f (eachL gs o)).2.2.1, .int .i64 (cntR o z B f (eachL gs o)).1.peak], .int .i64 0] | .inr _ => .tuple #[.slice none 0 0, .agg #[.int .i64 0, .int .i64 0, .int .i64 0, .int .i64 0], .int .i64 8])
      (fun x w => match x with | .inl y => GoodG o (eachL gs o) ∧ SL w0 I (CtsH y (mrg ((eachL gs o).map one)) :: L) w | .inr _ => ¬ GoodG o (eachL gs o) ∧ SL w0 I L w) := by
  refine Tr.intro Tryz.func25 rfl Tryz.ntmps25 rfl ?_
  have hd : decide (CfOk B z f) = true := decide_eq_true hc
  have hbt : (!true) = false := rfl
  have hc2 := hc
  unfold CfOk at hc2
  have hl2 : ∀ g ∈ gs, g.length ≤ 1000000 := fun x hx => by have := hl x hx; omega
  have hlen : ∀ g ∈ eachL gs o, (g.length : Int) = o := fun g hg => by
    unfold eachL at hg
    obtain ⟨p, hp, hg⟩ := List.mem_flatMap.1 hg
    unfold gramsL at hg
    obtain ⟨i, hi, rfl⟩ := List.mem_map.1 hg
    have := gramA_len (p := p) (n := o) (i := i) (by simpa using hi)
    omega
  generalize hal : eachL gs o = all at hall hlen
  repeat' (first | ((rw [hd])) | ((rw [hbt])) | ((first | refine WLA.m rfl rfl ?_ ?_ | refine WLA.st rfl ?_ ?_ | refine WLA.x rfl rfl ?_ (fun x => ?_) | refine WLA.x0 rfl ?_ (fun x => ?_)); first | exact trivial | exact rfl | assumption | omega | (refine ⟨?_, ?_⟩ <;> omega) | (simp only [Room, lenS]; omega) | decide | skip) | (refine Stp.go ?_) | (guard_target =~ WLA _ _ _ _ _ (⟨_, .call ⟨.value (.func 26), _, _⟩, _, _, _, _⟩ :: _) _ _; refine WLA.call rfl rfl (Right_tr) ?_; rintro ⟨⟩) | (guard_target =~ WLA _ _ _ _ _ (⟨_, .call ⟨.value (.func 12), _, _⟩, _, _, _, _⟩ :: _) _ _; refine WLA.call rfl rfl (New_tr _ _ _ (by omega) (by decide)) ?_; rintro S) | (guard_target =~ WLA _ _ _ _ _ (⟨_, .call ⟨.value (.func 59), _, _⟩, _, _, _, _⟩ :: _) _ _; refine WLA.call rfl rfl (Each_tr hg hn hl2) ?_; rintro ⟨⟨b, R⟩, hE⟩; dsimp only at hE ⊢) | (refine WPA.ifT ?_) | (refine WPA.ifF ?_) | (refine WLA.no rfl rfl ?_) | ((first | refine WPA.dec ?_ | ((fail_if_success (guard_target =~ WLA _ _ _ _ _ _ (put1 _ _ (.bool true)) _)); (fail_if_success (guard_target =~ WLA _ _ _ _ _ _ (put1 _ _ (.bool false)) _)); refine WLA.dec rfl rfl ?_) | refine WLA.pk ?_); first | refine .inl ⟨by first | assumption | omega | with_reducible rfl | (refine fun h => h ?_; first | assumption | with_reducible rfl) | (simp only [lenS] <;> omega) | decide, ?_⟩ | refine .inr ⟨by first | assumption | omega | with_reducible rfl | (refine fun h => h ?_; first | assumption | with_reducible rfl) | (simp only [lenS] <;> omega) | decide, ?_⟩) | ((first | refine WPA.ifBt ?_ ?_ | refine WPA.ifBnf ?_ ?_); assumption) | ((first | refine WPA.ifBnt ?_ ?_ | refine WPA.ifBf ?_ ?_); assumption) | ((first | refine WPA.ifs ?_ ?_ | refine WPA.ifB ?_ ?_) <;> intro hc) | ((fail_if_success (guard_target =~ WLA _ _ _ _ _ _ (put1 _ _ (.bool true)) _)); (fail_if_success (guard_target =~ WLA _ _ _ _ _ _ (put1 _ _ (.bool false)) _)); (first | refine WLA.both rfl rfl ?_ ?_ | refine WLA.bothB rfl rfl ?_ ?_) <;> intro hg))
  have hE2 : EaI (R ++ I) b gs o := by
    obtain ⟨own, fs, h1, h2, h3, h4⟩ := hE
    exact ⟨own, fs, InI.sub h1, h2.sub, h3, fun k hk => (h4 k hk).sub⟩
  clear hE
  rename_i X5 X6 X7 X8 K
  revert x; intro X11
  refine WPA.freezeBk (b := X11) ?_
  haveI hI11 : InI (BkI X11 125 [.pointer (some ⟨K, 0, none⟩)] ++ (R ++ I)) X11 125 [.pointer (some ⟨K, 0, none⟩)] := inferInstance
  have hVI : SubI (BkI X11 125 [.pointer (some ⟨K, 0, none⟩)] ++ (R ++ I)) I := inferInstance
  have hE3 : EaI (BkI X11 125 [.pointer (some ⟨K, 0, none⟩)] ++ (R ++ I)) b gs o := by
    obtain ⟨own, fs, h1, h2, h3, h4⟩ := hE2
    exact ⟨own, fs, InI.sub h1, h2.sub, h3, fun k hk => (h4 k hk).sub⟩
  clear hE2
  generalize BkI X11 125 [.pointer (some ⟨K, 0, none⟩)] ++ (R ++ I) = V at hI11 hVI hE3
  have hB1 : 1 ≤ B := by omega
  refine WPA.rangeS fun D rc hrc => ?_
  let Lm : CS → List HP := fun x => Ob D (.deferred (some [])) :: CntH K (S, o, x.held, x.lp, (x.k : Int)) :: StoreR S x.m :: Bk X5 63 [.int .i64 B, .int .i64 z, .int .i64 f] :: Bk X6 27 [.slice none 0 0] :: Bk X7 66 [.int .i64 0, .int .i64 0, .int .i64 0, .int .i64 0] :: Bk X8 30 [.int .i64 0] :: L
  let Le : List HP := Ob D (.deferred (some [])) :: Bk X6 27 [.slice SV.nil.a SV.nil.n SV.nil.cap] :: Bk X7 66 [.int .i64 0, .int .i64 0, .int .i64 0, .int .i64 0] :: Bk X8 30 [.int .i64 8] :: L
  let C : CS → Prop := fun x => (x.k ≤ all.length ∧ x.held.length < B ∧ x.lp.length ≤ x.k ∧ x.held.length ≤ x.k) ∧ (TInv o z x.m x.lp ∧ totN (ctsF x.lp) + x.held.length = x.k) ∧ (∀ g ∈ x.held, g ∈ all) ∧ (∀ g ∈ all.take x.k, okKey g ∨ g ∈ x.held) ∧ chF o B x.m x.lp (x.held ++ all.drop x.k) = chF o B (st0 z) [] all
  refine ⟨{ x : CS // C x ∧ x.k = all.length } ⊕ { _u : Unit // ¬ GoodG o all }, fun _ => .tuple #[], fun y => match y with | .inl _ => .ready | .inr _ => .done, fun y => match y with | .inl _ => none | .inr _ => some .ret, fun y => match y with | .inl x => Lm x.1 | .inr _ => Le, ?_, ?_⟩
  · refine (Each1_tr (w0 := w0) (I := V) (n := o) (ω := { _u : Unit // ¬ GoodG o all }) (fun x => Ob (D + 1) (rc .ready none) :: Lm x) (fun x => x.k) C (fun _ => Ob (D + 1) (rc .done (some .ret)) :: Le) hE3 hl2 (by omega) (by have := hg.1; omega) ?_ ⟨0, st0 z, [], []⟩ ⟨⟨Nat.zero_le _, by show 0 < B; omega, Nat.le_refl _, Nat.le_refl _⟩, ⟨TInv.zero (by omega), rfl⟩, fun g hg => absurd hg List.not_mem_nil, fun g hg => absurd hg List.not_mem_nil, rfl⟩ rfl).conv (fun w h => ?_) ?_
    · rintro p y ⟨k, m, lp, held⟩ ⟨⟨c1, c2, c3, c4⟩, ⟨cT, c5⟩, c6, c7, c8⟩ hlt
      dsimp only at c1 c2 c3 c4 cT c5 c6 c7 c8 hlt ⊢
      rw [hal] at hlt ⊢
      have hmg : all.getD k [] ∈ all := by rw [List.getD_eq_getElem?_getD, List.getElem?_eq_getElem hlt]; exact List.getElem_mem _
      have hgl := hlen _ hmg
      have hdr : all.drop k = all.getD k [] :: all.drop (k + 1) := by rw [List.getD_eq_getElem?_getD, List.getElem?_eq_getElem hlt]; exact List.drop_eq_getElem_cons hlt
      have htk : all.take (k + 1) = all.take k ++ [all.getD k []] := by rw [List.take_add_one, List.getElem?_eq_getElem hlt, List.getD_eq_getElem?_getD, List.getElem?_eq_getElem hlt]; rfl
      generalize all.getD k [] = g at hmg hgl hdr htk
      have c6' : ∀ u ∈ held ++ [g], u ∈ all := fun u hu => by
        rcases List.mem_append.1 hu with hu | hu
        · exact c6 u hu
        · rw [List.mem_singleton.1 hu]; exact hmg
      have c6o : ∀ u ∈ held ++ [g], (u.length : Int) = o := fun u hu => hlen u (c6' u hu)
      have c7' : ∀ u ∈ all.take (k + 1), okKey u ∨ u ∈ held ++ [g] := fun u hu => by
        rw [htk] at hu
        rcases List.mem_append.1 hu with hu | hu
        · exact (c7 u hu).imp id fun h => List.mem_append_left _ h
        · exact .inr (List.mem_append_right _ hu)
      have c8' : chF o B m lp ((held ++ [g]) ++ all.drop (k + 1)) = chF o B (st0 z) [] all := by rw [← c8, hdr, List.append_assoc]; rfl
      refine (YTr.ofS (val := fun y : CS ⊕ { _u : Unit // ¬ GoodG o all } => y.isLeft) hrc (agreeP rfl) rfl ?_)
      dsimp only [Lm]
      repeat' (first | ((first | refine WLA.m rfl rfl ?_ ?_ | refine WLA.st rfl ?_ ?_ | refine WLA.x rfl rfl ?_ (fun x => ?_) | refine WLA.x0 rfl ?_ (fun x => ?_)); first | exact trivial | exact rfl | assumption | omega | (refine ⟨?_, ?_⟩ <;> omega) | (simp only [Room, lenS]; omega) | decide | skip) | (refine Stp.go ?_) | (refine WPA.ifT ?_) | (refine WPA.ifF ?_) | ((first | refine WPA.dec ?_); first | refine .inl ⟨by first | assumption | omega | with_reducible rfl | (refine fun h => h ?_; first | assumption | with_reducible rfl) | (simp only [lenS] <;> omega) | decide, ?_⟩ | refine .inr ⟨by first | assumption | omega | with_reducible rfl | (refine fun h => h ?_; first | assumption | with_reducible rfl) | (simp only [lenS] <;> omega) | decide, ?_⟩) | ((first | refine WPA.ifBt ?_ ?_ | refine WPA.ifBnf ?_ ?_); assumption) | ((first | refine WPA.ifBnt ?_ ?_ | refine WPA.ifBf ?_ ?_); assumption) | ((first | refine WPA.ifs ?_ ?_ | refine WPA.ifB ?_ ?_) <;> intro hc))
      refine QQ.midS ?_
      refine WPA.ent (EntC.out (L' := CntH K (S, o, held, lp, (k : Int)) :: OwnS 3 y g :: Fr () p :: Ob (D + 1) (rc .busy none) :: Ob D (.deferred (some [])) :: StoreR S m :: Bk X5 63 [.int .i64 B, .int .i64 z, .int .i64 f] :: Bk X6 27 [.slice none 0 0] :: Bk X7 66 [.int .i64 0, .int .i64 0, .int .i64 0, .int .i64 0] :: Bk X8 30 [.int .i64 0] :: L)) ?_
      refine WPA.opn ?_
      rintro ⟨hh, r⟩
      dsimp only
      refine WPA.ent (EntC.out (L' := CtsH hh (held.map one) :: OwnS 3 y g :: Bk K 127 [.pointer (some ⟨S, 0, none⟩), .int .i64 o, .slice hh.a hh.n hh.cap, .slice r.a r.n r.cap, .int .i64 k] :: RunsH o r lp :: Fr () p :: Ob (D + 1) (rc .busy none) :: Ob D (.deferred (some [])) :: StoreR S m :: Bk X5 63 [.int .i64 B, .int .i64 z, .int .i64 f] :: Bk X6 27 [.slice none 0 0] :: Bk X7 66 [.int .i64 0, .int .i64 0, .int .i64 0, .int .i64 0] :: Bk X8 30 [.int .i64 0] :: L)) ?_
      refine WPA.opn ?_
      rintro ⟨qs, hqs⟩
      dsimp only
      have hql : qs.length = held.length := by have := congrArg List.length hqs; simpa using this
      have hqs2 : (qs ++ [(y, (1 : Int))]).map Prod.snd = ((held ++ [g]).map one).map Prod.snd := by rw [List.map_append, hqs, List.map_append, List.map_append]; rfl
      have hfold : ∀ (x : SV), Ent (OwnS 84 x (qs ++ [(y, (1 : Int))]) :: OwnS 3 y g :: RowH 3 (qs.map Prod.fst) ((held.map one).map Prod.fst) :: Bk K 127 [.pointer (some ⟨S, 0, none⟩), .int .i64 o, .slice x.a x.n x.cap, .slice r.a r.n r.cap, .int .i64 ((k : Int) + 1)] :: RunsH o r lp :: Fr () p :: Ob (D + 1) (rc .busy none) :: Ob D (.deferred (some [])) :: StoreR S m :: Bk X5 63 [.int .i64 B, .int .i64 z, .int .i64 f] :: Bk X6 27 [.slice none 0 0] :: Bk X7 66 [.int .i64 0, .int .i64 0, .int .i64 0, .int .i64 0] :: Bk X8 30 [.int .i64 0] :: L)
          (CntH K (S, o, held ++ [g], lp, ((k + 1 : Nat) : Int)) :: Fr () p :: Ob (D + 1) (rc .busy none) :: Ob D (.deferred (some [])) :: StoreR S m :: Bk X5 63 [.int .i64 B, .int .i64 z, .int .i64 f] :: Bk X6 27 [.slice none 0 0] :: Bk X7 66 [.int .i64 0, .int .i64 0, .int .i64 0, .int .i64 0] :: Bk X8 30 [.int .i64 0] :: L) := fun x => by
        have e1 : (qs ++ [(y, (1 : Int))]).map Prod.fst = qs.map Prod.fst ++ [y] := by rw [List.map_append]; rfl
        have e2 : ((held ++ [g]).map one).map Prod.fst = (held.map one).map Prod.fst ++ [g] := by rw [List.map_append, List.map_append]; rfl
        refine (Ent.cons (RowH.snoc (by rw [List.length_map, List.length_map, List.length_map]; exact hql))).trans ?_
        rw [← e1, ← e2]
        refine (CtsH.fold hqs2).trans ?_
        exact Ent.swap.trans CntH.fold
      have hroom : Room (qs.length + 1) 32 := ⟨by omega, by omega⟩
      by_cases hB : held.length + 1 = B
      case neg =>
        have hB' : ¬ (((qs ++ [(y, (1 : Int))]).length : Nat) : Int) = (B : Int) := by rw [List.length_append, List.length_singleton]; omega
        repeat' (first | ((first | refine WLA.m rfl rfl ?_ ?_ | refine WDQ.m rfl rfl ?_ ?_ | refine WDP.m rfl rfl ?_ ?_ | refine WLA.st rfl ?_ ?_ | refine WLA.x rfl rfl ?_ (fun x => ?_) | refine WLA.x0 rfl ?_ (fun x => ?_) | refine WDW.x rfl rfl ?_ (fun x => ?_) | refine WDW.st rfl ?_ ?_); first | exact trivial | exact rfl | assumption | omega | (refine ⟨?_, ?_⟩ <;> omega) | (simp only [Room, lenS]; omega) | decide | skip) | (refine Stp.go ?_) | (refine WPA.ifT ?_) | (refine WPA.ifF ?_) | ((first | refine WPA.dec ?_); first | refine .inl ⟨by first | assumption | omega | with_reducible rfl | (refine fun h => h ?_; first | assumption | with_reducible rfl) | (simp only [lenS] <;> omega) | decide, ?_⟩ | refine .inr ⟨by first | assumption | omega | with_reducible rfl | (refine fun h => h ?_; first | assumption | with_reducible rfl) | (simp only [lenS] <;> omega) | decide, ?_⟩) | ((first | refine WPA.ifBt ?_ ?_ | refine WPA.ifBnf ?_ ?_); assumption) | ((first | refine WPA.ifBnt ?_ ?_ | refine WPA.ifBf ?_ ?_); assumption) | ((first | refine WPA.ifs ?_ ?_ | refine WPA.ifB ?_ ?_) <;> intro hc) | (guard_target =~ WPA _ _ _ (.region 7 _ true) _ _ _; refine WPA.drawT 9 (.p 0 (.q 1 (.p 2 (.p 3 (.q 4 (.p 5 (.p 6 (.e 7 (.w 8 .fin))))))))) mixed ?_ ?_; kernel_rfl) | (guard_target =~ WPA _ _ _ (.region 9 _ true) _ _ _; refine WPA.drawT 7 (.q 0 (.q 1 (.q 2 (.q 3 (.q 4 (.q 5 (.q 6 .fin))))))) mixed ?_ ?_; kernel_rfl) | (refine WDA.finish (tl := [⟨_, _, _, _, _, _⟩]) rfl ?_) | (refine WDA.finish (tl := [⟨_, _, _, _, _, _⟩, ⟨_, _, _, _, _, _⟩, ⟨_, _, _, _, _, _⟩]) rfl ?_) | (refine WDQ.see rfl ?_) | (refine WDP.see rfl ?_) | (refine WDW.see rfl ?_) | (refine WDE.see rfl ?_) | (refine WDE.alloc rfl rfl (fun w h => h) (fun x => ?_)) | (refine WDE.stE rfl ?_) | (refine WDE.x rfl rfl ?_ ?_ (fun x => ?_); rotate_left 1; (intro x w h; first | exact h | exact Ent.drop1.sl h | exact SL.unI h | exact SL.to h); rotate_left 1; first | exact trivial | exact rfl | assumption | omega | (refine ⟨?_, ?_⟩ <;> omega) | (simp only [Room, lenS]; omega) | decide | skip))
        all_goals
          refine QQ.ent (EntC.out (L' := OwnS 84 x (qs ++ [(y, (1 : Int))]) :: OwnS 3 y g :: RowH 3 (qs.map Prod.fst) ((held.map one).map Prod.fst) :: Bk K 127 [.pointer (some ⟨S, 0, none⟩), .int .i64 o, .slice x.a x.n x.cap, .slice r.a r.n r.cap, .int .i64 ((k : Int) + 1)] :: RunsH o r lp :: Fr () p :: Ob (D + 1) (rc .busy none) :: Ob D (.deferred (some [])) :: StoreR S m :: Bk X5 63 [.int .i64 B, .int .i64 z, .int .i64 f] :: Bk X6 27 [.slice none 0 0] :: Bk X7 66 [.int .i64 0, .int .i64 0, .int .i64 0, .int .i64 0] :: Bk X8 30 [.int .i64 0] :: L)) ?_
          refine QQ.ent (hfold x) ?_
          exact QQ.rndN (fun w h => ⟨.inl ⟨k + 1, m, lp, held ++ [g]⟩, rfl, ⟨⟨⟨hlt, by dsimp only; rw [List.length_append, List.length_singleton]; omega, by dsimp only; omega, by dsimp only; rw [List.length_append, List.length_singleton]; omega⟩, ⟨cT, by dsimp only; rw [List.length_append, List.length_singleton]; omega⟩, c6', c7', c8'⟩, rfl⟩, h.to⟩)
      have hB' : (((qs ++ [(y, (1 : Int))]).length : Nat) : Int) = (B : Int) := by rw [List.length_append, List.length_singleton]; omega
      have hne : held ++ [g] ≠ [] := by simp
      have hhl : (held ++ [g]).length = held.length + 1 := by rw [List.length_append]; rfl
      have h8 : ∀ u ∈ held ++ [g], u.length ≤ 8 := fun u hu => by have := c6o u hu; omega
      repeat' ((fail_if_success (guard_target =~ WPA _ _ _ (.region 10 _ _) _ _ _)); first | ((first | refine WLA.m rfl rfl ?_ ?_ | refine WDQ.m rfl rfl ?_ ?_ | refine WDP.m rfl rfl ?_ ?_ | refine WLA.st rfl ?_ ?_ | refine WLA.x rfl rfl ?_ (fun x => ?_) | refine WLA.x0 rfl ?_ (fun x => ?_) | refine WDW.x rfl rfl ?_ (fun x => ?_) | refine WDW.st rfl ?_ ?_); first | exact trivial | exact rfl | assumption | omega | (refine ⟨?_, ?_⟩ <;> omega) | (simp only [Room, lenS]; omega) | decide | skip) | (refine Stp.go ?_) | (refine WPA.ifT ?_) | (refine WPA.ifF ?_) | ((first | refine WPA.dec ?_); first | refine .inl ⟨by first | assumption | omega | with_reducible rfl | (refine fun h => h ?_; first | assumption | with_reducible rfl) | (simp only [lenS] <;> omega) | decide, ?_⟩ | refine .inr ⟨by first | assumption | omega | with_reducible rfl | (refine fun h => h ?_; first | assumption | with_reducible rfl) | (simp only [lenS] <;> omega) | decide, ?_⟩) | ((first | refine WPA.ifBt ?_ ?_ | refine WPA.ifBnf ?_ ?_); assumption) | ((first | refine WPA.ifBnt ?_ ?_ | refine WPA.ifBf ?_ ?_); assumption) | ((first | refine WPA.ifs ?_ ?_ | refine WPA.ifB ?_ ?_) <;> intro hc) | (guard_target =~ WPA _ _ _ (.region 7 _ true) _ _ _; refine WPA.drawT 9 (.p 0 (.q 1 (.p 2 (.p 3 (.q 4 (.p 5 (.p 6 (.e 7 (.w 8 .fin))))))))) mixed ?_ ?_; kernel_rfl) | (guard_target =~ WPA _ _ _ (.region 9 _ true) _ _ _; refine WPA.drawT 7 (.q 0 (.q 1 (.q 2 (.q 3 (.q 4 (.q 5 (.q 6 .fin))))))) mixed ?_ ?_; kernel_rfl) | (refine WDA.finish (tl := [⟨_, _, _, _, _, _⟩]) rfl ?_) | (refine WDA.finish (tl := [⟨_, _, _, _, _, _⟩, ⟨_, _, _, _, _, _⟩, ⟨_, _, _, _, _, _⟩]) rfl ?_) | (refine WDQ.see rfl ?_) | (refine WDP.see rfl ?_) | (refine WDW.see rfl ?_) | (refine WDE.see rfl ?_) | (refine WDE.alloc rfl rfl (fun w h => h) (fun x => ?_)) | (refine WDE.stE rfl ?_) | (refine WDE.x rfl rfl ?_ ?_ (fun x => ?_); rotate_left 1; (intro x w h; first | exact h | exact Ent.drop1.sl h | exact SL.unI h | exact SL.to h); rotate_left 1; first | exact trivial | exact rfl | assumption | omega | (refine ⟨?_, ?_⟩ <;> omega) | (simp only [Room, lenS]; omega) | decide | skip))
      all_goals
        refine WPA.ent (EntC.out (L' := OwnS 84 x (qs ++ [(y, (1 : Int))]) :: OwnS 3 y g :: RowH 3 (qs.map Prod.fst) ((held.map one).map Prod.fst) :: Bk K 127 [.pointer (some ⟨S, 0, none⟩), .int .i64 o, .slice x.a x.n x.cap, .slice r.a r.n r.cap, .int .i64 ((k : Int) + 1)] :: RunsH o r lp :: Fr () p :: Ob (D + 1) (rc .busy none) :: Ob D (.deferred (some [])) :: StoreR S m :: Bk X5 63 [.int .i64 B, .int .i64 z, .int .i64 f] :: Bk X6 27 [.slice none 0 0] :: Bk X7 66 [.int .i64 0, .int .i64 0, .int .i64 0, .int .i64 0] :: Bk X8 30 [.int .i64 0] :: L)) ?_
        refine WPA.ent (hfold x) ?_
        by_cases hgood : ∀ u ∈ held ++ [g], okKey u
        · obtain ⟨hw, hT, htot⟩ := cT.flush (held := held ++ [g]) ho (fun u hu => ⟨c6o u hu, hgood u hu⟩) (by omega)
          have hgo := chF_go (o := o) (m := m) (lp := lp) (all := (held ++ [g]) ++ all.drop (k + 1)) (B := B) (by simp) (by omega)
          rw [c8', List.take_left' (by omega), List.drop_left' (by omega)] at hgo
          generalize hf : fillN (byS (mrg ((held ++ [g]).map one))) m [] 0 = fl at hT htot hgo
          obtain ⟨m1, ids⟩ := fl
          dsimp only at hT htot hgo
          repeat' (first | ((first | refine WLA.m rfl rfl ?_ ?_ | refine WLA.st rfl ?_ ?_ | refine WLA.x rfl rfl ?_ (fun x => ?_) | refine WLA.x0 rfl ?_ (fun x => ?_)); first | exact trivial | exact rfl | assumption | omega | (refine ⟨?_, ?_⟩ <;> omega) | (simp only [Room, lenS]; omega) | decide | skip) | (refine Stp.go ?_) | (guard_target =~ WLA _ _ _ _ _ (⟨_, .call ⟨.value (.func 60), _, _⟩, _, _, _, _⟩ :: _) _ _; refine WLA.call rfl rfl (flush_tr cT.inv.ok hne h8 (by omega) (by omega) rfl hw hf) ?_; rintro ⟨⟩) | (refine WPA.ifT ?_) | (refine WPA.ifF ?_) | ((first | refine WPA.dec ?_); first | refine .inl ⟨by first | assumption | omega | with_reducible rfl | (refine fun h => h ?_; first | assumption | with_reducible rfl) | (simp only [lenS] <;> omega) | decide, ?_⟩ | refine .inr ⟨by first | assumption | omega | with_reducible rfl | (refine fun h => h ?_; first | assumption | with_reducible rfl) | (simp only [lenS] <;> omega) | decide, ?_⟩) | ((first | refine WPA.ifBt ?_ ?_ | refine WPA.ifBnf ?_ ?_); assumption) | ((first | refine WPA.ifBnt ?_ ?_ | refine WPA.ifBf ?_ ?_); assumption) | ((first | refine WPA.ifs ?_ ?_ | refine WPA.ifB ?_ ?_) <;> intro hc))
          exact QQ.rndN (fun w h => ⟨.inl ⟨k + 1, m1, lp ++ [(ids, mrg ((held ++ [g]).map one))], []⟩, rfl, ⟨⟨⟨hlt, by show 0 < B; omega, by dsimp only; rw [List.length_append, List.length_singleton]; omega, Nat.zero_le _⟩, ⟨hT, by dsimp only; rw [htot, hhl]; show _ + ((0 : Nat) : Int) = _; omega⟩, fun u hu => absurd hu List.not_mem_nil, fun u hu => .inl ((c7' u hu).elim id fun h => hgood u h), hgo.symm⟩, rfl⟩, h.to⟩)
        · have he := flush_bad (m := m) ho c6o (by omega) hgood
          repeat' (first | ((first | refine WLA.m rfl rfl ?_ ?_ | refine WLA.st rfl ?_ ?_ | refine WLA.x rfl rfl ?_ (fun x => ?_) | refine WLA.x0 rfl ?_ (fun x => ?_)); first | exact trivial | exact rfl | assumption | omega | (refine ⟨?_, ?_⟩ <;> omega) | (simp only [Room, lenS]; omega) | decide | skip) | (refine Stp.go ?_) | (guard_target =~ WLA _ _ _ _ _ (⟨_, .call ⟨.value (.func 60), _, _⟩, _, _, _, _⟩ :: _) _ _; refine WLA.call rfl rfl (flush_err cT.inv.ok hne h8 (by omega) he (by decide)) ?_; rintro ⟨⟩) | (refine WPA.ifT ?_) | (refine WPA.ifF ?_) | ((first | refine WPA.dec ?_); first | refine .inl ⟨by first | assumption | omega | with_reducible rfl | (refine fun h => h ?_; first | assumption | with_reducible rfl) | (simp only [lenS] <;> omega) | decide, ?_⟩ | refine .inr ⟨by first | assumption | omega | with_reducible rfl | (refine fun h => h ?_; first | assumption | with_reducible rfl) | (simp only [lenS] <;> omega) | decide, ?_⟩) | ((first | refine WPA.ifBt ?_ ?_ | refine WPA.ifBnf ?_ ?_); assumption) | ((first | refine WPA.ifBnt ?_ ?_ | refine WPA.ifBf ?_ ?_); assumption) | ((first | refine WPA.ifs ?_ ?_ | refine WPA.ifB ?_ ?_) <;> intro hc))
          exact QQ.rndR (fun w h => ⟨.inr ⟨(), fun hG => hgood fun u hu => (hG u (c6' u hu)).2⟩, rfl, by dsimp only [Le]; exact h.to⟩)
    · dsimp only [Lm]
      have h1 := (RunsH.nil (o := o)).sl h
      have h2 := CtsH.nil.sl h1
      have h3 : SL w0 V (Bk K 127 [.pointer (some ⟨S, 0, none⟩), .int .i64 o, .slice none 0 0, .slice none 0 0, .int .i64 0] :: CtsH SV.nil [] :: RunsH o SV.nil [] :: Ob (D + 1) (rc .ready none) :: Ob D (.deferred (some [])) :: StoreR S (st0 z) :: Bk X5 63 [.int .i64 B, .int .i64 z, .int .i64 f] :: Bk X6 27 [.slice none 0 0] :: Bk X7 66 [.int .i64 0, .int .i64 0, .int .i64 0, .int .i64 0] :: Bk X8 30 [.int .i64 0] :: L) w := h2.to
      have h4 := (CntH.fold (K := K) (S := S) (o := o) (n := 0) (held := []) (lp := []) (h := SV.nil) (r := SV.nil)).sl h3
      have h5 : SL w0 V (Ob (D + 1) (rc .ready none) :: Ob D (.deferred (some [])) :: CntH K (S, o, [], [], 0) :: StoreR S (st0 z) :: Bk X5 63 [.int .i64 B, .int .i64 z, .int .i64 f] :: Bk X6 27 [.slice none 0 0] :: Bk X7 66 [.int .i64 0, .int .i64 0, .int .i64 0, .int .i64 0] :: Bk X8 30 [.int .i64 0] :: L) w := h4.to
      exact h5
    · rintro (x | z) w hb
      · refine ⟨.inl ⟨x, hb.1.1, by rw [← hal]; exact hb.1.2⟩, rfl, ?_⟩
        have h := hb.2
        dsimp only [Lm] at h ⊢
        exact h.to
      · exact ⟨.inr z, rfl, hb⟩
  · rintro (⟨⟨k, m, lp, held⟩, ⟨⟨c1, c2, c3, c4⟩, ⟨cT, c5⟩, c6, c7, c8⟩, hk⟩ | ⟨_, hbad⟩) <;> refine ⟨by simp, ?_⟩
    · show QQ _ _ _ _
      dsimp only at c1 c2 c3 c4 cT c5 c6 c7 c8 hk
      dsimp only [Lm]
      subst hk
      rw [List.take_length] at c7
      rw [List.drop_length, List.append_nil] at c8
      have c6o : ∀ u ∈ held, (u.length : Int) = o := fun u hu => hlen u (c6 u hu)
      have h8 : ∀ u ∈ held, u.length ≤ 8 := fun u hu => by have := c6o u hu; omega
      by_cases hgood : ∀ u ∈ held, okKey u
      case neg =>
        have hne : held ≠ [] := fun h => hgood fun u hu => by rw [h] at hu; cases hu
        have he := flush_bad (m := m) ho c6o (by omega) hgood
        repeat' (first | ((first | refine WLA.m rfl rfl ?_ ?_ | refine WLA.st rfl ?_ ?_ | refine WLA.x rfl rfl ?_ (fun x => ?_) | refine WLA.x0 rfl ?_ (fun x => ?_)); first | exact trivial | exact rfl | assumption | omega | (refine ⟨?_, ?_⟩ <;> omega) | (simp only [Room, lenS]; omega) | decide | skip) | (refine Stp.go ?_) | (guard_target =~ WLA _ _ _ _ _ (⟨_, .call ⟨.value (.func 60), _, _⟩, _, _, _, _⟩ :: _) _ _; refine WLA.call rfl rfl (flush_err cT.inv.ok hne h8 (by omega) he (by decide)) ?_; rintro ⟨⟩) | (refine WPA.ifT ?_) | (refine WPA.ifF ?_) | ((first | refine WPA.dec ?_); first | refine .inl ⟨by first | assumption | omega | with_reducible rfl | (refine fun h => h ?_; first | assumption | with_reducible rfl) | (simp only [lenS] <;> omega) | decide, ?_⟩ | refine .inr ⟨by first | assumption | omega | with_reducible rfl | (refine fun h => h ?_; first | assumption | with_reducible rfl) | (simp only [lenS] <;> omega) | decide, ?_⟩) | ((first | refine WPA.ifBt ?_ ?_ | refine WPA.ifBnf ?_ ?_); assumption) | ((first | refine WPA.ifBnt ?_ ?_ | refine WPA.ifBf ?_ ?_); assumption) | ((first | refine WPA.ifs ?_ ?_ | refine WPA.ifB ?_ ?_) <;> intro hc))
        exact QQ.fin [D] (L' := Bk X6 27 [.slice SV.nil.a SV.nil.n SV.nil.cap] :: Bk X7 66 [.int .i64 0, .int .i64 0, .int .i64 0, .int .i64 0] :: Bk X8 30 [.int .i64 8] :: L) rfl (EntC.out (L' := Ob D (.deferred (some [])) :: Bk X6 27 [.slice SV.nil.a SV.nil.n SV.nil.cap] :: Bk X7 66 [.int .i64 0, .int .i64 0, .int .i64 0, .int .i64 0] :: Bk X8 30 [.int .i64 8] :: L)) rfl (.inr ()) rfl fun w h => ⟨fun hG => hgood fun u hu => (hG u (c6 u hu)).2, (h.to : SL w0 V L w).sub hVI.out⟩
      have hG : GoodG o all := fun u hu => ⟨hlen u hu, (c7 u hu).elim id fun h => hgood u h⟩
      obtain ⟨m2, lp2, hT2, hch, hlp2, hfl⟩ : ∃ m2 lp2, TInv o z m2 lp2 ∧ chF o B (st0 z) [] all = (m2, lp2) ∧ lp2.length ≤ 1000 ∧ ∀ {L L1 L2 : List HP} [FindK L CntH K (S, o, held, lp, (all.length : Int)) L1] [FindK L1 StoreR S m L2], Tr Tryz.prog 60 #[.pointer (some ⟨K, 0, none⟩)] (SL w0 V L) (fun _ : Unit => .int .i64 0) (fun _ => SL w0 V (CntH K (S, o, [], lp2, (all.length : Int)) :: StoreR S m2 :: L2)) := by
        by_cases h0 : held = []
        · subst h0
          rw [chF_nil] at c8
          refine ⟨m, lp, cT, c8.symm, by omega, fun {L L1 L2} h1 h2 => flush_none.conv (fun _ h => h) fun _ w hw => ⟨(), rfl, (Ent.cons h2.out).sl hw⟩⟩
        · have hpos := List.length_pos_iff.2 h0
          obtain ⟨hw, hT, htot⟩ := cT.flush (held := held) ho (fun u hu => ⟨c6o u hu, hgood u hu⟩) (by omega)
          have hgo := chF_go (o := o) (m := m) (lp := lp) (all := held) (B := B) h0 (by omega)
          rw [c8, List.take_of_length_le (by omega), List.drop_of_length_le (by omega), chF_nil] at hgo
          generalize hf : fillN (byS (mrg (held.map one))) m [] 0 = fl at hT htot hgo
          obtain ⟨m1, ids⟩ := fl
          dsimp only at hT htot hgo
          exact ⟨m1, _, hT, hgo, by rw [List.length_append, List.length_singleton]; omega, fun {L L1 L2} h1 h2 => flush_tr cT.inv.ok h0 h8 (by omega) (by omega) rfl hw hf⟩
      have hf1 : 2 ≤ f ∧ (f : Int) ≤ 9223372036854775807 := by omega
      have hz0 := TInv.runs (f := f) ho (by omega) lp2.length lp2 rfl m2 0 hT2
      have hlaw := runs_law (o := o) (f := f) (by omega) lp2.length lp2 rfl m2 0 hT2.inv hz0
      obtain ⟨m', l', p, e, hGG⟩ : ∃ m' l' p e, runsF o f m2 lp2 0 = (m', l', p, e) := ⟨_, _, _, _, rfl⟩
      rw [hGG] at hz0 hlaw
      dsimp only at hz0 hlaw
      subst hz0
      obtain ⟨hI', hmg, hl1⟩ := hlaw
      have hcl := (chF_law (o := o) (z := z) ho hB1 all.length all rfl (st0 z) [] (TInv.zero (by omega)) hG (by show (0 : Int) + _ ≤ 300; omega)).2.1
      rw [hch] at hcl
      have hcl2 : mrg (ctsF lp2) = mrg (all.map one) := hcl
      have hcC : cntC o z B all = (m2, lp2) := hch
      have hcR : cntR o z B f all = (m', l', p, 0) := by unfold cntR; rw [hcC]; exact hGG
      rw [hcC, hcR]
      dsimp only
      rw [← hcl2, ← hmg]
      repeat' ((fail_if_success (guard_target =~ WPA _ _ _ (.region 16 _ _) _ _ _)); first | ((first | refine WLA.m rfl rfl ?_ ?_ | refine WLA.st rfl ?_ ?_ | refine WLA.x rfl rfl ?_ (fun x => ?_) | refine WLA.x0 rfl ?_ (fun x => ?_)); first | exact trivial | exact rfl | assumption | omega | (refine ⟨?_, ?_⟩ <;> omega) | (simp only [Room, lenS]; omega) | decide | skip) | (refine Stp.go ?_) | (guard_target =~ WLA _ _ _ _ _ (⟨_, .call ⟨.value (.func 60), _, _⟩, _, _, _, _⟩ :: _) _ _; refine WLA.call rfl rfl (hfl) ?_; rintro ⟨⟩) | (refine WPA.ifT ?_) | (refine WPA.ifF ?_) | ((first | refine WPA.dec ?_); first | refine .inl ⟨by first | assumption | omega | with_reducible rfl | (refine fun h => h ?_; first | assumption | with_reducible rfl) | (simp only [lenS] <;> omega) | decide, ?_⟩ | refine .inr ⟨by first | assumption | omega | with_reducible rfl | (refine fun h => h ?_; first | assumption | with_reducible rfl) | (simp only [lenS] <;> omega) | decide, ?_⟩) | ((first | refine WPA.ifBt ?_ ?_ | refine WPA.ifBnf ?_ ?_); assumption) | ((first | refine WPA.ifBnt ?_ ?_ | refine WPA.ifBf ?_ ?_); assumption) | ((first | refine WPA.ifs ?_ ?_ | refine WPA.ifB ?_ ?_) <;> intro hc))
      refine WPA.ent (EntC.out (L' := CntH K (S, o, [], lp2, (all.length : Int)) :: StoreR S m2 :: Ob D (.deferred (some [])) :: Bk X5 63 [.int .i64 B, .int .i64 z, .int .i64 f] :: Bk X6 27 [.slice none 0 0] :: Bk X7 66 [.int .i64 0, .int .i64 0, .int .i64 0, .int .i64 0] :: Bk X8 30 [.int .i64 0] :: L)) ?_
      refine WPA.opn ?_
      rintro ⟨hh, r⟩
      dsimp only
      refine WPA.ent (EntC.out (L' := RunsH o r lp2 :: Bk K 127 [.pointer (some ⟨S, 0, none⟩), .int .i64 o, .slice hh.a hh.n hh.cap, .slice r.a r.n r.cap, .int .i64 all.length] :: StoreR S m2 :: Ob D (.deferred (some [])) :: Bk X5 63 [.int .i64 B, .int .i64 z, .int .i64 f] :: Bk X6 27 [.slice none 0 0] :: Bk X7 66 [.int .i64 0, .int .i64 0, .int .i64 0, .int .i64 0] :: Bk X8 30 [.int .i64 0] :: L)) ?_
      refine WPA.freeze fun R3 hF => ?_
      obtain ⟨res, r1, r2⟩ := hF.freeze
      have s1 : SlI (R3 ++ V) r RE inferInstance res := inferInstance
      have hp : Rows (PRunI (R3 ++ V) o) res lp2 := r2.mono fun _ _ k => k.sub inferInstance
      haveI hI2 : InI (R3 ++ V) X11 125 [.pointer (some ⟨K, 0, none⟩)] := InI.sub hI11
      have hVI2 : SubI (R3 ++ V) I := ⟨fun z hz => List.mem_append_right _ (hVI.out hz)⟩
      clear hF r1 r2 hI11 hVI hE3 hcl hcl2 hcC hcR hfl
      generalize R3 ++ V = V2 at s1 hp hI2 hVI2
      have hrl := hp.1
      repeat' ((fail_if_success (guard_target =~ WPA _ _ _ (.region 19 _ _) _ _ _)); first | ((first | refine WLA.m rfl rfl ?_ ?_ | refine WDQ.m rfl rfl ?_ ?_ | refine WDP.m rfl rfl ?_ ?_ | refine WLA.st rfl ?_ ?_ | refine WLA.x rfl rfl ?_ (fun x => ?_) | refine WLA.x0 rfl ?_ (fun x => ?_) | refine WDW.x rfl rfl ?_ (fun x => ?_) | refine WDW.st rfl ?_ ?_); first | exact trivial | exact rfl | assumption | omega | (refine ⟨?_, ?_⟩ <;> omega) | (simp only [Room, lenS]; omega) | decide | skip) | (refine Stp.go ?_) | (guard_target =~ WLA _ _ _ _ _ (⟨_, .call ⟨.value (.func 14), _, _⟩, _, _, _, _⟩ :: _) _ _; refine WLA.call rfl rfl (Runs_trS ho hf1 s1 hp hT2.inv hlp2 hGG) ?_; rintro ⟨⟨⟨xo, xn, xs⟩, V4⟩, hx2⟩; dsimp only at hx2 ⊢) | (refine WPA.ifT ?_) | (refine WPA.ifF ?_) | ((first | refine WPA.dec ?_); first | refine .inl ⟨by first | assumption | omega | with_reducible rfl | (refine fun h => h ?_; first | assumption | with_reducible rfl) | (simp only [lenS] <;> omega) | decide, ?_⟩ | refine .inr ⟨by first | assumption | omega | with_reducible rfl | (refine fun h => h ?_; first | assumption | with_reducible rfl) | (simp only [lenS] <;> omega) | decide, ?_⟩) | ((first | refine WPA.ifBt ?_ ?_ | refine WPA.ifBnf ?_ ?_); assumption) | ((first | refine WPA.ifBnt ?_ ?_ | refine WPA.ifBf ?_ ?_); assumption) | ((first | refine WPA.ifs ?_ ?_ | refine WPA.ifB ?_ ?_) <;> intro hc) | (guard_target =~ WPA _ _ _ (.region 16 _ true) _ _ _; refine WPA.drawT 16 (.p 0 (.p 1 (.q 2 (.p 3 (.p 4 (.q 5 (.p 6 (.q 7 (.b true 8 (.p 9 (.p 10 (.p 11 (.p 12 (.e 13 (.e 14 (.p 15 .fin))))))) false 13 (.w 8 (.p 9 (.p 10 (.p 11 (.p 12 (.e 14 (.p 15 .fin)))))))))))))))) mixed ?_ ?_; kernel_rfl) | (refine WDA.finish (tl := [⟨_, _, _, _, _, _⟩]) rfl ?_) | (refine WDQ.see rfl ?_) | (refine WDP.see rfl ?_) | (refine WDW.see rfl ?_) | (first | (refine WDA.two rfl rfl ?_ ?_) | (refine WDA.twoL rfl rfl ?_ ?_) | (refine WDA.twoR rfl rfl ?_ ?_) | (refine WDA.twoW rfl rfl ?_ ?_)) | (refine WDE.see rfl ?_) | (refine WDE.alloc rfl rfl (fun w h => h) (fun x => ?_)) | (refine WDE.stE rfl ?_) | (refine WDE.x rfl rfl ?_ ?_ (fun x => ?_); rotate_left 1; (intro x w h; first | exact h | exact Ent.drop1.sl h | exact SL.unI h | exact SL.to h); rotate_left 1; first | exact trivial | exact rfl | assumption | omega | (refine ⟨?_, ?_⟩ <;> omega) | (simp only [Room, lenS]; omega) | decide | skip) | (guard_target =~ WDE _ _ _ _ _ _ _ ⟨_, .call ⟨.value (.func 14), _, _⟩, _, _, _, _⟩ _ _ _; refine WDE.call rfl rfl (Runs_trS ho hf1 s1 hp hT2.inv hlp2 hGG) ?_ ?_; (intro x w h; first | exact h | exact Ent.drop1.sl h | exact SL.unI h | exact SL.to h); rintro ⟨⟨⟨xo, xn, xs⟩, V4⟩, hx2⟩; dsimp only at hx2 ⊢) | (guard_target =~ WDW _ _ _ _ _ _ _ ⟨_, .call ⟨.value (.func 14), _, _⟩, _, _, _, _⟩ _ _ _; refine WDW.call rfl rfl (Runs_trS ho hf1 s1 hp hT2.inv hlp2 hGG) ?_; rintro ⟨⟨⟨xo, xn, xs⟩, V4⟩, hx2⟩; dsimp only at hx2 ⊢))
      all_goals
        have hx1 : SubI (V4 ++ V2) V2 := inferInstance
        generalize V4 ++ V2 = V3 at hx1 hx2
        obtain ⟨ids, ms, ⟨⟨x1, x2⟩, x3⟩, ⟨t1, t2⟩, g1, g3, g4⟩ := fin_p ho hx2 hI'
        dsimp only at x1 x2 x3
        subst x1
        rw [← x2] at t2
        rw [g1]
        have s2 : SlI V3 r RE inferInstance res := s1.sub
        haveI hI3 : InI V3 X11 125 [.pointer (some ⟨K, 0, none⟩)] := InI.sub hI2
        have hVI3 : SubI V3 I := ⟨fun z hz => hx1.out (hVI2.out hz)⟩
        have hrd : ∀ {L L' : List HP} [FindK L StoreR S m' L'], Tr Tryz.prog 18 #[.pointer (some ⟨S, 0, none⟩), .agg #[.int .i64 xo, .int .i64 xn, .slice xs.a xs.n xs.cap]] (SL w0 V3 L) (fun x : SV => .tuple #[.slice x.a x.n x.cap, .int .i64 0]) (fun x => SL w0 V3 (CtsH x ms :: StoreR S m' :: L')) := fun {L L'} _ =>
          runRead_tr (res := some ms) ⟨ho, by omega⟩ x3 hI'.ok.lens hI'.txb g3 t1 t2
        repeat' ((fail_if_success (guard_target =~ WPA _ _ _ (.region 22 _ _) _ _ _)); first | ((first | refine WLA.m rfl rfl ?_ ?_ | refine WLA.st rfl ?_ ?_ | refine WLA.x rfl rfl ?_ (fun x => ?_) | refine WLA.x0 rfl ?_ (fun x => ?_)); first | exact trivial | exact rfl | assumption | omega | (refine ⟨?_, ?_⟩ <;> omega) | (simp only [Room, lenS]; omega) | decide | skip) | (refine Stp.go ?_) | (guard_target =~ WLA _ _ _ _ _ (⟨_, .call ⟨.value (.func 18), _, _⟩, _, _, _, _⟩ :: _) _ _; refine WLA.call rfl rfl (hrd) ?_; rintro y) | (refine WPA.ifT ?_) | (refine WPA.ifF ?_) | ((first | refine WPA.dec ?_); first | refine .inl ⟨by first | assumption | omega | with_reducible rfl | (refine fun h => h ?_; first | assumption | with_reducible rfl) | (simp only [lenS] <;> omega) | decide, ?_⟩ | refine .inr ⟨by first | assumption | omega | with_reducible rfl | (refine fun h => h ?_; first | assumption | with_reducible rfl) | (simp only [lenS] <;> omega) | decide, ?_⟩) | ((first | refine WPA.ifBt ?_ ?_ | refine WPA.ifBnf ?_ ?_); assumption) | ((first | refine WPA.ifBnt ?_ ?_ | refine WPA.ifBf ?_ ?_); assumption) | ((first | refine WPA.ifs ?_ ?_ | refine WPA.ifB ?_ ?_) <;> intro hc))
        refine WPA.freezeBk (b := K) ?_
        have s3 : SlI (BkI K 127 [.pointer (some ⟨S, 0, none⟩), .int .i64 xo, .slice hh.a hh.n hh.cap, .slice r.a r.n r.cap, .int .i64 all.length] ++ V3) r RE inferInstance res := inferInstance
        haveI hI4 : InI (BkI K 127 [.pointer (some ⟨S, 0, none⟩), .int .i64 xo, .slice hh.a hh.n hh.cap, .slice r.a r.n r.cap, .int .i64 all.length] ++ V3) X11 125 [.pointer (some ⟨K, 0, none⟩)] := inferInstance
        haveI hI5 : InI (BkI K 127 [.pointer (some ⟨S, 0, none⟩), .int .i64 xo, .slice hh.a hh.n hh.cap, .slice r.a r.n r.cap, .int .i64 all.length] ++ V3) K 127 [.pointer (some ⟨S, 0, none⟩), .int .i64 xo, .slice hh.a hh.n hh.cap, .slice r.a r.n r.cap, .int .i64 all.length] := inferInstance
        have hVI5 : SubI (BkI K 127 [.pointer (some ⟨S, 0, none⟩), .int .i64 xo, .slice hh.a hh.n hh.cap, .slice r.a r.n r.cap, .int .i64 all.length] ++ V3) I := ⟨fun z hz => List.mem_append_right _ (hVI3.out hz)⟩
        clear s2 hI3 hVI3 hrd x3 hx2
        generalize BkI K 127 [.pointer (some ⟨S, 0, none⟩), .int .i64 xo, .slice hh.a hh.n hh.cap, .slice r.a r.n r.cap, .int .i64 all.length] ++ V3 = V5 at s3 hI4 hI5 hVI5
        repeat' (first | ((first | refine WLA.m rfl rfl ?_ ?_ | refine WDQ.m rfl rfl ?_ ?_ | refine WDP.m rfl rfl ?_ ?_ | refine WLA.st rfl ?_ ?_ | refine WLA.x rfl rfl ?_ (fun x => ?_) | refine WLA.x0 rfl ?_ (fun x => ?_) | refine WDW.x rfl rfl ?_ (fun x => ?_) | refine WDW.st rfl ?_ ?_); first | exact trivial | exact rfl | assumption | omega | (refine ⟨?_, ?_⟩ <;> omega) | (simp only [Room, lenS]; omega) | decide | skip) | (refine Stp.go ?_) | (guard_target =~ WLA _ _ _ _ _ (⟨_, .call ⟨.value (.func 61), _, _⟩, _, _, _, _⟩ :: _) _ _; refine WLA.cq rfl rfl (Peak_tr) ?_) | (refine WPA.ifT ?_) | (refine WPA.ifF ?_) | ((first | refine WPA.dec ?_); first | refine .inl ⟨by first | assumption | omega | with_reducible rfl | (refine fun h => h ?_; first | assumption | with_reducible rfl) | (simp only [lenS] <;> omega) | decide, ?_⟩ | refine .inr ⟨by first | assumption | omega | with_reducible rfl | (refine fun h => h ?_; first | assumption | with_reducible rfl) | (simp only [lenS] <;> omega) | decide, ?_⟩) | ((first | refine WPA.ifBt ?_ ?_ | refine WPA.ifBnf ?_ ?_); assumption) | ((first | refine WPA.ifBnt ?_ ?_ | refine WPA.ifBf ?_ ?_); assumption) | ((first | refine WPA.ifs ?_ ?_ | refine WPA.ifB ?_ ?_) <;> intro hc) | (guard_target =~ WPA _ _ _ (.region 22 _ true) _ _ _; refine WPA.drawT 15 (.p 0 (.p 1 (.p 2 (.p 3 (.p 4 (.p 5 (.p 6 (.p 7 (.p 8 (.p 9 (.p 10 (.p 11 (.q 12 (.p 13 (.w 14 .fin))))))))))))))) mixed ?_ ?_; kernel_rfl) | (refine WDA.finish (tl := [⟨_, _, _, _, _, _⟩, ⟨_, _, _, _, _, _⟩]) rfl ?_) | (refine WDQ.see rfl ?_) | (refine WDP.see rfl ?_) | (refine WDW.see rfl ?_) | (guard_target =~ WDQ _ _ _ _ _ _ _ ⟨_, .call ⟨.value (.func 61), _, _⟩, _, _, _, _⟩ _ _ _; refine WDQ.cq rfl rfl (Peak_tr) ?_))
        all_goals
          rw [hrl]
          exact QQ.fin [D] (L' := CtsH y ms :: Bk X6 27 [.slice y.a y.n y.cap] :: Bk X7 66 [.int .i64 all.length, .int .i64 lp2.length, .int .i64 p, .int .i64 m'.peak] :: Bk X8 30 [.int .i64 0] :: L) rfl (EntC.out (L' := Ob D (.deferred (some [])) :: CtsH y ms :: Bk X6 27 [.slice y.a y.n y.cap] :: Bk X7 66 [.int .i64 all.length, .int .i64 lp2.length, .int .i64 p, .int .i64 m'.peak] :: Bk X8 30 [.int .i64 0] :: L)) rfl (.inl y) rfl fun w h => ⟨hG, (h.to : SL w0 V5 (CtsH y ms :: L) w).sub hVI5.out⟩
    · show QQ _ _ _ _
      dsimp only [Le]
      repeat' (first | ((first | refine WLA.m rfl rfl ?_ ?_ | refine WLA.st rfl ?_ ?_ | refine WLA.x rfl rfl ?_ (fun x => ?_) | refine WLA.x0 rfl ?_ (fun x => ?_)); first | exact trivial | exact rfl | assumption | omega | (refine ⟨?_, ?_⟩ <;> omega) | (simp only [Room, lenS]; omega) | decide | skip) | (refine Stp.go ?_) | (refine WPA.ifT ?_) | (refine WPA.ifF ?_) | ((first | refine WPA.dec ?_); first | refine .inl ⟨by first | assumption | omega | with_reducible rfl | (refine fun h => h ?_; first | assumption | with_reducible rfl) | (simp only [lenS] <;> omega) | decide, ?_⟩ | refine .inr ⟨by first | assumption | omega | with_reducible rfl | (refine fun h => h ?_; first | assumption | with_reducible rfl) | (simp only [lenS] <;> omega) | decide, ?_⟩) | ((first | refine WPA.ifBt ?_ ?_ | refine WPA.ifBnf ?_ ?_); assumption) | ((first | refine WPA.ifBnt ?_ ?_ | refine WPA.ifBf ?_ ?_); assumption) | ((first | refine WPA.ifs ?_ ?_ | refine WPA.ifB ?_ ?_) <;> intro hc))
      exact QQ.fin [D] (L' := Bk X6 27 [.slice SV.nil.a SV.nil.n SV.nil.cap] :: Bk X7 66 [.int .i64 0, .int .i64 0, .int .i64 0, .int .i64 0] :: Bk X8 30 [.int .i64 8] :: L) rfl Ent.refl rfl (.inr ()) rfl fun w h => ⟨hbad, (h.to : SL w0 V L w).sub hVI.out⟩
end
end Go.Proofs.YtamnobjdgjbmbaaGreat
namespace Go.Proofs.YtamnobjdgjbmbaaGreat
open Go Go.Fw Go.RowKit
set_option linter.unusedVariables false
set_option linter.unusedSimpArgs false
set_option maxRecDepth 100000
set_option maxHeartbeats 16000000
set_option synthInstance.maxHeartbeats 200000
set_option synthInstance.maxSize 100000
attribute [local irreducible] WPA WLA WDA WDQ WDE QQ seqQ blockQ loopQ fnQ OpP OpT Tr TrP SL SLd OwnS LitS Bk BkE Ob
attribute [local irreducible] vS keyS parL RowH CtsH mrg grp RunsH CntH
def sumN (gs : List (List Int)) : Nat := (gs.map List.length).sum
def Sm22 (gs : List (List Int)) : Prop := gs.length ≤ 12 ∧ (∀ g ∈ gs, g.length ≤ 40) ∧ sumN gs ≤ 100
instance (gs : List (List Int)) : Decidable (Sm22 gs) := inferInstanceAs (Decidable (_ ∧ _))
theorem sumN_snoc (gs : List (List Int)) (g : List Int) : sumN (gs ++ [g]) = sumN gs + g.length := by unfold sumN; rw [List.map_append, List.sum_append]; simp
theorem sumN_le : ∀ {gs : List (List Int)}, (∀ g ∈ gs, g.length ≤ 40) → sumN gs ≤ 40 * gs.length
  | [], _ => Nat.le_refl 0
  | g :: gs, h => by
    have h1 := sumN_le (gs := gs) fun x hx => h x (List.mem_cons_of_mem _ hx)
    have h2 := h g (List.mem_cons_self ..)
    have e : sumN (g :: gs) = g.length + sumN gs := rfl
    rw [e, List.length_cons]; omega
theorem each_sum {o : Int} : ∀ gs : List (List Int), (eachL gs o).length ≤ sumN gs
  | [] => Nat.le_refl 0
  | g :: gs => by
    have h1 := each_sum (o := o) gs
    have h2 := gramN_le g o
    have e : eachL (g :: gs) o = gramsL g o ++ eachL gs o := by unfold eachL; rw [List.flatMap_cons]
    have e2 : sumN (g :: gs) = g.length + sumN gs := rfl
    rw [e, List.length_append, gramsL_len, e2]; omega
theorem take_snoc {gs : List (List Int)} {i : Nat} (h : i < gs.length) : gs.take (i + 1) = gs.take i ++ [gs.getD i []] := by rw [List.take_add_one, List.getElem?_eq_getElem h, List.getD_eq_getElem?_getD, List.getElem?_eq_getElem h]; rfl
section
variable {L L' L1 L2 : List HP} {w0 : World} {I : Foot}
theorem Small22_tr {s : SV} {hs : List SV} {gs : List (List Int)} [hsl : SlI I s SV inferInstance hs] (hg : GsI I hs gs) :
    TrP Tryz.prog 23 #[.slice s.a s.n s.cap] (SL w0 I L) (.bool (decide (Sm22 gs))) := by
  refine TrP.ofD fun u => Tr.intro Tryz.func23 rfl Tryz.ntmps23 rfl ?_
  have hl := hg.1
  by_cases h12 : (12 : Int) < hs.length
  · skip
    repeat' (first | ((first | refine WLA.m rfl rfl ?_ ?_ | refine WLA.st rfl ?_ ?_ | refine WLA.x rfl rfl ?_ (fun x => ?_) | refine WLA.x0 rfl ?_ (fun x => ?_)); first | exact trivial | exact rfl | assumption | omega | (refine ⟨?_, ?_⟩ <;> omega) | (simp only [Room, lenS]; omega) | decide | skip) | (refine Stp.go ?_) | (refine WPA.ifT ?_) | (refine WPA.ifF ?_) | ((first | refine WPA.dec ?_); first | refine .inl ⟨by first | assumption | omega | with_reducible rfl | (refine fun h => h ?_; first | assumption | with_reducible rfl) | (simp only [lenS] <;> omega) | decide, ?_⟩ | refine .inr ⟨by first | assumption | omega | with_reducible rfl | (refine fun h => h ?_; first | assumption | with_reducible rfl) | (simp only [lenS] <;> omega) | decide, ?_⟩) | ((first | refine WPA.ifBt ?_ ?_ | refine WPA.ifBnf ?_ ?_); assumption) | ((first | refine WPA.ifBnt ?_ ?_ | refine WPA.ifBf ?_ ?_); assumption) | ((first | refine WPA.ifs ?_ ?_ | refine WPA.ifB ?_ ?_) <;> intro hc))
    exact QQ.end_ rfl () (congrArg Value.bool (decide_eq_false fun h => by have := h.1; omega).symm) fun w h => h
  repeat' (first | ((first | refine WLA.m rfl rfl ?_ ?_ | refine WLA.st rfl ?_ ?_ | refine WLA.x rfl rfl ?_ (fun x => ?_) | refine WLA.x0 rfl ?_ (fun x => ?_)); first | exact trivial | exact rfl | assumption | omega | (refine ⟨?_, ?_⟩ <;> omega) | (simp only [Room, lenS]; omega) | decide | skip) | (refine Stp.go ?_) | (refine WPA.ifT ?_) | (refine WPA.ifF ?_) | ((first | refine WPA.dec ?_); first | refine .inl ⟨by first | assumption | omega | with_reducible rfl | (refine fun h => h ?_; first | assumption | with_reducible rfl) | (simp only [lenS] <;> omega) | decide, ?_⟩ | refine .inr ⟨by first | assumption | omega | with_reducible rfl | (refine fun h => h ?_; first | assumption | with_reducible rfl) | (simp only [lenS] <;> omega) | decide, ?_⟩) | ((first | refine WPA.ifBt ?_ ?_ | refine WPA.ifBnf ?_ ?_); assumption) | ((first | refine WPA.ifBnt ?_ ?_ | refine WPA.ifBf ?_ ?_); assumption) | ((first | refine WPA.ifs ?_ ?_ | refine WPA.ifB ?_ ?_) <;> intro hc))
  refine WPA.loopS (σ := Nat) (fun i => [(0, .slice s.a s.n s.cap), (3, .int .i64 (sumN (gs.take i))), (4, .int .i64 i)]) (fun i => i ≤ gs.length ∧ ∀ g ∈ gs.take i, g.length ≤ 40) (fun i => SLd w0 I L u) (fun i => gs.length - i) 0 ⟨rfl, rfl, rfl, trivial⟩ ⟨Nat.zero_le _, by simp⟩ (fun w h => h) ?_
  rintro i ρ ⟨hi, hj⟩
  by_cases hlt : i < gs.length
  · have hlt' : (i : Int) < hs.length := by omega
    have hir : (0 : Int) ≤ i ∧ (i : Int) < hs.length := by omega
    have hgi := hg.2 i (by omega)
    have htk := take_snoc hlt
    have hmg : gs.getD i [] ∈ gs := by rw [List.getD_eq_getElem?_getD, List.getElem?_eq_getElem hlt]; exact List.getElem_mem _
    have hsu := sumN_snoc (gs.take i) (gs.getD i [])
    have hsb := sumN_le hj
    rw [List.length_take] at hsb
    obtain ⟨v, hv⟩ : ∃ v, at_ hs (i : Int) = v := ⟨_, rfl⟩
    rw [hv] at hgi
    generalize gs.getD i [] = g at hgi htk hmg hsu
    by_cases h40 : (40 : Int) < g.length
    · skip
      repeat' (first | ((rw [hv])) | ((first | refine WLA.m rfl rfl ?_ ?_ | refine WLA.st rfl ?_ ?_ | refine WLA.x rfl rfl ?_ (fun x => ?_) | refine WLA.x0 rfl ?_ (fun x => ?_)); first | exact trivial | exact rfl | assumption | omega | (refine ⟨?_, ?_⟩ <;> omega) | (simp only [Room, lenS]; omega) | decide | skip) | (refine Stp.go ?_) | (refine WPA.ifT ?_) | (refine WPA.ifF ?_) | ((first | refine WPA.dec ?_); first | refine .inl ⟨by first | assumption | omega | with_reducible rfl | (refine fun h => h ?_; first | assumption | with_reducible rfl) | (simp only [lenS] <;> omega) | decide, ?_⟩ | refine .inr ⟨by first | assumption | omega | with_reducible rfl | (refine fun h => h ?_; first | assumption | with_reducible rfl) | (simp only [lenS] <;> omega) | decide, ?_⟩) | ((first | refine WPA.ifBt ?_ ?_ | refine WPA.ifBnf ?_ ?_); assumption) | ((first | refine WPA.ifBnt ?_ ?_ | refine WPA.ifBf ?_ ?_); assumption) | ((first | refine WPA.ifs ?_ ?_ | refine WPA.ifB ?_ ?_) <;> intro hc))
      exact QQ.end_ rfl () (congrArg Value.bool (decide_eq_false fun h => by have := h.2.1 g hmg; omega).symm) fun w h => h
    · skip
      repeat' (first | ((rw [hv])) | ((first | refine WLA.m rfl rfl ?_ ?_ | refine WLA.st rfl ?_ ?_ | refine WLA.x rfl rfl ?_ (fun x => ?_) | refine WLA.x0 rfl ?_ (fun x => ?_)); first | exact trivial | exact rfl | assumption | omega | (refine ⟨?_, ?_⟩ <;> omega) | (simp only [Room, lenS]; omega) | decide | skip) | (refine Stp.go ?_) | (refine WPA.ifT ?_) | (refine WPA.ifF ?_) | ((first | refine WPA.dec ?_); first | refine .inl ⟨by first | assumption | omega | with_reducible rfl | (refine fun h => h ?_; first | assumption | with_reducible rfl) | (simp only [lenS] <;> omega) | decide, ?_⟩ | refine .inr ⟨by first | assumption | omega | with_reducible rfl | (refine fun h => h ?_; first | assumption | with_reducible rfl) | (simp only [lenS] <;> omega) | decide, ?_⟩) | ((first | refine WPA.ifBt ?_ ?_ | refine WPA.ifBnf ?_ ?_); assumption) | ((first | refine WPA.ifBnt ?_ ?_ | refine WPA.ifBf ?_ ?_); assumption) | ((first | refine WPA.ifs ?_ ?_ | refine WPA.ifB ?_ ?_) <;> intro hc))
      refine QQ.loopS (i + 1) ⟨rfl, by rw [htk, hsu]; rfl, rfl, trivial⟩ ⟨hlt, fun x hx => ?_⟩ (by omega) (fun w h => h)
      rw [htk] at hx
      rcases List.mem_append.1 hx with hx | hx
      · exact hj x hx
      · rw [List.mem_singleton.1 hx]; omega
  · have hlt' : ¬ (i : Int) < hs.length := by omega
    rw [List.take_of_length_le (by omega)] at hj ⊢
    repeat' (first | ((first | refine WLA.m rfl rfl ?_ ?_ | refine WLA.st rfl ?_ ?_ | refine WLA.x rfl rfl ?_ (fun x => ?_) | refine WLA.x0 rfl ?_ (fun x => ?_)); first | exact trivial | exact rfl | assumption | omega | (refine ⟨?_, ?_⟩ <;> omega) | (simp only [Room, lenS]; omega) | decide | skip) | (refine Stp.go ?_) | (refine WPA.ifT ?_) | (refine WPA.ifF ?_) | ((first | refine WPA.dec ?_); first | refine .inl ⟨by first | assumption | omega | with_reducible rfl | (refine fun h => h ?_; first | assumption | with_reducible rfl) | (simp only [lenS] <;> omega) | decide, ?_⟩ | refine .inr ⟨by first | assumption | omega | with_reducible rfl | (refine fun h => h ?_; first | assumption | with_reducible rfl) | (simp only [lenS] <;> omega) | decide, ?_⟩) | ((first | refine WPA.ifBt ?_ ?_ | refine WPA.ifBnf ?_ ?_); assumption) | ((first | refine WPA.ifBnt ?_ ?_ | refine WPA.ifBf ?_ ?_); assumption) | ((first | refine WPA.ifs ?_ ?_ | refine WPA.ifB ?_ ?_) <;> intro hc))
    exact QQ.end_ rfl () (congrArg Value.bool (by rw [decide_eq_decide]; exact ⟨fun h => ⟨by omega, hj, by omega⟩, fun h => by have := h.2.2; omega⟩)) fun w h => h
theorem Count_good {s : SV} {hs : List SV} {gs : List (List Int)} {o z : Int} {B f : Nat} [hsl : SlI I s SV inferInstance hs] (hg : GsI I hs gs) (hc : CfOk B z f) (ho : 1 ≤ o ∧ o ≤ 8) (hn : hs.length ≤ 1000) (hl : ∀ g ∈ gs, g.length ≤ 1000) (hall : (eachL gs o).length ≤ 300) (hG : GoodG o (eachL gs o)) :
    Tr Tryz.prog 25 #[.slice s.a s.n s.cap, .int .i64 o, .agg #[.int .i64 B, .int .i64 z, .int .i64 f]] (SL w0 I L)
      (fun y : SV => .tuple #[.slice y.a y.n y.cap, .agg #[.int .i64 (eachL gs o).length, .int .i64 (cntC o z B (eachL gs o)).2.length, .int .i64 (cntR o z B f (eachL gs o)).2.2.1, .int .i64 (cntR o z B f (eachL gs o)).1.peak], .int .i64 0])
      (fun y => SL w0 I (CtsH y (mrg ((eachL gs o).map one)) :: L)) :=
  (Count_tr hg hc ho hn hl hall).conv (fun _ h => h) fun x w h => match x, h with
    | .inl y, h => ⟨y, rfl, h.2⟩
    | .inr _, h => absurd hG h.1
theorem cntC_len {o z : Int} {B : Nat} {all : List (List Int)} (ho : 1 ≤ o ∧ o ≤ 8) (hz : 1 ≤ z ∧ z ≤ 65536) (hB : 0 < B) (hG : GoodG o all) (hn : all.length ≤ 300) : ((cntC o z B all).2.length : Int) = (all.length + B - 1) / B := by
  have := (chF_law (o := o) (z := z) ho hB all.length all rfl (st0 z) [] (TInv.zero hz) hG (by show (0 : Int) + _ ≤ 300; omega)).2.2
  unfold cntC
  rw [this]; show ((0 : Nat) : Int) + _ = _; omega
end
end Go.Proofs.YtamnobjdgjbmbaaGreat
namespace Go.Proofs.YtamnobjdgjbmbaaGreat
open Go Go.Fw Go.RowKit
set_option linter.unusedVariables false
set_option linter.unusedSimpArgs false
set_option maxRecDepth 100000
set_option maxHeartbeats 16000000
set_option synthInstance.maxHeartbeats 200000
set_option synthInstance.maxSize 100000
attribute [local irreducible] WPA WLA WDA WDQ WDE QQ seqQ blockQ loopQ fnQ OpP OpT Tr TrP SL SLd OwnS LitS Bk BkE Ob
def exG : List (List Int) := [[1, 3, 4, 2], [1, 3, 2]]
theorem exG_each : eachL exG 2 = [[1, 3], [3, 4], [4, 2], [1, 3], [3, 2]] := by decide
theorem exG_mrg : mrg ((eachL exG 2).map one) = [([1, 3], 2), ([3, 2], 1), ([3, 4], 1), ([4, 2], 1)] := by rw [exG_each]; decide
theorem exG_good : GoodG 2 (eachL exG 2) := by rw [exG_each]; unfold GoodG; decide
theorem exG_len : (eachL exG 2).length = 5 := by rw [exG_each]; rfl
attribute [local irreducible] vS keyS parL RowH CtsH mrg grp RunsH CntH
section
variable {L L' L1 L2 : List HP} {w0 : World} {I : Foot}
theorem live_tr22 (w0 : World) (I : Foot) (L : List HP) : Tr Tryz.prog 24 #[] (SL w0 I L) (fun _ : Unit => .bool true) (fun _ => SL w0 I L) := by
  refine Tr.intro Tryz.func24 rfl Tryz.ntmps24 rfl ?_
  have hcl := cntC_len (o := 2) (z := 10) (B := 2) (by decide) (by decide) (by decide) exG_good (by rw [exG_len]; decide)
  rw [exG_len] at hcl
  have hc3 : ((cntC 2 10 2 (eachL exG 2)).2.length : Int) = 3 := hcl
  repeat' (first | ((first | refine WLA.m rfl rfl ?_ ?_ | refine WLA.st rfl ?_ ?_ | refine WLA.x rfl rfl ?_ (fun x => ?_) | refine WLA.x0 rfl ?_ (fun x => ?_)); first | exact trivial | exact rfl | assumption | omega | (refine ⟨?_, ?_⟩ <;> omega) | (simp only [Room, lenS]; omega) | decide | skip) | (refine Stp.go ?_) | (refine WPA.ifT ?_) | (refine WPA.ifF ?_) | ((first | refine WPA.dec ?_); first | refine .inl ⟨by first | assumption | omega | with_reducible rfl | (refine fun h => h ?_; first | assumption | with_reducible rfl) | (simp only [lenS] <;> omega) | decide, ?_⟩ | refine .inr ⟨by first | assumption | omega | with_reducible rfl | (refine fun h => h ?_; first | assumption | with_reducible rfl) | (simp only [lenS] <;> omega) | decide, ?_⟩) | ((first | refine WPA.ifBt ?_ ?_ | refine WPA.ifBnf ?_ ?_); assumption) | ((first | refine WPA.ifBnt ?_ ?_ | refine WPA.ifBf ?_ ?_); assumption) | ((first | refine WPA.ifs ?_ ?_ | refine WPA.ifB ?_ ?_) <;> intro hc))
  revert x; intro s7
  revert x; intro s6
  revert x; intro s5
  refine WLA.ent (EntC.out (L' := LitS 42 s7 ([s5, s6] : List SV) :: LitS 3 s6 ([1, 3, 2] : List Int) :: LitS 3 s5 ([1, 3, 4, 2] : List Int) :: L)) ?_
  refine WLA.freeze fun R1 h1 => ?_
  refine WLA.freeze fun R2 h2 => ?_
  refine WLA.freeze fun R3 h3 => ?_
  have i7 : SlI (R3 ++ (R2 ++ (R1 ++ I))) s7 SV inferInstance [s5, s6] := by have := SlI.ofLit h1; infer_instance
  have i6 : SlI (R3 ++ (R2 ++ (R1 ++ I))) s6 Int inferInstance [1, 3, 2] := by have := SlI.ofLit h2; infer_instance
  have i5 : SlI (R3 ++ (R2 ++ (R1 ++ I))) s5 Int inferInstance [1, 3, 4, 2] := by have := SlI.ofLit h3; infer_instance
  have hJ : I ⊆ R3 ++ (R2 ++ (R1 ++ I)) := fun z hz => List.mem_append_right _ (List.mem_append_right _ (List.mem_append_right _ hz))
  clear h1 h2 h3
  generalize R3 ++ (R2 ++ (R1 ++ I)) = J at i7 i6 i5 hJ
  have hg : GsI J [s5, s6] exG := ⟨rfl, fun i hi => by
    rcases (show i = 0 ∨ i = 1 by simp at hi; omega) with rfl | rfl
    · exact i5
    · exact i6⟩
  have hct : ∀ {L : List HP}, Tr Tryz.prog 25 #[.slice s7.a s7.n s7.cap, .int .i64 2, .agg #[.int .i64 2, .int .i64 10, .int .i64 2]] (SL w0 J L)
      (fun y : SV => .tuple #[.slice y.a y.n y.cap, .agg #[.int .i64 5, .int .i64 3, .int .i64 (cntR 2 10 2 2 (eachL exG 2)).2.2.1, .int .i64 (cntR 2 10 2 2 (eachL exG 2)).1.peak], .int .i64 0])
      (fun y => SL w0 J (CtsH y [([1, 3], 2), ([3, 2], 1), ([3, 4], 1), ([4, 2], 1)] :: L)) := fun {L} => by
    have := Count_good (w0 := w0) (L := L) (s := s7) (o := 2) (z := 10) (B := 2) (f := 2) hg (by decide) (by decide) (by simp) (by decide) (by rw [exG_len]; decide) exG_good
    rw [exG_mrg, hc3, exG_len] at this
    exact this
  generalize ((cntR 2 10 2 2 (eachL exG 2)).2.2.1 : Int) = pp at hct
  generalize (cntR 2 10 2 2 (eachL exG 2)).1.peak = pk at hct
  repeat' ((fail_if_success (guard_target =~ WPA _ _ _ (.region 2 _ _) _ _ _)); first | ((first | refine WLA.m rfl rfl ?_ ?_ | refine WLA.st rfl ?_ ?_ | refine WLA.x rfl rfl ?_ (fun x => ?_) | refine WLA.x0 rfl ?_ (fun x => ?_)); first | exact trivial | exact rfl | assumption | omega | (refine ⟨?_, ?_⟩ <;> omega) | (simp only [Room, lenS]; omega) | decide | skip) | (refine Stp.go ?_) | (guard_target =~ WLA _ _ _ _ _ (⟨_, .call ⟨.value (.func 25), _, _⟩, _, _, _, _⟩ :: _) _ _; refine WLA.call rfl rfl (hct) ?_; rintro y) | (refine WPA.ifT ?_) | (refine WPA.ifF ?_) | ((first | refine WPA.dec ?_); first | refine .inl ⟨by first | assumption | omega | with_reducible rfl | (refine fun h => h ?_; first | assumption | with_reducible rfl) | (simp only [lenS] <;> omega) | decide, ?_⟩ | refine .inr ⟨by first | assumption | omega | with_reducible rfl | (refine fun h => h ?_; first | assumption | with_reducible rfl) | (simp only [lenS] <;> omega) | decide, ?_⟩) | ((first | refine WPA.ifBt ?_ ?_ | refine WPA.ifBnf ?_ ?_); assumption) | ((first | refine WPA.ifBnt ?_ ?_ | refine WPA.ifBf ?_ ?_); assumption) | ((first | refine WPA.ifs ?_ ?_ | refine WPA.ifB ?_ ?_) <;> intro hc))
  revert x; intro X2
  refine WPA.ent (EntC.out (L' := CtsH y [([1, 3], 2), ([3, 2], 1), ([3, 4], 1), ([4, 2], 1)] :: Bk X2 66 [.int .i64 5, .int .i64 3, .int .i64 pp, .int .i64 pk] :: L)) ?_
  refine WPA.freeze fun R4 h4 => ?_
  obtain ⟨cs, c1, c2, c3⟩ := (LstI.ofCts h4).sub (J' := R4 ++ J) inferInstance
  have hJ2 : I ⊆ R4 ++ J := fun z hz => List.mem_append_right _ (hJ hz)
  clear h4
  generalize R4 ++ J = V at c1 c3 hJ2
  have hcl : cs.length = 4 := by have := congrArg List.length c2; simpa using this
  have g0 := c3 0 (by omega)
  obtain ⟨q, hq⟩ : ∃ q, at_ cs 0 = q := ⟨_, rfl⟩
  have hq' : at_ cs ((0 : Nat) : Int) = q := hq
  rw [hq'] at g0
  have hq2 : q.2 = 2 := by
    have := congrArg (fun l => l[0]?) c2
    simp only [List.getElem?_map, List.getElem?_eq_getElem (show 0 < cs.length by omega), Option.map_some] at this
    rw [at_nat cs 0 (by omega)] at hq'
    rw [← hq']; injection this
  obtain ⟨qg, qn⟩ := q
  dsimp only at hq2 g0
  subst hq2
  have g1 : SlI V qg Int inferInstance [1, 3] := g0
  have hcl' : (cs.length : Int) = 4 := by omega
  have hir : (0 : Int) ≤ 0 ∧ (0 : Int) < cs.length := by omega
  repeat' (first | ((rw [hcl'])) | ((rw [hq])) | ((first | refine WLA.m rfl rfl ?_ ?_ | refine WLA.st rfl ?_ ?_ | refine WLA.x rfl rfl ?_ (fun x => ?_) | refine WLA.x0 rfl ?_ (fun x => ?_)); first | exact trivial | exact rfl | assumption | omega | (refine ⟨?_, ?_⟩ <;> omega) | (simp only [Room, lenS]; omega) | decide | skip) | (refine Stp.go ?_) | (refine WPA.ifT ?_) | (refine WPA.ifF ?_) | (refine WLA.no rfl rfl ?_) | ((first | refine WPA.dec ?_ | ((fail_if_success (guard_target =~ WLA _ _ _ _ _ _ (put1 _ _ (.bool true)) _)); (fail_if_success (guard_target =~ WLA _ _ _ _ _ _ (put1 _ _ (.bool false)) _)); refine WLA.dec rfl rfl ?_) | refine WLA.pk ?_); first | refine .inl ⟨by first | assumption | omega | with_reducible rfl | (refine fun h => h ?_; first | assumption | with_reducible rfl) | (simp only [lenS] <;> omega) | decide, ?_⟩ | refine .inr ⟨by first | assumption | omega | with_reducible rfl | (refine fun h => h ?_; first | assumption | with_reducible rfl) | (simp only [lenS] <;> omega) | decide, ?_⟩) | ((first | refine WPA.ifBt ?_ ?_ | refine WPA.ifBnf ?_ ?_); assumption) | ((first | refine WPA.ifBnt ?_ ?_ | refine WPA.ifBf ?_ ?_); assumption) | ((first | refine WPA.ifs ?_ ?_ | refine WPA.ifB ?_ ?_) <;> intro hc) | ((fail_if_success (guard_target =~ WLA _ _ _ _ _ _ (put1 _ _ (.bool true)) _)); (fail_if_success (guard_target =~ WLA _ _ _ _ _ _ (put1 _ _ (.bool false)) _)); (first | refine WLA.both rfl rfl ?_ ?_ | refine WLA.bothB rfl rfl ?_ ?_) <;> intro hg))
  exact QQ.end_ rfl () rfl fun w h => (h.to : SL w0 V L w).sub hJ2
end
end Go.Proofs.YtamnobjdgjbmbaaGreat
