/- Texts that PruneStrong_law leans on, part 19. Conditions: none. -/
import Derived.Test.YtcomkdndddkbeaaPu18
namespace Go.Proofs.Ytcomkdndddkbeaa
open Go Go.Fw Go.RowKit
set_option linter.unusedVariables false
set_option linter.unusedSimpArgs false
set_option maxRecDepth 100000
set_option maxHeartbeats 16000000
set_option synthInstance.maxHeartbeats 200000
set_option synthInstance.maxSize 100000
attribute [local irreducible] WPA WLA WDA WDQ WDE QQ seqQ blockQ loopQ fnQ OpP OpT Tr TrP SL SLd OwnS LitS Bk BkE Ob
attribute [local irreducible] TblH VocH GridH RowH RowX RowsE RowE ClM
def flt {α : Type} : List α → List Bool → List α
  | x :: xs, b :: bs => if b = true then x :: flt xs bs else flt xs bs
  | _, _ => []
theorem flt_snoc {α : Type} {x : α} {b : Bool} : ∀ {xs : List α} {bs : List Bool}, xs.length = bs.length → flt (xs ++ [x]) (bs ++ [b]) = flt xs bs ++ (if b = true then [x] else [])
  | [], [], _ => by simp [flt]
  | y :: xs, c :: bs, h => by
    simp only [List.cons_append, flt]
    rw [flt_snoc (by simpa using h)]
    split <;> simp
  | [], c :: bs, h => by simp at h
  | y :: xs, [], h => by simp at h
theorem flt_map {α β : Type} {f : α → β} : ∀ {xs : List α} {bs : List Bool}, (flt xs bs).map f = flt (xs.map f) bs
  | [], [] => rfl
  | y :: xs, c :: bs => by
    simp only [List.map_cons, flt]
    split
    · rw [List.map_cons, flt_map]
    · exact flt_map
  | [], c :: bs => rfl
  | y :: xs, [] => rfl
theorem flt_sub {α : Type} : ∀ {xs : List α} {bs : List Bool}, (flt xs bs).Sublist xs
  | [], [] => .slnil
  | y :: xs, c :: bs => by
    simp only [flt]
    split
    · exact flt_sub.cons_cons y
    · exact flt_sub.cons y
  | [], c :: bs => .slnil
  | y :: xs, [] => by simp [flt]
def fltM (A : List (List EV)) (bss : List (List Bool)) : List (List EV) := List.zipWith flt A bss
theorem fltM_get {A : List (List EV)} {bss : List (List Bool)} {k : Nat} {es : List EV} {bs : List Bool} (h1 : A[k]? = some es) (h2 : bss[k]? = some bs) : (fltM A bss)[k]? = some (flt es bs) := by
  unfold fltM; rw [List.getElem?_zipWith, h1, h2]
theorem LstE.of {J : Foot} {v : SV} {cs : List En} {kg : SV → List Int} (h1 : SlI J v En inferInstance cs) (h2 : EnG J kg cs) : LstE J v (enV kg cs) := by
  refine ⟨cs, h1, by unfold enV; simp [List.map_map, Function.comp_def], fun i hi => ?_⟩
  have := h2 _ (List.getElem_mem hi)
  rw [List.getD_eq_getElem?_getD]
  unfold enV
  rw [List.getElem?_map, List.getElem?_eq_getElem hi, at_nat _ i hi]
  exact this
section
variable {kg : SV → List Int} {re : SV → List En} {I : Foot}
theorem MdI.toR {wv g : SV} {ws : List ByteArray} {gr : List SV} (h : MdI I kg re wv g ws gr) : MdR I kg re wv g ws gr := ⟨h.words, h.grams, h.rows, h.elems, h.wsz⟩
theorem MdI.fewA {wv g : SV} {ws : List ByteArray} {gr : List SV} (h : MdI I kg re wv g ws gr) : FewA ws (gr.map fun h => enV kg (re h)) := by
  refine ⟨⟨h.wln, by rw [List.length_map]; exact h.gln⟩, fun es hes => ?_⟩
  obtain ⟨v, hv, rfl⟩ := List.mem_map.1 hes
  refine ⟨by unfold enV; rw [List.length_map]; exact h.rln v hv, fun e he => ?_⟩
  unfold enV at he
  obtain ⟨p, hp, rfl⟩ := List.mem_map.1 he
  exact h.kln v hv p hp
end
structure MS where
  k : Nat
  vs : List SV
  J : Foot
section
variable {kg : SV → List Int} {re : SV → List En} {cn : SV → List Bool} {L : List HP} {w0 : World} {I : Foot}
theorem WPA.knowI {ro : Option Nat} {P : Program} {n : Nat} {Q : Hnd} {ρ : Env} {c : Code} {φ : Prop} (h : ∀ w, SL w0 I L w → φ) (k : φ → WPA ro P n c Q ρ (SL w0 I L)) : WPA ro P n c Q ρ (SL w0 I L) := WPA.know h k
theorem Model_ok {fr : Int} {wv g c : SV} {ws : List ByteArray} {gr ks : List SV} (hM : MdI I kg re wv g ws gr) (hck : chkM kg re fr ws gr = 0) (hc : SlI I c SV inferInstance ks) (hC : ∀ h ∈ ks, SlI I h Bool inferInstance (cn h)) (hF : FitP re gr ks fun h => (cn h).length) :
    Tr Try.prog 9 #[.agg #[.int .i64 fr, .slice wv.a wv.n wv.cap, .slice g.a g.n g.cap], .slice c.a c.n c.cap] (SL w0 I L) (fun x : SV × SV × Foot => .tuple #[.agg #[.int .i64 fr, .slice x.1.a x.1.n x.1.cap, .slice x.2.1.a x.2.1.n x.2.1.cap], .int .i64 0])
      (fun x w => (SubI x.2.2 I ∧ MdL x.2.2 x.1 x.2.1 ws (fltM (gr.map fun h => enV kg (re h)) (chS re gr (ndK kg re gr cn ks)))) ∧ SL w0 x.2.2 L w) := by
  refine Tr.intro Try.func9 rfl Try.ntmps9 rfl ?_
  have ha := hM.toR.toL
  have fa := hM.fewA
  have hNd := fun {L : List HP} => Needed_ok (L := L) (w0 := w0) hM hck hc hC hF
  have hbs : ∀ k : Nat, k < gr.length → ∃ bs : List Bool, (chS re gr (ndK kg re gr cn ks))[k]? = some bs ∧ bs.length = (re (at_ gr (k : Int))).length := fun k hk => ⟨_, chS_get hk, by simp [chR]⟩
  have hbn : (chS re gr (ndK kg re gr cn ks)).length = gr.length := chS_len
  generalize chS re gr (ndK kg re gr cn ks) = bss at hNd hbs hbn
  have hAn : (gr.map fun h => enV kg (re h)).length = gr.length := List.length_map _
  have hAl : ∀ k : Nat, k < gr.length → ∃ es : List EV, (gr.map fun h => enV kg (re h))[k]? = some es ∧ es.length = (re (at_ gr (k : Int))).length ∧ es.length ≤ 1000000 := fun k hk => by
    refine ⟨_, by rw [List.getElem?_map, List.getElem?_eq_getElem hk]; rfl, ?_⟩
    rw [← at_nat gr k hk]
    have := hM.rln (at_ gr (k : Int)) (by rw [at_nat gr k hk]; exact List.getElem_mem _)
    unfold enV; rw [List.length_map]; exact ⟨rfl, this⟩
  generalize (gr.map fun h => enV kg (re h)) = A at ha fa hAn hAl
  have hgn := hM.gln
  generalize hn : gr.length = n at hgn hAn hAl hbs hbn
  repeat' ((fail_if_success (guard_target =~ WPA _ _ _ (.region 5 _ _) _ _ _)); first | ((first | refine WLA.m rfl rfl ?_ ?_ | refine WLA.st rfl ?_ ?_ | refine WLA.x rfl rfl ?_ (fun x => ?_) | refine WLA.x0 rfl ?_ (fun x => ?_)); first | exact trivial | exact rfl | assumption | omega | (refine ⟨?_, ?_⟩ <;> omega) | (simp only [Room, List.length_set, List.length_append, List.length_cons, List.length_nil, List.length_replicate]; omega) | decide | skip) | (refine Stp.go ?_) | (guard_target =~ WLA _ _ _ _ _ (⟨_, .call ⟨.value (.func 8), _, _⟩, _, _, _, _⟩ :: _) _ _; first | (refine WLA.call rfl rfl (hNd) ?_; rintro a) | (refine WLA.call0 rfl (hNd) ?_; rintro a)) | (guard_target =~ WLA _ _ _ _ _ (⟨_, .call ⟨.value (.func 28), _, _⟩, _, _, _, _⟩ :: _) _ _; first | (refine WLA.call rfl rfl (mClone_trI ha fa) ?_; rintro ⟨cw, cg⟩; dsimp only) | (refine WLA.call0 rfl (mClone_trI ha fa) ?_; rintro ⟨cw, cg⟩; dsimp only)) | (refine WPA.ifT ?_) | (refine WPA.ifF ?_) | ((first | refine WPA.dec ?_); first | refine .inl ⟨by first | assumption | omega | with_reducible rfl | (refine fun h => h ?_; first | assumption | with_reducible rfl) | (simp only [List.length_append, List.length_cons, List.length_nil, List.length_set] <;> omega) | decide, ?_⟩ | refine .inr ⟨by first | assumption | omega | with_reducible rfl | (refine fun h => h ?_; first | assumption | with_reducible rfl) | (simp only [List.length_append, List.length_cons, List.length_nil, List.length_set] <;> omega) | decide, ?_⟩) | ((first | refine WPA.ifBt ?_ ?_ | refine WPA.ifBnf ?_ ?_); assumption) | ((first | refine WPA.ifBnt ?_ ?_ | refine WPA.ifBf ?_ ?_); assumption) | ((first | refine WPA.ifs ?_ ?_ | refine WPA.ifB ?_ ?_) <;> intro hc))
  rename_i t2 t4
  revert x; intro t8
  refine WPA.ent (EntC.out (L' := ClM cw (cg, ws, A) :: GridH a bss :: Bk t8 25 [.int .i64 fr, .slice cw.a cw.n cw.cap, .slice cg.a cg.n cg.cap] :: Bk t4 25 [.int .i64 0, .slice none 0 0, .slice none 0 0] :: L)) ?_
  refine WPA.clm fun vs hvl => ?_
  refine WPA.freeze fun R1 h1 => ?_
  refine WPA.ent (EntC.out (L' := RowsE vs A :: GridH a bss :: OwnS 36 cg vs :: Bk t8 25 [.int .i64 fr, .slice cw.a cw.n cw.cap, .slice cg.a cg.n cg.cap] :: Bk t4 25 [.int .i64 0, .slice none 0 0, .slice none 0 0] :: L)) ?_
  refine WPA.freeze fun R2 h2 => ?_
  refine WPA.freeze fun R3 h3 => ?_
  have hs : SubI (R3 ++ (R2 ++ (R1 ++ I))) I := inferInstance
  have hsw : SlI (R3 ++ (R2 ++ (R1 ++ I))) cw ByteArray inferInstance ws := by have := SlI.ofOwn h1; infer_instance
  have hgd : GdI (R3 ++ (R2 ++ (R1 ++ I))) a bss := h3.gd ⟨fun _ h => List.mem_append_left _ h⟩
  have hrw : ∀ k : Nat, k < n → LstE (R3 ++ (R2 ++ (R1 ++ I))) (at_ vs (k : Int)) (A.getD k []) := fun k hk => by
    have := RowsE.lst h2 hvl (J := R3 ++ (R2 ++ (R1 ++ I))) ⟨fun _ h => List.mem_append_right _ (List.mem_append_left _ h)⟩ k (by omega) (by omega)
    rw [at_nat vs k (by omega), List.getD_eq_getElem?_getD, List.getElem?_eq_getElem (show k < A.length by omega)]
    exact this
  generalize R3 ++ (R2 ++ (R1 ++ I)) = J at hs hsw hgd hrw
  clear h1 h2 h3
  have hvn : vs.length = n := by omega
  repeat' (first | ((first | refine WLA.m rfl rfl ?_ ?_ | refine WLA.st rfl ?_ ?_ | refine WLA.x rfl rfl ?_ (fun x => ?_) | refine WLA.x0 rfl ?_ (fun x => ?_)); first | exact trivial | exact rfl | assumption | omega | (refine ⟨?_, ?_⟩ <;> omega) | (simp only [Room, List.length_set, List.length_append, List.length_cons, List.length_nil, List.length_replicate]; omega) | decide | skip) | (refine Stp.go ?_) | (refine WPA.ifT ?_) | (refine WPA.ifF ?_) | ((first | refine WPA.dec ?_); first | refine .inl ⟨by first | assumption | omega | with_reducible rfl | (refine fun h => h ?_; first | assumption | with_reducible rfl) | (simp only [List.length_append, List.length_cons, List.length_nil, List.length_set] <;> omega) | decide, ?_⟩ | refine .inr ⟨by first | assumption | omega | with_reducible rfl | (refine fun h => h ?_; first | assumption | with_reducible rfl) | (simp only [List.length_append, List.length_cons, List.length_nil, List.length_set] <;> omega) | decide, ?_⟩) | ((first | refine WPA.ifBt ?_ ?_ | refine WPA.ifBnf ?_ ?_); assumption) | ((first | refine WPA.ifBnt ?_ ?_ | refine WPA.ifBf ?_ ?_); assumption) | ((first | refine WPA.ifs ?_ ?_ | refine WPA.ifB ?_ ?_) <;> intro hc))
  refine WPA.loopS (σ := MS) (fun y => [(4, .pointer (some ⟨t4, 0, none⟩)), (5, .int .i64 0), (6, .slice a.a a.n a.cap), (8, .pointer (some ⟨t8, 0, none⟩)), (27, .int .i64 vs.length), (28, .int .i64 y.k)])
    (fun y => (y.k ≤ n ∧ y.vs.length = n) ∧ SubI y.J J ∧ ∀ j : Nat, j < n → LstE y.J (at_ y.vs (j : Int)) (if j < y.k then (fltM A bss).getD j [] else A.getD j []))
    (fun y => SL w0 y.J (OwnS 36 cg y.vs :: Bk t8 25 [.int .i64 fr, .slice cw.a cw.n cw.cap, .slice cg.a cg.n cg.cap] :: Bk t4 25 [.int .i64 0, .slice none 0 0, .slice none 0 0] :: L)) (fun y => n - y.k) ⟨0, vs, J⟩ ⟨rfl, rfl, rfl, rfl, rfl, rfl, trivial⟩ ⟨⟨Nat.zero_le _, hvn⟩, inferInstance, fun j hj => by rw [if_neg (Nat.not_lt_zero _)]; exact hrw j hj⟩ (fun w h => h.to) ?_
  rintro ⟨k, us, J2⟩ ρ ⟨⟨hk, hul⟩, hs2, hls⟩
  dsimp only at hk hul hs2 hls ⊢
  by_cases hkl : k < n
  · have hkl' : (k : Int) < vs.length := by omega
    have hku : (k : Int) < us.length := by omega
    obtain ⟨bs, b1, b2⟩ := hbs k hkl
    obtain ⟨es, a1, a2, a3⟩ := hAl k hkl
    have hbe := fltM_get a1 b1
    have hlk := hls k hkl
    rw [if_neg (Nat.lt_irrefl _), getD_some a1] at hlk
    obtain ⟨svs, d1, d2, d3⟩ := hgd.sub hs2
    have d4 := d3 k (by omega)
    rw [getD_some b1] at d4
    have hka : (k : Int) < svs.length := by omega
    refine WPA.knowI (fun w hw => hlk.nst hw) fun hnst => ?_
    obtain ⟨⟨p1, p2⟩, p3⟩ := hnst
    generalize rd En J2 (at_ us (k : Int)) = cs at p1 p2 p3
    have hcl : cs.length = es.length := by rw [← p3]; unfold enV; simp
    repeat' (first | ((first | refine WLA.m rfl rfl ?_ ?_ | refine WLA.st rfl ?_ ?_ | refine WLA.x rfl rfl ?_ (fun x => ?_) | refine WLA.x0 rfl ?_ (fun x => ?_)); first | exact trivial | exact rfl | assumption | omega | (refine ⟨?_, ?_⟩ <;> omega) | (simp only [Room, List.length_set, List.length_append, List.length_cons, List.length_nil, List.length_replicate]; omega) | decide | skip) | (refine Stp.go ?_) | (refine WPA.ifT ?_) | (refine WPA.ifF ?_) | ((first | refine WPA.dec ?_); first | refine .inl ⟨by first | assumption | omega | with_reducible rfl | (refine fun h => h ?_; first | assumption | with_reducible rfl) | (simp only [List.length_append, List.length_cons, List.length_nil, List.length_set] <;> omega) | decide, ?_⟩ | refine .inr ⟨by first | assumption | omega | with_reducible rfl | (refine fun h => h ?_; first | assumption | with_reducible rfl) | (simp only [List.length_append, List.length_cons, List.length_nil, List.length_set] <;> omega) | decide, ?_⟩) | ((first | refine WPA.ifBt ?_ ?_ | refine WPA.ifBnf ?_ ?_); assumption) | ((first | refine WPA.ifBnt ?_ ?_ | refine WPA.ifBf ?_ ?_); assumption) | ((first | refine WPA.ifs ?_ ?_ | refine WPA.ifB ?_ ?_) <;> intro hc))
    refine WPA.loopS (σ := IS) (fun y => [(4, .pointer (some ⟨t4, 0, none⟩)), (5, .int .i64 0), (6, .slice a.a a.n a.cap), (8, .pointer (some ⟨t8, 0, none⟩)), (27, .int .i64 vs.length), (28, .int .i64 k), (9, .int .i64 k), (10, .slice y.cur.a y.cur.n y.cur.cap), (35, .slice (at_ us (k : Int)).a (at_ us (k : Int)).n (at_ us (k : Int)).cap), (36, .int .i64 cs.length), (37, .int .i64 y.i)])
      (fun y => y.i ≤ cs.length ∧ y.cs = flt (cs.take y.i) (bs.take y.i))
      (fun y => SL w0 J2 (OwnS 54 y.cur y.cs :: OwnS 36 cg us :: Bk t8 25 [.int .i64 fr, .slice cw.a cw.n cw.cap, .slice cg.a cg.n cg.cap] :: Bk t4 25 [.int .i64 0, .slice none 0 0, .slice none 0 0] :: L)) (fun y => cs.length - y.i) ⟨0, SV.nil, []⟩ ⟨rfl, rfl, rfl, rfl, rfl, rfl, rfl, rfl, rfl, rfl, rfl, trivial⟩ ⟨Nat.zero_le _, rfl⟩ (fun w h => h.to) ?_
    rintro ⟨i, cur, cs2⟩ ρ ⟨hi, hc2⟩
    dsimp only at hi hc2 ⊢
    have hc2l : cs2.length ≤ cs.length := by
      rw [hc2]; exact Nat.le_trans flt_sub.length_le (by rw [List.length_take]; omega)
    by_cases hil : i < cs.length
    · have hil' : (i : Int) < cs.length := by omega
      have hib : (i : Int) < bs.length := by omega
      have t1 : cs.take (i + 1) = cs.take i ++ [at_ cs (i : Int)] := take_one (by rw [List.getElem?_eq_getElem hil, at_nat cs i hil])
      have t2' : bs.take (i + 1) = bs.take i ++ [at_ bs (i : Int)] := take_one (by rw [List.getElem?_eq_getElem (show i < bs.length by omega), at_nat bs i (by omega)])
      have hf := flt_snoc (x := at_ cs (i : Int)) (b := at_ bs (i : Int)) (xs := cs.take i) (bs := bs.take i) (by rw [List.length_take, List.length_take]; omega)
      rw [← t1, ← t2', ← hc2] at hf
      generalize hP : at_ cs (i : Int) = p at hf
      obtain ⟨pG, pP, pB⟩ := p
      by_cases hbi : at_ bs (i : Int) = true
      · rw [if_pos hbi] at hf
        repeat' (first | ((rw [hP]; dsimp only)) | ((rw [hbi])) | ((first | refine WLA.m rfl rfl ?_ ?_ | refine WLA.st rfl ?_ ?_ | refine WLA.x rfl rfl ?_ (fun x => ?_) | refine WLA.x0 rfl ?_ (fun x => ?_)); first | exact trivial | exact rfl | assumption | omega | (refine ⟨?_, ?_⟩ <;> omega) | (simp only [Room, List.length_set, List.length_append, List.length_cons, List.length_nil, List.length_replicate]; omega) | decide | skip) | (refine Stp.go ?_) | (refine WPA.ifT ?_) | (refine WPA.ifF ?_) | ((first | refine WPA.dec ?_); first | refine .inl ⟨by first | assumption | omega | with_reducible rfl | (refine fun h => h ?_; first | assumption | with_reducible rfl) | (simp only [List.length_append, List.length_cons, List.length_nil, List.length_set] <;> omega) | decide, ?_⟩ | refine .inr ⟨by first | assumption | omega | with_reducible rfl | (refine fun h => h ?_; first | assumption | with_reducible rfl) | (simp only [List.length_append, List.length_cons, List.length_nil, List.length_set] <;> omega) | decide, ?_⟩) | ((first | refine WPA.ifBt ?_ ?_ | refine WPA.ifBnf ?_ ?_); assumption) | ((first | refine WPA.ifBnt ?_ ?_ | refine WPA.ifBf ?_ ?_); assumption) | ((first | refine WPA.ifs ?_ ?_ | refine WPA.ifB ?_ ?_) <;> intro hc))
        exact QQ.loopS ⟨i + 1, x, cs2 ++ [(pG, pP, pB)]⟩ ⟨rfl, rfl, rfl, rfl, rfl, rfl, rfl, rfl, rfl, rfl, rfl, trivial⟩ ⟨hil, hf.symm⟩ (by dsimp only; omega) (fun w h => h.to)
      · rw [if_neg hbi, List.append_nil] at hf
        have hbi' : at_ bs (i : Int) = false := by simpa using hbi
        repeat' (first | ((rw [hP]; dsimp only)) | ((rw [hbi'])) | ((first | refine WLA.m rfl rfl ?_ ?_ | refine WLA.st rfl ?_ ?_ | refine WLA.x rfl rfl ?_ (fun x => ?_) | refine WLA.x0 rfl ?_ (fun x => ?_)); first | exact trivial | exact rfl | assumption | omega | (refine ⟨?_, ?_⟩ <;> omega) | (simp only [Room, List.length_set, List.length_append, List.length_cons, List.length_nil, List.length_replicate]; omega) | decide | skip) | (refine Stp.go ?_) | (refine WPA.ifT ?_) | (refine WPA.ifF ?_) | ((first | refine WPA.dec ?_); first | refine .inl ⟨by first | assumption | omega | with_reducible rfl | (refine fun h => h ?_; first | assumption | with_reducible rfl) | (simp only [List.length_append, List.length_cons, List.length_nil, List.length_set] <;> omega) | decide, ?_⟩ | refine .inr ⟨by first | assumption | omega | with_reducible rfl | (refine fun h => h ?_; first | assumption | with_reducible rfl) | (simp only [List.length_append, List.length_cons, List.length_nil, List.length_set] <;> omega) | decide, ?_⟩) | ((first | refine WPA.ifBt ?_ ?_ | refine WPA.ifBnf ?_ ?_); assumption) | ((first | refine WPA.ifBnt ?_ ?_ | refine WPA.ifBf ?_ ?_); assumption) | ((first | refine WPA.ifs ?_ ?_ | refine WPA.ifB ?_ ?_) <;> intro hc))
        exact QQ.loopS ⟨i + 1, cur, cs2⟩ ⟨rfl, rfl, rfl, rfl, rfl, rfl, rfl, rfl, rfl, rfl, rfl, trivial⟩ ⟨hil, hf.symm⟩ (by dsimp only; omega) (fun w h => h.to)
    · have hil' : ¬ (i : Int) < cs.length := by omega
      rw [List.take_of_length_le (by omega), List.take_of_length_le (by omega)] at hc2
      subst hc2
      repeat' (first | ((first | refine WLA.m rfl rfl ?_ ?_ | refine WLA.st rfl ?_ ?_ | refine WLA.x rfl rfl ?_ (fun x => ?_) | refine WLA.x0 rfl ?_ (fun x => ?_)); first | exact trivial | exact rfl | assumption | omega | (refine ⟨?_, ?_⟩ <;> omega) | (simp only [Room, List.length_set, List.length_append, List.length_cons, List.length_nil, List.length_replicate]; omega) | decide | skip) | (refine Stp.go ?_) | (refine WPA.ifT ?_) | (refine WPA.ifF ?_) | ((first | refine WPA.dec ?_); first | refine .inl ⟨by first | assumption | omega | with_reducible rfl | (refine fun h => h ?_; first | assumption | with_reducible rfl) | (simp only [List.length_append, List.length_cons, List.length_nil, List.length_set] <;> omega) | decide, ?_⟩ | refine .inr ⟨by first | assumption | omega | with_reducible rfl | (refine fun h => h ?_; first | assumption | with_reducible rfl) | (simp only [List.length_append, List.length_cons, List.length_nil, List.length_set] <;> omega) | decide, ?_⟩) | ((first | refine WPA.ifBt ?_ ?_ | refine WPA.ifBnf ?_ ?_); assumption) | ((first | refine WPA.ifBnt ?_ ?_ | refine WPA.ifBf ?_ ?_); assumption) | ((first | refine WPA.ifs ?_ ?_ | refine WPA.ifB ?_ ?_) <;> intro hc))
      refine QQ.ent (EntC.out (L' := OwnS 54 cur (flt cs bs) :: OwnS 36 cg (us.set (k : Int).toNat cur) :: Bk t8 25 [.int .i64 fr, .slice cw.a cw.n cw.cap, .slice cg.a cg.n cg.cap] :: Bk t4 25 [.int .i64 0, .slice none 0 0, .slice none 0 0] :: L)) ?_
      refine QQ.freeze fun R hR => ?_
      refine QQ.loopS ⟨k + 1, us.set (k : Int).toNat cur, R ++ J2⟩ ⟨rfl, rfl, rfl, rfl, rfl, rfl, trivial⟩ ⟨⟨hkl, by dsimp only; rw [List.length_set]; exact hul⟩, inferInstance, fun j hj => ?_⟩ (by dsimp only; omega) (fun w h => h.to)
      dsimp only
      rw [show (k : Int).toNat = k from rfl]
      by_cases hjk : j = k
      · subst hjk
        rw [at_set (by omega), if_pos (by omega), getD_some hbe, ← p3]
        have e : flt (enV (rd Int J2) cs) bs = enV (rd Int J2) (flt cs bs) := flt_map.symm
        rw [e]
        have := SlI.ofOwn hR
        exact LstE.of (J := R ++ J2) SlI.left fun p hp => (p2 p (flt_sub.subset hp)).sub
      · rw [at_nat _ j (by rw [List.length_set]; omega), List.getElem_set_ne (by omega), ← at_nat us j (by omega)]
        have := (hls j hj).sub (J' := R ++ J2) inferInstance
        by_cases hjl : j < k
        · rw [if_pos hjl] at this; rwa [if_pos (by omega)]
        · rw [if_neg hjl] at this; rwa [if_neg (by omega)]
  · have hkl' : ¬ (k : Int) < vs.length := by omega
    have hkn : k = n := by omega
    subst hkn
    repeat' (first | ((first | refine WLA.m rfl rfl ?_ ?_ | refine WLA.st rfl ?_ ?_ | refine WLA.x rfl rfl ?_ (fun x => ?_) | refine WLA.x0 rfl ?_ (fun x => ?_)); first | exact trivial | exact rfl | assumption | omega | (refine ⟨?_, ?_⟩ <;> omega) | (simp only [Room, List.length_set, List.length_append, List.length_cons, List.length_nil, List.length_replicate]; omega) | decide | skip) | (refine Stp.go ?_) | (refine WPA.ifT ?_) | (refine WPA.ifF ?_) | ((first | refine WPA.dec ?_); first | refine .inl ⟨by first | assumption | omega | with_reducible rfl | (refine fun h => h ?_; first | assumption | with_reducible rfl) | (simp only [List.length_append, List.length_cons, List.length_nil, List.length_set] <;> omega) | decide, ?_⟩ | refine .inr ⟨by first | assumption | omega | with_reducible rfl | (refine fun h => h ?_; first | assumption | with_reducible rfl) | (simp only [List.length_append, List.length_cons, List.length_nil, List.length_set] <;> omega) | decide, ?_⟩) | ((first | refine WPA.ifBt ?_ ?_ | refine WPA.ifBnf ?_ ?_); assumption) | ((first | refine WPA.ifBnt ?_ ?_ | refine WPA.ifBf ?_ ?_); assumption) | ((first | refine WPA.ifs ?_ ?_ | refine WPA.ifB ?_ ?_) <;> intro hc))
    refine QQ.ent (EntC.out (L' := OwnS 36 cg us :: Bk t4 25 [.int .i64 fr, .slice cw.a cw.n cw.cap, .slice cg.a cg.n cg.cap] :: L)) ?_
    refine QQ.freeze fun R hR => ?_
    refine QQ.endc rfl (cw, cg, R ++ J2) rfl fun w h => ⟨⟨⟨fun z hz => List.mem_append_right _ (hs2.out (hs.out hz))⟩, ?_⟩, h.to⟩
    have h4 := SlI.ofOwn hR
    have hBl : (fltM A bss).length = k := by unfold fltM; rw [List.length_zipWith]; omega
    refine ⟨SlI.right (h := hsw.sub), us, SlI.left, by omega, fun j hj => ?_⟩
    have := (hls j (by omega)).sub (J' := R ++ J2) inferInstance
    rwa [if_pos (by omega)] at this
end
end Go.Proofs.Ytcomkdndddkbeaa
namespace Go.Fw
open Go Go.RowKit
set_option linter.unusedVariables false
set_option linter.unusedSimpArgs false
theorem run_clip {P : Program} {n cap : Nat} {k1 k2 : IntKind} (h : n ≤ cap) (w : World) : (Instr.sliceBounds true n cap none (some (.int k1 n)) (some (.int k2 n))).run P w = .ok (0, n, n) w := by
  have e1 : ¬ ((n : Int) < 0) := by omega
  have e2 : (n : Int) ≤ (cap : Int) := by omega
  simp [Instr.sliceBounds, Instr.sliceBound, asIntOf, e1, e2, h, go_sem]
def clipV (s : SV) : SV := ⟨s.a, s.n, s.n⟩
section
variable {P : Program} {ρ : Env} {A : World → Prop} {ty : TypeId} {w0 : World} {I : Foot} {L : List HP}
instance {x hi mx : Operand} {t el : TypeId} {s : SV} {h m : Int} {k1 k2 : IntKind} {sz bytes : Nat} {z : List Value} {α : Type} {en : Enc α} {xs : List α} [hx : Ev ρ x (.slice s.a s.n s.cap)] [ht : Und P t (.slice el)] [hz : Inf P el z sz bytes] [hA : InSL A w0 I L] [hr : RdS I L s α en xs] [hh : Ev ρ hi (.int k1 h)] [hm : Ev ρ mx (.int k2 m)] :
    OpM P ρ A (.slice t x none (some hi) (some mx)) ty (.slice (clipV s).a (clipV s).n (clipV s).cap) (h = xs.length ∧ m = xs.length) := ⟨fun hb d pos af g w hw => by
  have hw' := hr.out w0 w (hA.out w hw)
  obtain ⟨inf, hinf, hz'⟩ := Option.map_eq_some_iff.1 hz.size
  have hn := hw'.len
  have hc := hw'.cap
  have hb' := run_clip (P := P) (k1 := k1) (k2 := k2) hc w
  have hs : (Go.sizeOf el).run P w = .ok sz w := by simp [Go.sizeOf, typeInfo, hinf, hz', go_sem]
  have e1 : evalE ρ hi = .int k1 (s.n : Int) := by rw [hh.out, hb.1, hn]
  have e2 : evalE ρ mx = .int k2 (s.n : Int) := by rw [hm.out, hb.2, hn]
  have ea : (if s.n = 0 then s.a else s.a.map (fun a => a.add (0 * sz))) = s.a := by
    rcases hw'.plain with h0 | ⟨b, o, h0⟩
    · rw [if_pos h0]
    · rw [h0]
      split
      · rfl
      · simp only [Option.map_some, Nat.zero_mul]; unfold Addr.add; split <;> simp_all
  simp only [execOp, Instr.sliceAt, Instr.slice, hx.out, Sem.run_bind, run_underlying ht.out, Result.andThen_ok, Option.map_none, Option.map_some, e1, e2, hb', hs, Sem.run_pure, Nat.sub_zero, ea, clipV]⟩
end
end Go.Fw
namespace Go.Proofs.Ytcomkdndddkbeaa
open Go Go.Fw Go.RowKit
set_option linter.unusedVariables false
set_option linter.unusedSimpArgs false
set_option maxRecDepth 100000
set_option maxHeartbeats 16000000
set_option synthInstance.maxHeartbeats 200000
set_option synthInstance.maxSize 100000
attribute [local irreducible] WPA WLA WDA WDQ WDE QQ seqQ blockQ loopQ fnQ OpP OpT Tr TrP SL SLd OwnS LitS Bk BkE Ob
theorem RowsE.split : ∀ {s1 s2 : List SV} {A1 A2 : List (List EV)} {L : List HP}, s1.length = A1.length → Ent (RowsE (s1 ++ s2) (A1 ++ A2) :: L) (RowsE s1 A1 :: RowsE s2 A2 :: L)
  | [], s2, [], t2, L, _ => Ent.intro1 rfl
  | s :: s1, s2, t :: t1, t2, L, h => by
    simp only [List.cons_append, RowsE]
    refine Ent.unstar.trans ?_
    refine (Ent.cons (RowsE.split (by simpa using h))).trans ?_
    exact Ent.star Ent.refl
  | [], s2, t :: t1, t2, L, h => by simp at h
  | s :: s1, s2, [], t2, L, h => by simp at h
theorem RowsE.first {vs : List SV} {A : List (List EV)} {L : List HP} (m : Nat) (hi : m < vs.length) (hl : vs.length = A.length) :
    Ent (RowsE vs A :: L) (RowsE (vs.take m) (A.take m) :: RowE (vs[m]) (A[m]'(by omega)) :: L) := by
  have e1 : vs = vs.take m ++ vs[m] :: vs.drop (m + 1) := by rw [List.getElem_cons_drop, List.take_append_drop]
  have e2 : A = A.take m ++ A[m] :: A.drop (m + 1) := by rw [List.getElem_cons_drop, List.take_append_drop]
  have h0 : Ent (RowsE vs A :: L) (RowsE (vs.take m ++ vs[m] :: vs.drop (m + 1)) (A.take m ++ A[m] :: A.drop (m + 1)) :: L) := by rw [← e1, ← e2]; exact Ent.refl
  refine h0.trans ((RowsE.split (by simp; omega)).trans (Ent.cons ?_))
  exact Ent.unstar.trans (Ent.cons Ent.drop1)
attribute [local irreducible] TblH VocH GridH RowH RowX RowsE RowE ClM
end Go.Proofs.Ytcomkdndddkbeaa
namespace Go.Proofs.Ytcomkdndddkbeaa
open Go Go.Fw Go.RowKit
set_option linter.unusedVariables false
set_option linter.unusedSimpArgs false
set_option maxRecDepth 100000
set_option maxHeartbeats 16000000
set_option synthInstance.maxHeartbeats 200000
set_option synthInstance.maxSize 100000
attribute [local irreducible] WPA WLA WDA WDQ WDE QQ seqQ blockQ loopQ fnQ OpP OpT Tr TrP SL SLd OwnS LitS Bk BkE Ob
theorem firstN_all {f : Nat → Int} : ∀ {n : Nat}, (∀ i, i < n → f i = 0) → firstN f n = 0
  | 0, _ => rfl
  | n + 1, h => by rw [firstN_succ (firstN_all fun i hi => h i (by omega))]; exact h n (by omega)
structure ValA (fr : Int) (ws : List ByteArray) (A : List (List EV)) : Prop where
  hf : ¬ (fr < 0 ∨ 12 < fr)
  h8 : 1 ≤ A.length ∧ A.length ≤ 8
  hw : ofE ws = 0
  ent : ∀ k : Nat, k < A.length → ∀ e ∈ A.getD k [], entE e.2 e.1.1 e.1.2 ((k : Int) + 1) ws.length (decide ((k : Int) = (A.length : Int) - 1)) = 0
  ris : ∀ k : Nat, k < A.length → ((A.getD k []).map (·.2)).Pairwise ltL
  pre : ∀ k : Nat, 0 < k → k < A.length → ∀ e ∈ A.getD k [], e.2.take k ∈ (A.getD (k - 1) []).map (·.2)
  wds : (A.getD 0 []).length = ws.length
section
variable {kg : SV → List Int} {re : SV → List En} {fr : Int} {ws : List ByteArray} {gr : List SV}
theorem rows_get {k : Nat} (hk : k < gr.length) : (gr.map fun h => enV kg (re h)).getD k [] = enV kg (re (at_ gr (k : Int))) := getD_some (by rw [List.getElem?_map, List.getElem?_eq_getElem hk, at_nat gr k hk]; rfl)
theorem en_map {es : List En} : (enV kg es).map (·.2) = es.map fun p => kg p.1 := by unfold enV; rw [List.map_map]; rfl
theorem en_at {es : List En} {i : Nat} (hi : i < es.length) : (enV kg es)[i]? = some ((at_ es (i : Int)).2, kg (at_ es (i : Int)).1) := by unfold enV; rw [List.getElem?_map, List.getElem?_eq_getElem hi, at_nat es i hi]; rfl
theorem val_chkM (h : ValA fr ws (gr.map fun h => enV kg (re h))) : chkM kg re fr ws gr = 0 := by
  obtain ⟨hf, h8, hw, he, hr, hp, hd⟩ := h
  rw [List.length_map] at h8
  unfold chkM
  rw [if_neg (by rintro (h | h | h | h); exact hf (.inl h); exact hf (.inr h); omega; omega), if_neg (fun hh => hh hw)]
  refine firstN_all fun k hk => ?_
  have hk' : k < (gr.map fun h => enV kg (re h)).length := by rw [List.length_map]; exact hk
  have e1 := he k hk'
  have e2 := hr k hk'
  have e3 := fun h0 => hp k h0 hk'
  rw [rows_get hk] at e1 e2 e3
  rw [List.length_map] at e1
  unfold chkL
  have hz : firstN (chkE kg ws.length (decide ((k : Int) = (gr.length : Int) - 1)) k (re (at_ gr (k : Int))) (re (at_ gr ((k : Int) - 1)))) (re (at_ gr (k : Int))).length = 0 := by
    refine firstN_all fun i hi => ?_
    have hmi := List.mem_of_getElem? (en_at (kg := kg) hi)
    unfold chkE
    rw [if_neg (fun h => h (e1 _ hmi)), if_neg, if_neg]
    · rintro ⟨h0, h1⟩
      apply h1
      have hl : (kg (at_ (re (at_ gr (k : Int))) (i : Int)).1).length = k + 1 := by
        have := (entE_gram (e1 _ hmi)).1
        dsimp only at this; omega
      have := e3 h0 _ hmi
      rw [rows_get (show k - 1 < gr.length by omega), en_map] at this
      rw [cut_take (by omega), show (k : Int) - 1 = ((k - 1 : Nat) : Int) by omega]
      exact this
    · rintro ⟨h0, h1⟩
      rw [en_map] at e2
      have := ris_lt (kg := kg) (es := re (at_ gr (k : Int))) e2 (show i - 1 < i by omega) hi
      rw [show ((i - 1 : Nat) : Int) = (i : Int) - 1 by omega] at this
      unfold ltL at this
      omega
  unfold chkLs
  rw [if_neg (fun h => h hz), if_neg]
  rintro ⟨rfl, h1⟩
  rw [rows_get (show 0 < gr.length by omega)] at hd
  unfold enV at hd
  rw [List.length_map] at hd
  exact h1 hd
end
section
variable {kg : SV → List Int} {re : SV → List En} {cn : SV → List Bool} {fr : Int} {ws : List ByteArray} {gr ks : List SV}
theorem prb_one (h : chkM kg re fr ws gr = 0) (w : Int) : prbN kg re gr w [] = if 0 ≤ w ∧ w < ws.length then (at_ (re (at_ gr 0)) w).2.1 else -1073741824 := by
  obtain ⟨z1, z2, z3⟩ := chkM_zero h
  obtain ⟨y1, y2, y3⟩ := chkM_words h
  rw [prbN]
  by_cases hw : 0 ≤ w ∧ w < ws.length
  · obtain ⟨f1, f2⟩ := chkM_fnd h (show w.toNat < ws.length by omega)
    rw [show ((w.toNat : Nat) : Int) = w by omega] at f1 f2
    rw [if_pos f1, if_pos hw, f2]
  · rw [if_neg hw, if_neg]
    rintro ⟨_, hm⟩
    obtain ⟨p, hp, he⟩ := List.mem_map.1 hm
    rw [show (([w] : List Int).length : Int) - 1 = 0 from rfl] at hp
    obtain ⟨i, hi, rfl⟩ := List.getElem_of_mem hp
    have := y3 i (by omega)
    rw [at_nat _ i hi, he] at this
    injection this with this
    omega
end
end Go.Proofs.Ytcomkdndddkbeaa
namespace Go.Proofs.Ytcomkdndddkbeaa
open Go Go.Fw Go.RowKit
set_option linter.unusedVariables false
set_option linter.unusedSimpArgs false
set_option maxRecDepth 100000
set_option maxHeartbeats 16000000
set_option synthInstance.maxHeartbeats 200000
set_option synthInstance.maxSize 100000
attribute [local irreducible] WPA WLA WDA WDQ WDE QQ seqQ blockQ loopQ fnQ OpP OpT Tr TrP SL SLd OwnS LitS Bk BkE Ob
attribute [local irreducible] TblH VocH GridH RowH RowX RowsE RowE ClM
def mk4 : List ByteArray := [⟨#[60, 117, 110, 107, 62]⟩, ⟨#[60, 115, 62]⟩, ⟨#[60, 47, 115, 62]⟩, ⟨#[97]⟩]
def A4 : List (List EV) := [[((0, 0), [0]), ((0, -3), [1]), ((0, 0), [2]), ((-5, 0), [3])], [((-2, 0), [1, 2]), ((-8, 0), [1, 3])]]
theorem a_right : RightP ⟨#[97]⟩ := by
  refine ⟨?_, ⟨by decide, by decide⟩, by decide⟩
  have : ∀ i, i < 1 → ¬ BlankP (bt ⟨#[97]⟩ (i : Nat)) ∧ bt ⟨#[97]⟩ (i : Nat) ≠ 10 := by decide
  exact this
theorem mk4_ok : ofE mk4 = 0 := by
  refine ofE_0 ⟨by decide, rfl⟩ (by decide) fun j h1 h2 => ?_
  have h2 : j < 4 := h2
  have h3 : j = 3 := by omega
  subst h3
  exact ⟨a_right, by show findT (mk4.take 3) ⟨#[97]⟩ < 0; decide⟩
theorem val4 : ValA 0 mk4 A4 := by
  refine ⟨by decide, by decide, mk4_ok, ?_, ?_, ?_, rfl⟩
  · have : ∀ k : Nat, k < 2 → ∀ e ∈ A4.getD k [], entE e.2 e.1.1 e.1.2 ((k : Int) + 1) ((4 : Nat) : Int) (decide ((k : Int) = ((2 : Nat) : Int) - 1)) = 0 := by decide
    exact this
  · have h0 : ((A4.getD 0 []).map (·.2)).Pairwise ltL := by
      show [[0], [1], [2], [3]].Pairwise ltL
      simp [ltL, cmpL]
    have h1 : ((A4.getD 1 []).map (·.2)).Pairwise ltL := by
      show [[1, 2], [1, 3]].Pairwise ltL
      simp [ltL, cmpL]
    intro k hk
    have hk : k < 2 := hk
    rcases (show k = 0 ∨ k = 1 by omega) with rfl | rfl
    · exact h0
    · exact h1
  · have : ∀ k : Nat, 0 < k → k < 2 → ∀ e ∈ A4.getD k [], e.2.take k ∈ (A4.getD (k - 1) []).map (·.2) := by
      intro k h0 hk
      obtain rfl : k = 1 := by omega
      decide
    exact this
section
variable {L : List HP} {w0 : World} {I : Foot}
theorem one_tr42 : Tr Try.prog 22 #[] (SL w0 I L) (fun x : SV × SV × List SV × Foot => .agg #[.int .i64 0, .slice x.1.a x.1.n x.1.cap, .slice x.2.1.a x.2.1.n x.2.1.cap])
    (fun x w => (SubI x.2.2.2 I ∧ MdI x.2.2.2 (rd Int x.2.2.2) (rd En x.2.2.2) x.1 x.2.1 mk4 x.2.2.1 ∧ x.2.2.1.map (fun h => enV (rd Int x.2.2.2) (rd En x.2.2.2 h)) = A4) ∧ SL w0 x.2.2.2 L w) := by
  refine Tr.intro Try.func22 rfl Try.ntmps22 rfl ?_
  repeat' (first | ((first | refine WLA.m rfl rfl ?_ ?_ | refine WLA.st rfl ?_ ?_ | refine WLA.x rfl rfl ?_ (fun x => ?_) | refine WLA.x0 rfl ?_ (fun x => ?_)); first | exact trivial | exact rfl | assumption | omega | (refine ⟨?_, ?_⟩ <;> omega) | (simp only [Room, List.length_set, List.length_append, List.length_cons, List.length_nil, List.length_replicate]; omega) | decide | skip) | (refine Stp.go ?_) | (refine WPA.ifT ?_) | (refine WPA.ifF ?_) | ((first | refine WPA.dec ?_); first | refine .inl ⟨by first | assumption | omega | with_reducible rfl | (refine fun h => h ?_; first | assumption | with_reducible rfl) | (simp only [List.length_append, List.length_cons, List.length_nil, List.length_set] <;> omega) | decide, ?_⟩ | refine .inr ⟨by first | assumption | omega | with_reducible rfl | (refine fun h => h ?_; first | assumption | with_reducible rfl) | (simp only [List.length_append, List.length_cons, List.length_nil, List.length_set] <;> omega) | decide, ?_⟩) | ((first | refine WPA.ifBt ?_ ?_ | refine WPA.ifBnf ?_ ?_); assumption) | ((first | refine WPA.ifBnt ?_ ?_ | refine WPA.ifBf ?_ ?_); assumption) | ((first | refine WPA.ifs ?_ ?_ | refine WPA.ifB ?_ ?_) <;> intro hc))
  rename_i b ws e0 e1 e2 e3 l0 f0 f1 l1
  revert x; intro g
  refine QQ.ent (EntC.out (L' := LitS 36 g [l0, l1] :: LitS 54 l1 ([(f0, -2, 0), (f1, -8, 0)] : List En) :: LitS 3 f1 ([1, 3] : List Int) :: LitS 3 f0 ([1, 2] : List Int) :: LitS 54 l0 ([(e0, 0, 0), (e1, 0, -3), (e2, 0, 0), (e3, -5, 0)] : List En) :: LitS 3 e3 ([3] : List Int) :: LitS 3 e2 ([2] : List Int) :: LitS 3 e1 ([1] : List Int) :: LitS 3 e0 ([0] : List Int) :: LitS 9 ws ([⟨#[60, 117, 110, 107, 62]⟩, ⟨#[60, 115, 62]⟩, ⟨#[60, 47, 115, 62]⟩, ⟨#[97]⟩] : List ByteArray) :: Bk b 25 [.int .i64 0, .slice ws.a ws.n ws.cap, .slice g.a g.n g.cap] :: L)) ?_
  refine QQ.freeze fun R1 h1 => ?_
  refine QQ.freeze fun R2 h2 => ?_
  refine QQ.freeze fun R3 h3 => ?_
  refine QQ.freeze fun R4 h4 => ?_
  refine QQ.freeze fun R5 h5 => ?_
  refine QQ.freeze fun R6 h6 => ?_
  refine QQ.freeze fun R7 h7 => ?_
  refine QQ.freeze fun R8 h8 => ?_
  refine QQ.freeze fun R9 h9 => ?_
  refine QQ.freeze fun R10 h10 => ?_
  have g1 := SlI.ofLit h1
  have g2 := SlI.ofLit h2
  have g3 := SlI.ofLit h3
  have g4 := SlI.ofLit h4
  have g5 := SlI.ofLit h5
  have g6 := SlI.ofLit h6
  have g7 := SlI.ofLit h7
  have g8 := SlI.ofLit h8
  have g9 := SlI.ofLit h9
  have g10 : SlI R10 ws ByteArray inferInstance mk4 := SlI.ofLit h10
  clear h1 h2 h3 h4 h5 h6 h7 h8 h9 h10
  have hsub : SubI (R10 ++ (R9 ++ (R8 ++ (R7 ++ (R6 ++ (R5 ++ (R4 ++ (R3 ++ (R2 ++ (R1 ++ I)))))))))) I := inferInstance
  have j1 : SlI (R10 ++ (R9 ++ (R8 ++ (R7 ++ (R6 ++ (R5 ++ (R4 ++ (R3 ++ (R2 ++ (R1 ++ I)))))))))) g SV inferInstance [l0, l1] := inferInstance
  have j2 : SlI (R10 ++ (R9 ++ (R8 ++ (R7 ++ (R6 ++ (R5 ++ (R4 ++ (R3 ++ (R2 ++ (R1 ++ I)))))))))) l1 En inferInstance [(f0, -2, 0), (f1, -8, 0)] := inferInstance
  have j3 : SlI (R10 ++ (R9 ++ (R8 ++ (R7 ++ (R6 ++ (R5 ++ (R4 ++ (R3 ++ (R2 ++ (R1 ++ I)))))))))) f1 Int inferInstance [1, 3] := inferInstance
  have j4 : SlI (R10 ++ (R9 ++ (R8 ++ (R7 ++ (R6 ++ (R5 ++ (R4 ++ (R3 ++ (R2 ++ (R1 ++ I)))))))))) f0 Int inferInstance [1, 2] := inferInstance
  have j5 : SlI (R10 ++ (R9 ++ (R8 ++ (R7 ++ (R6 ++ (R5 ++ (R4 ++ (R3 ++ (R2 ++ (R1 ++ I)))))))))) l0 En inferInstance [(e0, 0, 0), (e1, 0, -3), (e2, 0, 0), (e3, -5, 0)] := inferInstance
  have j6 : SlI (R10 ++ (R9 ++ (R8 ++ (R7 ++ (R6 ++ (R5 ++ (R4 ++ (R3 ++ (R2 ++ (R1 ++ I)))))))))) e3 Int inferInstance [3] := inferInstance
  have j7 : SlI (R10 ++ (R9 ++ (R8 ++ (R7 ++ (R6 ++ (R5 ++ (R4 ++ (R3 ++ (R2 ++ (R1 ++ I)))))))))) e2 Int inferInstance [2] := inferInstance
  have j8 : SlI (R10 ++ (R9 ++ (R8 ++ (R7 ++ (R6 ++ (R5 ++ (R4 ++ (R3 ++ (R2 ++ (R1 ++ I)))))))))) e1 Int inferInstance [1] := inferInstance
  have j9 : SlI (R10 ++ (R9 ++ (R8 ++ (R7 ++ (R6 ++ (R5 ++ (R4 ++ (R3 ++ (R2 ++ (R1 ++ I)))))))))) e0 Int inferInstance [0] := inferInstance
  have j10 : SlI (R10 ++ (R9 ++ (R8 ++ (R7 ++ (R6 ++ (R5 ++ (R4 ++ (R3 ++ (R2 ++ (R1 ++ I)))))))))) ws ByteArray inferInstance mk4 := inferInstance
  clear g1 g2 g3 g4 g5 g6 g7 g8 g9 g10
  generalize R10 ++ (R9 ++ (R8 ++ (R7 ++ (R6 ++ (R5 ++ (R4 ++ (R3 ++ (R2 ++ (R1 ++ I))))))))) = J at hsub j1 j2 j3 j4 j5 j6 j7 j8 j9 j10
  refine QQ.endc rfl (ws, g, [l0, l1], J) rfl fun w h => ⟨⟨hsub, ?_⟩, h.to⟩
  have r1 := j2.rd.det j2 h
  have r0 := j5.rd.det j5 h
  have k1 := j3.rd.det j3 h
  have k2 := j4.rd.det j4 h
  have k3 := j6.rd.det j6 h
  have k4 := j7.rd.det j7 h
  have k5 := j8.rd.det j8 h
  have k6 := j9.rd.det j9 h
  dsimp only
  refine ⟨⟨j10, j1, ?_, ?_, by decide, by decide, by simp, ?_, ?_⟩, ?_⟩
  · intro v hm
    simp only [List.mem_cons, List.not_mem_nil, or_false] at hm
    rcases hm with rfl | rfl
    · rw [r0]; exact j5
    · rw [r1]; exact j2
  · intro v hm
    simp only [List.mem_cons, List.not_mem_nil, or_false] at hm
    rcases hm with rfl | rfl
    · rw [r0]; intro p hp
      simp only [List.mem_cons, List.not_mem_nil, or_false] at hp
      rcases hp with rfl | rfl | rfl | rfl
      · dsimp only; rw [k6]; exact j9
      · dsimp only; rw [k5]; exact j8
      · dsimp only; rw [k4]; exact j7
      · dsimp only; rw [k3]; exact j6
    · rw [r1]; intro p hp
      simp only [List.mem_cons, List.not_mem_nil, or_false] at hp
      rcases hp with rfl | rfl
      · dsimp only; rw [k2]; exact j4
      · dsimp only; rw [k1]; exact j3
  · intro v hm
    simp only [List.mem_cons, List.not_mem_nil, or_false] at hm
    rcases hm with rfl | rfl
    · rw [r0]; simp
    · rw [r1]; simp
  · intro v hm
    simp only [List.mem_cons, List.not_mem_nil, or_false] at hm
    rcases hm with rfl | rfl
    · rw [r0]; intro p hp
      simp only [List.mem_cons, List.not_mem_nil, or_false] at hp
      rcases hp with rfl | rfl | rfl | rfl
      · dsimp only; rw [k6]; decide
      · dsimp only; rw [k5]; decide
      · dsimp only; rw [k4]; decide
      · dsimp only; rw [k3]; decide
    · rw [r1]; intro p hp
      simp only [List.mem_cons, List.not_mem_nil, or_false] at hp
      rcases hp with rfl | rfl
      · dsimp only; rw [k2]; decide
      · dsimp only; rw [k1]; decide
  · simp only [List.map_cons, List.map_nil, r0, r1, enV, k1, k2, k3, k4, k5, k6]; rfl
end
section
variable {kg : SV → List Int} {re : SV → List En} {gr : List SV}
theorem row4 (h : gr.map (fun h => enV kg (re h)) = A4) : gr.length = 2 ∧ (∀ k i : Nat, ∀ e : EV, k < 2 → (A4.getD k [])[i]? = some e → (at_ (re (at_ gr (k : Int))) (i : Int)).2 = e.1 ∧ kg (at_ (re (at_ gr (k : Int))) (i : Int)).1 = e.2) ∧ ∀ k : Nat, k < 2 → (re (at_ gr (k : Int))).length = (A4.getD k []).length := by
  have hl : gr.length = 2 := by have := congrArg List.length h; rw [List.length_map] at this; exact this
  have hr : ∀ k : Nat, k < 2 → A4.getD k [] = enV kg (re (at_ gr (k : Int))) := fun k hk => by rw [← h]; exact rows_get (by omega)
  refine ⟨hl, fun k i e hk he => ?_, fun k hk => by rw [hr k hk]; unfold enV; rw [List.length_map]⟩
  rw [hr k hk] at he
  have hi : i < (re (at_ gr (k : Int))).length := by have := (List.getElem?_eq_some_iff.1 he).1; unfold enV at this; rwa [List.length_map] at this
  rw [en_at hi] at he
  injection he with he
  exact ⟨by rw [← he], by rw [← he]⟩
theorem chk4 (h : gr.map (fun h => enV kg (re h)) = A4) : chkM kg re 0 mk4 gr = 0 := val_chkM (by rw [h]; exact val4)
theorem st4 (h : gr.map (fun h => enV kg (re h)) = A4) : chS re gr (stK kg re gr 0) = [[true, true, true, true], [true, false]] := by
  obtain ⟨hl, hv, hn⟩ := row4 h
  have hc := chk4 h
  have n0 : (re (at_ gr ((0 : Nat) : Int))).length = 4 := hn 0 (by omega)
  have n1 : (re (at_ gr ((1 : Nat) : Int))).length = 2 := hn 1 (by omega)
  have hb : bckN kg re gr [1] = -3 := by
    obtain ⟨f1, f2⟩ := chkM_fnd hc (i := 1) (by decide)
    have := (hv 0 1 _ (by omega) rfl).1
    unfold bckN
    rw [if_pos (show FndP kg re gr [1] from f1), show cdsG kg re gr [1] = (at_ (re (at_ gr 0)) ((1 : Nat) : Int)).2 from f2]
    rw [show at_ gr 0 = at_ gr ((0 : Nat) : Int) from rfl, this]
  have hp2 : prbN kg re gr 2 [] = 0 := by
    rw [prb_one hc, if_pos (by decide)]
    have := (hv 0 2 _ (by omega) rfl).1
    rw [show at_ (re (at_ gr 0)) 2 = at_ (re (at_ gr ((0 : Nat) : Int))) ((2 : Nat) : Int) from rfl, this]
  have hp3 : prbN kg re gr 3 [] = -5 := by
    rw [prb_one hc, if_pos (by decide)]
    have := (hv 0 3 _ (by omega) rfl).1
    rw [show at_ (re (at_ gr 0)) 3 = at_ (re (at_ gr ((0 : Nat) : Int))) ((3 : Nat) : Int) from rfl, this]
  have s0 : stK kg re gr 0 1 0 = true := by
    obtain ⟨a1, a2⟩ := hv 1 0 _ (by omega) rfl
    unfold stK
    rw [a1, a2]
    unfold stV
    rw [show List.take 1 [1, 2] = [(1 : Int)] from rfl, hb, show at_ ([1, 2] : List Int) ((1 : Nat) : Int) = 2 from rfl, show List.drop 1 [(1 : Int)] = [] from rfl, hp2]
    decide
  have s1 : stK kg re gr 0 1 1 = false := by
    obtain ⟨a1, a2⟩ := hv 1 1 _ (by omega) rfl
    unfold stK
    rw [a1, a2]
    unfold stV
    rw [show List.take 1 [1, 3] = [(1 : Int)] from rfl, hb, show at_ ([1, 3] : List Int) ((1 : Nat) : Int) = 3 from rfl, show List.drop 1 [(1 : Int)] = [] from rfl, hp3]
    decide
  unfold chS
  rw [hl]
  show [chR (re (at_ gr ((0 : Nat) : Int))).length (stK kg re gr 0 0) 0, chR (re (at_ gr ((1 : Nat) : Int))).length (stK kg re gr 0 1) 1] = _
  rw [n0, n1]
  show [[true, true, true, true], [decide (1 = 0) || stK kg re gr 0 1 0, decide (1 = 0) || stK kg re gr 0 1 1]] = _
  rw [s0, s1]; rfl
theorem nd4 {cn : SV → List Bool} {ks : List SV} (h : gr.map (fun h => enV kg (re h)) = A4) (hk : cn (at_ ks ((1 : Nat) : Int)) = [true, false]) : (chS re gr (ndK kg re gr cn ks))[1]? = some [true, false] := by
  obtain ⟨hl, hv, hn⟩ := row4 h
  have n1 : (re (at_ gr ((1 : Nat) : Int))).length = 2 := hn 1 (by omega)
  have hno : ∀ i : Nat, i < 2 → ¬ bgP kg re gr cn ks (nG kg re gr 1 i) := by
    rintro i hi ⟨k', i', h1, h2, _⟩
    have hl2 : (nG kg re gr 1 i).length = 2 := (chkM_words (chk4 h)).1 1 (by omega) _ (by rw [at_nat _ i (by omega)]; exact List.getElem_mem _)
    omega
  have q : ∀ (i : Nat) (b : Bool), i < 2 → at_ [true, false] (i : Int) = b → ndK kg re gr cn ks 1 i = b := by
    intro i b hi hb
    rw [Bool.eq_iff_iff, ndK_iff]
    unfold nK
    rw [hk, hb]
    exact ⟨fun h => h.resolve_right (hno i hi), .inl⟩
  rw [chS_get (by omega), n1]
  show some [decide (1 = 0) || ndK kg re gr cn ks 1 0, decide (1 = 0) || ndK kg re gr cn ks 1 1] = _
  rw [q 0 true (by omega) rfl, q 1 false (by omega) rfl]; rfl
end
theorem live_tr42 (w0 : World) (I : Foot) (L : List HP) : Tr Try.prog 7 #[] (SL w0 I L) (fun _ : Unit => .bool true) (fun _ => SL w0 I L) := by
  refine Tr.intro Try.func7 rfl Try.ntmps7 rfl ?_
  repeat' ((fail_if_success (guard_target =~ WPA _ _ _ (.region 2 _ _) _ _ _)); first | ((first | refine WLA.m rfl rfl ?_ ?_ | refine WLA.st rfl ?_ ?_ | refine WLA.x rfl rfl ?_ (fun x => ?_) | refine WLA.x0 rfl ?_ (fun x => ?_)); first | exact trivial | exact rfl | assumption | omega | (refine ⟨?_, ?_⟩ <;> omega) | (simp only [Room, List.length_set, List.length_append, List.length_cons, List.length_nil, List.length_replicate]; omega) | decide | skip) | (refine Stp.go ?_) | (guard_target =~ WLA _ _ _ _ _ (⟨_, .call ⟨.value (.func 22), _, _⟩, _, _, _, _⟩ :: _) _ _; first | (refine WLA.call rfl rfl (one_tr42) ?_; rintro ⟨wv, g, gr, J⟩; refine WLA.pure fun hx => ?_; dsimp only at hx ⊢; obtain ⟨hJ, hM, hA⟩ := hx) | (refine WLA.call0 rfl (one_tr42) ?_; rintro ⟨wv, g, gr, J⟩; refine WLA.pure fun hx => ?_; dsimp only at hx ⊢; obtain ⟨hJ, hM, hA⟩ := hx)) | (guard_target =~ WLA _ _ _ _ _ (⟨_, .call ⟨.value (.func 15), _, _⟩, _, _, _, _⟩ :: _) _ _; first | (refine WLA.call rfl rfl (Strong_ok hM (chk4 hA) (by decide)) ?_; rintro l) | (refine WLA.call0 rfl (Strong_ok hM (chk4 hA) (by decide)) ?_; rintro l)) | (refine WPA.ifT ?_) | (refine WPA.ifF ?_) | ((first | refine WPA.dec ?_); first | refine .inl ⟨by first | assumption | omega | with_reducible rfl | (refine fun h => h ?_; first | assumption | with_reducible rfl) | (simp only [List.length_append, List.length_cons, List.length_nil, List.length_set] <;> omega) | decide, ?_⟩ | refine .inr ⟨by first | assumption | omega | with_reducible rfl | (refine fun h => h ?_; first | assumption | with_reducible rfl) | (simp only [List.length_append, List.length_cons, List.length_nil, List.length_set] <;> omega) | decide, ?_⟩) | ((first | refine WPA.ifBt ?_ ?_ | refine WPA.ifBnf ?_ ?_); assumption) | ((first | refine WPA.ifBnt ?_ ?_ | refine WPA.ifBf ?_ ?_); assumption) | ((first | refine WPA.ifs ?_ ?_ | refine WPA.ifB ?_ ?_) <;> intro hc))
  rw [st4 hA]
  refine WPA.freeze fun R hR => ?_
  have hgd := hR.gd (J := R ++ J) ⟨fun _ h => List.mem_append_left _ h⟩
  have hJ2 : SubI (R ++ J) I := ⟨fun z hz => List.mem_append_right _ (hJ.out hz)⟩
  clear hR hM hA
  generalize R ++ J = J2 at hgd hJ2
  clear hJ
  obtain ⟨svs, c1, c2, c3⟩ := hgd
  have d0 : SlI J2 (at_ svs ((0 : Nat) : Int)) Bool inferInstance [true, true, true, true] := c3 0 (by decide)
  have d1 : SlI J2 (at_ svs ((1 : Nat) : Int)) Bool inferInstance [true, false] := c3 1 (by decide)
  have c2 : svs.length = 2 := c2
  have hmem : ∀ h ∈ svs, h = at_ svs ((0 : Nat) : Int) ∨ h = at_ svs ((1 : Nat) : Int) := by
    intro h hh
    obtain ⟨k, hk, rfl⟩ := List.getElem_of_mem hh
    rw [← at_nat svs k hk]
    rcases (show k = 0 ∨ k = 1 by omega) with rfl | rfl
    · exact .inl rfl
    · exact .inr rfl
  have hC3 : ∀ {J3 : Foot}, rd Bool J3 (at_ svs ((0 : Nat) : Int)) = [true, true, true, true] → rd Bool J3 (at_ svs ((1 : Nat) : Int)) = [true, false] → SlI J3 (at_ svs ((0 : Nat) : Int)) Bool inferInstance [true, true, true, true] → SlI J3 (at_ svs ((1 : Nat) : Int)) Bool inferInstance [true, false] → ∀ h ∈ svs, SlI J3 h Bool inferInstance (rd Bool J3 h) := by
    intro J3 q0 q1 e0 e1 h hh
    rcases hmem h hh with rfl | rfl
    · rw [q0]; exact e0
    · rw [q1]; exact e1
  have hF3 : ∀ {J3 : Foot} {gr2 : List SV}, rd Bool J3 (at_ svs ((0 : Nat) : Int)) = [true, true, true, true] → rd Bool J3 (at_ svs ((1 : Nat) : Int)) = [true, false] → gr2.map (fun h => enV (rd Int J3) (rd En J3 h)) = A4 → FitP (rd En J3) gr2 svs fun h => (rd Bool J3 h).length := by
    intro J3 gr2 q0 q1 hA
    obtain ⟨hl, _, hn⟩ := row4 hA
    refine ⟨by omega, fun k hk => ?_⟩
    rw [hn k (by omega)]
    rcases (show k = 0 ∨ k = 1 by omega) with rfl | rfl
    · show (rd Bool J3 (at_ svs ((0 : Nat) : Int))).length = _
      rw [q0]; rfl
    · show (rd Bool J3 (at_ svs ((1 : Nat) : Int))).length = _
      rw [q1]; rfl
  repeat' ((fail_if_success (guard_target =~ WPA _ _ _ (.region 3 _ _) _ _ _)); first | ((first | refine WLA.m rfl rfl ?_ ?_ | refine WLA.st rfl ?_ ?_ | refine WLA.x rfl rfl ?_ (fun x => ?_) | refine WLA.x0 rfl ?_ (fun x => ?_)); first | exact trivial | exact rfl | assumption | omega | (refine ⟨?_, ?_⟩ <;> omega) | (simp only [Room, List.length_set, List.length_append, List.length_cons, List.length_nil, List.length_replicate]; omega) | decide | skip) | (refine Stp.go ?_) | (guard_target =~ WLA _ _ _ _ _ (⟨_, .call ⟨.value (.func 22), _, _⟩, _, _, _, _⟩ :: _) _ _; first | (refine WLA.call rfl rfl (one_tr42) ?_; rintro ⟨wv2, g2, gr2, J3⟩; refine WLA.pure fun hx => ?_; dsimp only at hx ⊢; obtain ⟨hJ3, hM3, hA3⟩ := hx; have e0 := SlI.sub (I' := J3) d0; have e1 := SlI.sub (I' := J3) d1; have e2 := SlI.sub (I' := J3) c1; refine WLA.rd e0 fun q0 => WLA.rd e1 fun q1 => ?_) | (refine WLA.call0 rfl (one_tr42) ?_; rintro ⟨wv2, g2, gr2, J3⟩; refine WLA.pure fun hx => ?_; dsimp only at hx ⊢; obtain ⟨hJ3, hM3, hA3⟩ := hx; have e0 := SlI.sub (I' := J3) d0; have e1 := SlI.sub (I' := J3) d1; have e2 := SlI.sub (I' := J3) c1; refine WLA.rd e0 fun q0 => WLA.rd e1 fun q1 => ?_)) | (guard_target =~ WLA _ _ _ _ _ (⟨_, .call ⟨.value (.func 9), _, _⟩, _, _, _, _⟩ :: _) _ _; first | (refine WLA.call rfl rfl (Model_ok hM3 (chk4 hA3) e2 (hC3 q0 q1 e0 e1) (hF3 q0 q1 hA3)) ?_; rintro ⟨mw, mg, J4⟩; refine WLA.pure fun hy => ?_; dsimp only at hy ⊢; obtain ⟨hJ4, hMd⟩ := hy) | (refine WLA.call0 rfl (Model_ok hM3 (chk4 hA3) e2 (hC3 q0 q1 e0 e1) (hF3 q0 q1 hA3)) ?_; rintro ⟨mw, mg, J4⟩; refine WLA.pure fun hy => ?_; dsimp only at hy ⊢; obtain ⟨hJ4, hMd⟩ := hy)) | (refine WPA.ifT ?_) | (refine WPA.ifF ?_) | ((first | refine WPA.dec ?_); first | refine .inl ⟨by first | assumption | omega | with_reducible rfl | (refine fun h => h ?_; first | assumption | with_reducible rfl) | (simp only [List.length_append, List.length_cons, List.length_nil, List.length_set] <;> omega) | decide, ?_⟩ | refine .inr ⟨by first | assumption | omega | with_reducible rfl | (refine fun h => h ?_; first | assumption | with_reducible rfl) | (simp only [List.length_append, List.length_cons, List.length_nil, List.length_set] <;> omega) | decide, ?_⟩) | ((first | refine WPA.ifBt ?_ ?_ | refine WPA.ifBnf ?_ ?_); assumption) | ((first | refine WPA.ifBnt ?_ ?_ | refine WPA.ifBf ?_ ?_); assumption) | ((first | refine WPA.ifs ?_ ?_ | refine WPA.ifB ?_ ?_) <;> intro hc))
  rw [hA3] at hMd
  have hb1 := fltM_get (A := A4) rfl (nd4 (cn := rd Bool J3) (ks := svs) hA3 q1)
  have hBl : (fltM A4 (chS (rd En J3) gr2 (ndK (rd Int J3) (rd En J3) gr2 (rd Bool J3) svs))).length = 2 := by
    unfold fltM; rw [List.length_zipWith, chS_len, (row4 hA3).1]; rfl
  obtain ⟨_, gr3, m1, m2, m3⟩ := hMd
  rw [hBl] at m2 m3
  have m4 := m3 1 (by omega)
  rw [getD_some hb1] at m4
  refine WPA.knowI (fun w hw => m4.nst hw) fun hnst => ?_
  obtain ⟨⟨p1, _⟩, p3⟩ := hnst
  generalize rd En J4 (at_ gr3 ((1 : Nat) : Int)) = cs at p1 p3
  have hcl : (cs.length : Int) = 1 := by
    have := congrArg List.length p3
    unfold enV at this
    rw [List.length_map] at this
    rw [this]; rfl
  have p1 : SlI J4 (at_ gr3 1) En inferInstance cs := p1
  have hgl : (gr3.length : Int) = 2 := by omega
  have hsl : (svs.length : Int) = 2 := by omega
  have e3 := SlI.sub (I' := J4) e2
  have e4 : SlI J4 (at_ svs 1) Bool inferInstance [true, false] := SlI.sub (I' := J4) e1
  have v0 : at_ [true, false] 0 = true := rfl
  have v1 : at_ [true, false] 1 = false := rfl
  have hi1 : (0 : Int) ≤ 1 ∧ (1 : Int) < gr3.length := by omega
  have hi2 : (0 : Int) ≤ 1 ∧ (1 : Int) < svs.length := by omega
  have hi3 : (0 : Int) ≤ 0 ∧ (0 : Int) < ([true, false] : List Bool).length := by decide
  have hi4 : (0 : Int) ≤ 1 ∧ (1 : Int) < ([true, false] : List Bool).length := by decide
  repeat' (first | ((rw [v0])) | ((rw [v1])) | ((first | refine WLA.m rfl rfl ?_ ?_ | refine WLA.st rfl ?_ ?_ | refine WLA.x rfl rfl ?_ (fun x => ?_) | refine WLA.x0 rfl ?_ (fun x => ?_)); first | exact trivial | exact rfl | assumption | omega | (refine ⟨?_, ?_⟩ <;> omega) | (simp only [Room, List.length_set, List.length_append, List.length_cons, List.length_nil, List.length_replicate]; omega) | decide | skip) | (refine Stp.go ?_) | (refine WPA.ifT ?_) | (refine WPA.ifF ?_) | (refine WLA.no rfl rfl ?_) | ((first | refine WPA.dec ?_ | ((fail_if_success (guard_target =~ WLA _ _ _ _ _ _ (put1 _ _ (.bool true)) _)); (fail_if_success (guard_target =~ WLA _ _ _ _ _ _ (put1 _ _ (.bool false)) _)); refine WLA.dec rfl rfl ?_) | refine WLA.pk ?_); first | refine .inl ⟨by first | assumption | omega | with_reducible rfl | (refine fun h => h ?_; first | assumption | with_reducible rfl) | (simp only [List.length_append, List.length_cons, List.length_nil, List.length_set] <;> omega) | decide, ?_⟩ | refine .inr ⟨by first | assumption | omega | with_reducible rfl | (refine fun h => h ?_; first | assumption | with_reducible rfl) | (simp only [List.length_append, List.length_cons, List.length_nil, List.length_set] <;> omega) | decide, ?_⟩) | ((first | refine WPA.ifBt ?_ ?_ | refine WPA.ifBnf ?_ ?_); assumption) | ((first | refine WPA.ifBnt ?_ ?_ | refine WPA.ifBf ?_ ?_); assumption) | ((first | refine WPA.ifs ?_ ?_ | refine WPA.ifB ?_ ?_) <;> intro hc) | ((fail_if_success (guard_target =~ WLA _ _ _ _ _ _ (put1 _ _ (.bool true)) _)); (fail_if_success (guard_target =~ WLA _ _ _ _ _ _ (put1 _ _ (.bool false)) _)); (first | refine WLA.both rfl rfl ?_ ?_ | refine WLA.bothB rfl rfl ?_ ?_) <;> intro hg))
  exact QQ.end_ rfl () rfl fun w h => (h.sub fun z hz => hJ4.out (hJ3.out (hJ2.out hz))).to
end Go.Proofs.Ytcomkdndddkbeaa
