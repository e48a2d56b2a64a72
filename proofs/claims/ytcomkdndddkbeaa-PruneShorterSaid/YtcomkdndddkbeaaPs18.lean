/- Texts that PruneShorter_law leans on, part 18. Conditions: none. -/
import Derived.Test.YtcomkdndddkbeaaPs17
namespace Go.Proofs.Ytcomkdndddkbeaa
open Go Go.Fw Go.RowKit
set_option linter.unusedVariables false
set_option linter.unusedSimpArgs false
set_option maxRecDepth 100000
set_option maxHeartbeats 16000000
set_option synthInstance.maxHeartbeats 200000
set_option synthInstance.maxSize 100000
attribute [local irreducible] WPA WLA WDA WDQ WDE QQ seqQ blockQ loopQ fnQ OpP OpT Tr TrP SL SLd OwnS LitS Bk BkE Ob
attribute [local irreducible] TblH VocH GridH RowH RowX RowsE RowE ClM
def flt {α : Type} : List α → List Bool → List α
  | x :: xs, b :: bs => if b = true then x :: flt xs bs else flt xs bs
  | _, _ => []
theorem flt_snoc {α : Type} {x : α} {b : Bool} : ∀ {xs : List α} {bs : List Bool}, xs.length = bs.length → flt (xs ++ [x]) (bs ++ [b]) = flt xs bs ++ (if b = true then [x] else [])
  | [], [], _ => by simp [flt]
  | y :: xs, c :: bs, h => by
    simp only [List.cons_append, flt]
    rw [flt_snoc (by simpa using h)]
    split <;> simp
  | [], c :: bs, h => by simp at h
  | y :: xs, [], h => by simp at h
theorem flt_map {α β : Type} {f : α → β} : ∀ {xs : List α} {bs : List Bool}, (flt xs bs).map f = flt (xs.map f) bs
  | [], [] => rfl
  | y :: xs, c :: bs => by
    simp only [List.map_cons, flt]
    split
    · rw [List.map_cons, flt_map]
    · exact flt_map
  | [], c :: bs => rfl
  | y :: xs, [] => rfl
theorem flt_sub {α : Type} : ∀ {xs : List α} {bs : List Bool}, (flt xs bs).Sublist xs
  | [], [] => .slnil
  | y :: xs, c :: bs => by
    simp only [flt]
    split
    · exact flt_sub.cons_cons y
    · exact flt_sub.cons y
  | [], c :: bs => .slnil
  | y :: xs, [] => by simp [flt]
def fltM (A : List (List EV)) (bss : List (List Bool)) : List (List EV) := List.zipWith flt A bss
theorem fltM_get {A : List (List EV)} {bss : List (List Bool)} {k : Nat} {es : List EV} {bs : List Bool} (h1 : A[k]? = some es) (h2 : bss[k]? = some bs) : (fltM A bss)[k]? = some (flt es bs) := by
  unfold fltM; rw [List.getElem?_zipWith, h1, h2]
theorem LstE.of {J : Foot} {v : SV} {cs : List En} {kg : SV → List Int} (h1 : SlI J v En inferInstance cs) (h2 : EnG J kg cs) : LstE J v (enV kg cs) := by
  refine ⟨cs, h1, by unfold enV; simp [List.map_map, Function.comp_def], fun i hi => ?_⟩
  have := h2 _ (List.getElem_mem hi)
  rw [List.getD_eq_getElem?_getD]
  unfold enV
  rw [List.getElem?_map, List.getElem?_eq_getElem hi, at_nat _ i hi]
  exact this
section
variable {kg : SV → List Int} {re : SV → List En} {I : Foot}
theorem MdI.toR {wv g : SV} {ws : List ByteArray} {gr : List SV} (h : MdI I kg re wv g ws gr) : MdR I kg re wv g ws gr := ⟨h.words, h.grams, h.rows, h.elems, h.wsz⟩
theorem MdI.fewA {wv g : SV} {ws : List ByteArray} {gr : List SV} (h : MdI I kg re wv g ws gr) : FewA ws (gr.map fun h => enV kg (re h)) := by
  refine ⟨⟨h.wln, by rw [List.length_map]; exact h.gln⟩, fun es hes => ?_⟩
  obtain ⟨v, hv, rfl⟩ := List.mem_map.1 hes
  refine ⟨by unfold enV; rw [List.length_map]; exact h.rln v hv, fun e he => ?_⟩
  unfold enV at he
  obtain ⟨p, hp, rfl⟩ := List.mem_map.1 he
  exact h.kln v hv p hp
end
structure MS where
  k : Nat
  vs : List SV
  J : Foot
section
variable {kg : SV → List Int} {re : SV → List En} {cn : SV → List Bool} {L : List HP} {w0 : World} {I : Foot}
theorem WPA.knowI {ro : Option Nat} {P : Program} {n : Nat} {Q : Hnd} {ρ : Env} {c : Code} {φ : Prop} (h : ∀ w, SL w0 I L w → φ) (k : φ → WPA ro P n c Q ρ (SL w0 I L)) : WPA ro P n c Q ρ (SL w0 I L) := WPA.know h k
theorem Model_ok {fr : Int} {wv g c : SV} {ws : List ByteArray} {gr ks : List SV} (hM : MdI I kg re wv g ws gr) (hck : chkM kg re fr ws gr = 0) (hc : SlI I c SV inferInstance ks) (hC : ∀ h ∈ ks, SlI I h Bool inferInstance (cn h)) (hF : FitP re gr ks fun h => (cn h).length) :
    Tr Try.prog 9 #[.agg #[.int .i64 fr, .slice wv.a wv.n wv.cap, .slice g.a g.n g.cap], .slice c.a c.n c.cap] (SL w0 I L) (fun x : SV × SV × Foot => .tuple #[.agg #[.int .i64 fr, .slice x.1.a x.1.n x.1.cap, .slice x.2.1.a x.2.1.n x.2.1.cap], .int .i64 0])
      (fun x w => (SubI x.2.2 I ∧ MdL x.2.2 x.1 x.2.1 ws (fltM (gr.map fun h => enV kg (re h)) (chS re gr (ndK kg re gr cn ks)))) ∧ SL w0 x.2.2 L w) := by
  refine Tr.intro Try.func9 rfl Try.ntmps9 rfl ?_
  have ha := hM.toR.toL
  have fa := hM.fewA
  have hNd := fun {L : List HP} => Needed_ok (L := L) (w0 := w0) hM hck hc hC hF
  have hbs : ∀ k : Nat, k < gr.length → ∃ bs : List Bool, (chS re gr (ndK kg re gr cn ks))[k]? = some bs ∧ bs.length = (re (at_ gr (k : Int))).length := fun k hk => ⟨_, chS_get hk, by simp [chR]⟩
  have hbn : (chS re gr (ndK kg re gr cn ks)).length = gr.length := chS_len
  generalize chS re gr (ndK kg re gr cn ks) = bss at hNd hbs hbn
  have hAn : (gr.map fun h => enV kg (re h)).length = gr.length := List.length_map _
  have hAl : ∀ k : Nat, k < gr.length → ∃ es : List EV, (gr.map fun h => enV kg (re h))[k]? = some es ∧ es.length = (re (at_ gr (k : Int))).length ∧ es.length ≤ 1000000 := fun k hk => by
    refine ⟨_, by rw [List.getElem?_map, List.getElem?_eq_getElem hk]; rfl, ?_⟩
    rw [← at_nat gr k hk]
    have := hM.rln (at_ gr (k : Int)) (by rw [at_nat gr k hk]; exact List.getElem_mem _)
    unfold enV; rw [List.length_map]; exact ⟨rfl, this⟩
  generalize (gr.map fun h => enV kg (re h)) = A at ha fa hAn hAl
  have hgn := hM.gln
  generalize hn : gr.length = n at hgn hAn hAl hbs hbn
  repeat' ((fail_if_success (guard_target =~ WPA _ _ _ (.region 5 _ _) _ _ _)); first | ((first | refine WLA.m rfl rfl ?_ ?_ | refine WLA.st rfl ?_ ?_ | refine WLA.x rfl rfl ?_ (fun x => ?_) | refine WLA.x0 rfl ?_ (fun x => ?_)); first | exact trivial | exact rfl | assumption | omega | (refine ⟨?_, ?_⟩ <;> omega) | (simp only [Room, List.length_set, List.length_append, List.length_cons, List.length_nil, List.length_replicate]; omega) | decide | skip) | (refine Stp.go ?_) | (guard_target =~ WLA _ _ _ _ _ (⟨_, .call ⟨.value (.func 8), _, _⟩, _, _, _, _⟩ :: _) _ _; first | (refine WLA.call rfl rfl (hNd) ?_; rintro a) | (refine WLA.call0 rfl (hNd) ?_; rintro a)) | (guard_target =~ WLA _ _ _ _ _ (⟨_, .call ⟨.value (.func 28), _, _⟩, _, _, _, _⟩ :: _) _ _; first | (refine WLA.call rfl rfl (mClone_trI ha fa) ?_; rintro ⟨cw, cg⟩; dsimp only) | (refine WLA.call0 rfl (mClone_trI ha fa) ?_; rintro ⟨cw, cg⟩; dsimp only)) | (refine WPA.ifT ?_) | (refine WPA.ifF ?_) | ((first | refine WPA.dec ?_); first | refine .inl ⟨by first | assumption | omega | with_reducible rfl | (refine fun h => h ?_; first | assumption | with_reducible rfl) | (simp only [List.length_append, List.length_cons, List.length_nil, List.length_set] <;> omega) | decide, ?_⟩ | refine .inr ⟨by first | assumption | omega | with_reducible rfl | (refine fun h => h ?_; first | assumption | with_reducible rfl) | (simp only [List.length_append, List.length_cons, List.length_nil, List.length_set] <;> omega) | decide, ?_⟩) | ((first | refine WPA.ifBt ?_ ?_ | refine WPA.ifBnf ?_ ?_); assumption) | ((first | refine WPA.ifBnt ?_ ?_ | refine WPA.ifBf ?_ ?_); assumption) | ((first | refine WPA.ifs ?_ ?_ | refine WPA.ifB ?_ ?_) <;> intro hc))
  rename_i t2 t4
  revert x; intro t8
  refine WPA.ent (EntC.out (L' := ClM cw (cg, ws, A) :: GridH a bss :: Bk t8 25 [.int .i64 fr, .slice cw.a cw.n cw.cap, .slice cg.a cg.n cg.cap] :: Bk t4 25 [.int .i64 0, .slice none 0 0, .slice none 0 0] :: L)) ?_
  refine WPA.clm fun vs hvl => ?_
  refine WPA.freeze fun R1 h1 => ?_
  refine WPA.ent (EntC.out (L' := RowsE vs A :: GridH a bss :: OwnS 36 cg vs :: Bk t8 25 [.int .i64 fr, .slice cw.a cw.n cw.cap, .slice cg.a cg.n cg.cap] :: Bk t4 25 [.int .i64 0, .slice none 0 0, .slice none 0 0] :: L)) ?_
  refine WPA.freeze fun R2 h2 => ?_
  refine WPA.freeze fun R3 h3 => ?_
  have hs : SubI (R3 ++ (R2 ++ (R1 ++ I))) I := inferInstance
  have hsw : SlI (R3 ++ (R2 ++ (R1 ++ I))) cw ByteArray inferInstance ws := by have := SlI.ofOwn h1; infer_instance
  have hgd : GdI (R3 ++ (R2 ++ (R1 ++ I))) a bss := h3.gd ⟨fun _ h => List.mem_append_left _ h⟩
  have hrw : ∀ k : Nat, k < n → LstE (R3 ++ (R2 ++ (R1 ++ I))) (at_ vs (k : Int)) (A.getD k []) := fun k hk => by
    have := RowsE.lst h2 hvl (J := R3 ++ (R2 ++ (R1 ++ I))) ⟨fun _ h => List.mem_append_right _ (List.mem_append_left _ h)⟩ k (by omega) (by omega)
    rw [at_nat vs k (by omega), List.getD_eq_getElem?_getD, List.getElem?_eq_getElem (show k < A.length by omega)]
    exact this
  generalize R3 ++ (R2 ++ (R1 ++ I)) = J at hs hsw hgd hrw
  clear h1 h2 h3
  have hvn : vs.length = n := by omega
  repeat' (first | ((first | refine WLA.m rfl rfl ?_ ?_ | refine WLA.st rfl ?_ ?_ | refine WLA.x rfl rfl ?_ (fun x => ?_) | refine WLA.x0 rfl ?_ (fun x => ?_)); first | exact trivial | exact rfl | assumption | omega | (refine ⟨?_, ?_⟩ <;> omega) | (simp only [Room, List.length_set, List.length_append, List.length_cons, List.length_nil, List.length_replicate]; omega) | decide | skip) | (refine Stp.go ?_) | (refine WPA.ifT ?_) | (refine WPA.ifF ?_) | ((first | refine WPA.dec ?_); first | refine .inl ⟨by first | assumption | omega | with_reducible rfl | (refine fun h => h ?_; first | assumption | with_reducible rfl) | (simp only [List.length_append, List.length_cons, List.length_nil, List.length_set] <;> omega) | decide, ?_⟩ | refine .inr ⟨by first | assumption | omega | with_reducible rfl | (refine fun h => h ?_; first | assumption | with_reducible rfl) | (simp only [List.length_append, List.length_cons, List.length_nil, List.length_set] <;> omega) | decide, ?_⟩) | ((first | refine WPA.ifBt ?_ ?_ | refine WPA.ifBnf ?_ ?_); assumption) | ((first | refine WPA.ifBnt ?_ ?_ | refine WPA.ifBf ?_ ?_); assumption) | ((first | refine WPA.ifs ?_ ?_ | refine WPA.ifB ?_ ?_) <;> intro hc))
  refine WPA.loopS (σ := MS) (fun y => [(4, .pointer (some ⟨t4, 0, none⟩)), (5, .int .i64 0), (6, .slice a.a a.n a.cap), (8, .pointer (some ⟨t8, 0, none⟩)), (27, .int .i64 vs.length), (28, .int .i64 y.k)])
    (fun y => (y.k ≤ n ∧ y.vs.length = n) ∧ SubI y.J J ∧ ∀ j : Nat, j < n → LstE y.J (at_ y.vs (j : Int)) (if j < y.k then (fltM A bss).getD j [] else A.getD j []))
    (fun y => SL w0 y.J (OwnS 36 cg y.vs :: Bk t8 25 [.int .i64 fr, .slice cw.a cw.n cw.cap, .slice cg.a cg.n cg.cap] :: Bk t4 25 [.int .i64 0, .slice none 0 0, .slice none 0 0] :: L)) (fun y => n - y.k) ⟨0, vs, J⟩ ⟨rfl, rfl, rfl, rfl, rfl, rfl, trivial⟩ ⟨⟨Nat.zero_le _, hvn⟩, inferInstance, fun j hj => by rw [if_neg (Nat.not_lt_zero _)]; exact hrw j hj⟩ (fun w h => h.to) ?_
  rintro ⟨k, us, J2⟩ ρ ⟨⟨hk, hul⟩, hs2, hls⟩
  dsimp only at hk hul hs2 hls ⊢
  by_cases hkl : k < n
  · have hkl' : (k : Int) < vs.length := by omega
    have hku : (k : Int) < us.length := by omega
    obtain ⟨bs, b1, b2⟩ := hbs k hkl
    obtain ⟨es, a1, a2, a3⟩ := hAl k hkl
    have hbe := fltM_get a1 b1
    have hlk := hls k hkl
    rw [if_neg (Nat.lt_irrefl _), getD_some a1] at hlk
    obtain ⟨svs, d1, d2, d3⟩ := hgd.sub hs2
    have d4 := d3 k (by omega)
    rw [getD_some b1] at d4
    have hka : (k : Int) < svs.length := by omega
    refine WPA.knowI (fun w hw => hlk.nst hw) fun hnst => ?_
    obtain ⟨⟨p1, p2⟩, p3⟩ := hnst
    generalize rd En J2 (at_ us (k : Int)) = cs at p1 p2 p3
    have hcl : cs.length = es.length := by rw [← p3]; unfold enV; simp
    repeat' (first | ((first | refine WLA.m rfl rfl ?_ ?_ | refine WLA.st rfl ?_ ?_ | refine WLA.x rfl rfl ?_ (fun x => ?_) | refine WLA.x0 rfl ?_ (fun x => ?_)); first | exact trivial | exact rfl | assumption | omega | (refine ⟨?_, ?_⟩ <;> omega) | (simp only [Room, List.length_set, List.length_append, List.length_cons, List.length_nil, List.length_replicate]; omega) | decide | skip) | (refine Stp.go ?_) | (refine WPA.ifT ?_) | (refine WPA.ifF ?_) | ((first | refine WPA.dec ?_); first | refine .inl ⟨by first | assumption | omega | with_reducible rfl | (refine fun h => h ?_; first | assumption | with_reducible rfl) | (simp only [List.length_append, List.length_cons, List.length_nil, List.length_set] <;> omega) | decide, ?_⟩ | refine .inr ⟨by first | assumption | omega | with_reducible rfl | (refine fun h => h ?_; first | assumption | with_reducible rfl) | (simp only [List.length_append, List.length_cons, List.length_nil, List.length_set] <;> omega) | decide, ?_⟩) | ((first | refine WPA.ifBt ?_ ?_ | refine WPA.ifBnf ?_ ?_); assumption) | ((first | refine WPA.ifBnt ?_ ?_ | refine WPA.ifBf ?_ ?_); assumption) | ((first | refine WPA.ifs ?_ ?_ | refine WPA.ifB ?_ ?_) <;> intro hc))
    refine WPA.loopS (σ := IS) (fun y => [(4, .pointer (some ⟨t4, 0, none⟩)), (5, .int .i64 0), (6, .slice a.a a.n a.cap), (8, .pointer (some ⟨t8, 0, none⟩)), (27, .int .i64 vs.length), (28, .int .i64 k), (9, .int .i64 k), (10, .slice y.cur.a y.cur.n y.cur.cap), (35, .slice (at_ us (k : Int)).a (at_ us (k : Int)).n (at_ us (k : Int)).cap), (36, .int .i64 cs.length), (37, .int .i64 y.i)])
      (fun y => y.i ≤ cs.length ∧ y.cs = flt (cs.take y.i) (bs.take y.i))
      (fun y => SL w0 J2 (OwnS 54 y.cur y.cs :: OwnS 36 cg us :: Bk t8 25 [.int .i64 fr, .slice cw.a cw.n cw.cap, .slice cg.a cg.n cg.cap] :: Bk t4 25 [.int .i64 0, .slice none 0 0, .slice none 0 0] :: L)) (fun y => cs.length - y.i) ⟨0, SV.nil, []⟩ ⟨rfl, rfl, rfl, rfl, rfl, rfl, rfl, rfl, rfl, rfl, rfl, trivial⟩ ⟨Nat.zero_le _, rfl⟩ (fun w h => h.to) ?_
    rintro ⟨i, cur, cs2⟩ ρ ⟨hi, hc2⟩
    dsimp only at hi hc2 ⊢
    have hc2l : cs2.length ≤ cs.length := by
      rw [hc2]; exact Nat.le_trans flt_sub.length_le (by rw [List.length_take]; omega)
    by_cases hil : i < cs.length
    · have hil' : (i : Int) < cs.length := by omega
      have hib : (i : Int) < bs.length := by omega
      have t1 : cs.take (i + 1) = cs.take i ++ [at_ cs (i : Int)] := take_one (by rw [List.getElem?_eq_getElem hil, at_nat cs i hil])
      have t2' : bs.take (i + 1) = bs.take i ++ [at_ bs (i : Int)] := take_one (by rw [List.getElem?_eq_getElem (show i < bs.length by omega), at_nat bs i (by omega)])
      have hf := flt_snoc (x := at_ cs (i : Int)) (b := at_ bs (i : Int)) (xs := cs.take i) (bs := bs.take i) (by rw [List.length_take, List.length_take]; omega)
      rw [← t1, ← t2', ← hc2] at hf
      generalize hP : at_ cs (i : Int) = p at hf
      obtain ⟨pG, pP, pB⟩ := p
      by_cases hbi : at_ bs (i : Int) = true
      · rw [if_pos hbi] at hf
        repeat' (first | ((rw [hP]; dsimp only)) | ((rw [hbi])) | ((first | refine WLA.m rfl rfl ?_ ?_ | refine WLA.st rfl ?_ ?_ | refine WLA.x rfl rfl ?_ (fun x => ?_) | refine WLA.x0 rfl ?_ (fun x => ?_)); first | exact trivial | exact rfl | assumption | omega | (refine ⟨?_, ?_⟩ <;> omega) | (simp only [Room, List.length_set, List.length_append, List.length_cons, List.length_nil, List.length_replicate]; omega) | decide | skip) | (refine Stp.go ?_) | (refine WPA.ifT ?_) | (refine WPA.ifF ?_) | ((first | refine WPA.dec ?_); first | refine .inl ⟨by first | assumption | omega | with_reducible rfl | (refine fun h => h ?_; first | assumption | with_reducible rfl) | (simp only [List.length_append, List.length_cons, List.length_nil, List.length_set] <;> omega) | decide, ?_⟩ | refine .inr ⟨by first | assumption | omega | with_reducible rfl | (refine fun h => h ?_; first | assumption | with_reducible rfl) | (simp only [List.length_append, List.length_cons, List.length_nil, List.length_set] <;> omega) | decide, ?_⟩) | ((first | refine WPA.ifBt ?_ ?_ | refine WPA.ifBnf ?_ ?_); assumption) | ((first | refine WPA.ifBnt ?_ ?_ | refine WPA.ifBf ?_ ?_); assumption) | ((first | refine WPA.ifs ?_ ?_ | refine WPA.ifB ?_ ?_) <;> intro hc))
        exact QQ.loopS ⟨i + 1, x, cs2 ++ [(pG, pP, pB)]⟩ ⟨rfl, rfl, rfl, rfl, rfl, rfl, rfl, rfl, rfl, rfl, rfl, trivial⟩ ⟨hil, hf.symm⟩ (by dsimp only; omega) (fun w h => h.to)
      · rw [if_neg hbi, List.append_nil] at hf
        have hbi' : at_ bs (i : Int) = false := by simpa using hbi
        repeat' (first | ((rw [hP]; dsimp only)) | ((rw [hbi'])) | ((first | refine WLA.m rfl rfl ?_ ?_ | refine WLA.st rfl ?_ ?_ | refine WLA.x rfl rfl ?_ (fun x => ?_) | refine WLA.x0 rfl ?_ (fun x => ?_)); first | exact trivial | exact rfl | assumption | omega | (refine ⟨?_, ?_⟩ <;> omega) | (simp only [Room, List.length_set, List.length_append, List.length_cons, List.length_nil, List.length_replicate]; omega) | decide | skip) | (refine Stp.go ?_) | (refine WPA.ifT ?_) | (refine WPA.ifF ?_) | ((first | refine WPA.dec ?_); first | refine .inl ⟨by first | assumption | omega | with_reducible rfl | (refine fun h => h ?_; first | assumption | with_reducible rfl) | (simp only [List.length_append, List.length_cons, List.length_nil, List.length_set] <;> omega) | decide, ?_⟩ | refine .inr ⟨by first | assumption | omega | with_reducible rfl | (refine fun h => h ?_; first | assumption | with_reducible rfl) | (simp only [List.length_append, List.length_cons, List.length_nil, List.length_set] <;> omega) | decide, ?_⟩) | ((first | refine WPA.ifBt ?_ ?_ | refine WPA.ifBnf ?_ ?_); assumption) | ((first | refine WPA.ifBnt ?_ ?_ | refine WPA.ifBf ?_ ?_); assumption) | ((first | refine WPA.ifs ?_ ?_ | refine WPA.ifB ?_ ?_) <;> intro hc))
        exact QQ.loopS ⟨i + 1, cur, cs2⟩ ⟨rfl, rfl, rfl, rfl, rfl, rfl, rfl, rfl, rfl, rfl, rfl, trivial⟩ ⟨hil, hf.symm⟩ (by dsimp only; omega) (fun w h => h.to)
    · have hil' : ¬ (i : Int) < cs.length := by omega
      rw [List.take_of_length_le (by omega), List.take_of_length_le (by omega)] at hc2
      subst hc2
      repeat' (first | ((first | refine WLA.m rfl rfl ?_ ?_ | refine WLA.st rfl ?_ ?_ | refine WLA.x rfl rfl ?_ (fun x => ?_) | refine WLA.x0 rfl ?_ (fun x => ?_)); first | exact trivial | exact rfl | assumption | omega | (refine ⟨?_, ?_⟩ <;> omega) | (simp only [Room, List.length_set, List.length_append, List.length_cons, List.length_nil, List.length_replicate]; omega) | decide | skip) | (refine Stp.go ?_) | (refine WPA.ifT ?_) | (refine WPA.ifF ?_) | ((first | refine WPA.dec ?_); first | refine .inl ⟨by first | assumption | omega | with_reducible rfl | (refine fun h => h ?_; first | assumption | with_reducible rfl) | (simp only [List.length_append, List.length_cons, List.length_nil, List.length_set] <;> omega) | decide, ?_⟩ | refine .inr ⟨by first | assumption | omega | with_reducible rfl | (refine fun h => h ?_; first | assumption | with_reducible rfl) | (simp only [List.length_append, List.length_cons, List.length_nil, List.length_set] <;> omega) | decide, ?_⟩) | ((first | refine WPA.ifBt ?_ ?_ | refine WPA.ifBnf ?_ ?_); assumption) | ((first | refine WPA.ifBnt ?_ ?_ | refine WPA.ifBf ?_ ?_); assumption) | ((first | refine WPA.ifs ?_ ?_ | refine WPA.ifB ?_ ?_) <;> intro hc))
      refine QQ.ent (EntC.out (L' := OwnS 54 cur (flt cs bs) :: OwnS 36 cg (us.set (k : Int).toNat cur) :: Bk t8 25 [.int .i64 fr, .slice cw.a cw.n cw.cap, .slice cg.a cg.n cg.cap] :: Bk t4 25 [.int .i64 0, .slice none 0 0, .slice none 0 0] :: L)) ?_
      refine QQ.freeze fun R hR => ?_
      refine QQ.loopS ⟨k + 1, us.set (k : Int).toNat cur, R ++ J2⟩ ⟨rfl, rfl, rfl, rfl, rfl, rfl, trivial⟩ ⟨⟨hkl, by dsimp only; rw [List.length_set]; exact hul⟩, inferInstance, fun j hj => ?_⟩ (by dsimp only; omega) (fun w h => h.to)
      dsimp only
      rw [show (k : Int).toNat = k from rfl]
      by_cases hjk : j = k
      · subst hjk
        rw [at_set (by omega), if_pos (by omega), getD_some hbe, ← p3]
        have e : flt (enV (rd Int J2) cs) bs = enV (rd Int J2) (flt cs bs) := flt_map.symm
        rw [e]
        have := SlI.ofOwn hR
        exact LstE.of (J := R ++ J2) SlI.left fun p hp => (p2 p (flt_sub.subset hp)).sub
      · rw [at_nat _ j (by rw [List.length_set]; omega), List.getElem_set_ne (by omega), ← at_nat us j (by omega)]
        have := (hls j hj).sub (J' := R ++ J2) inferInstance
        by_cases hjl : j < k
        · rw [if_pos hjl] at this; rwa [if_pos (by omega)]
        · rw [if_neg hjl] at this; rwa [if_neg (by omega)]
  · have hkl' : ¬ (k : Int) < vs.length := by omega
    have hkn : k = n := by omega
    subst hkn
    repeat' (first | ((first | refine WLA.m rfl rfl ?_ ?_ | refine WLA.st rfl ?_ ?_ | refine WLA.x rfl rfl ?_ (fun x => ?_) | refine WLA.x0 rfl ?_ (fun x => ?_)); first | exact trivial | exact rfl | assumption | omega | (refine ⟨?_, ?_⟩ <;> omega) | (simp only [Room, List.length_set, List.length_append, List.length_cons, List.length_nil, List.length_replicate]; omega) | decide | skip) | (refine Stp.go ?_) | (refine WPA.ifT ?_) | (refine WPA.ifF ?_) | ((first | refine WPA.dec ?_); first | refine .inl ⟨by first | assumption | omega | with_reducible rfl | (refine fun h => h ?_; first | assumption | with_reducible rfl) | (simp only [List.length_append, List.length_cons, List.length_nil, List.length_set] <;> omega) | decide, ?_⟩ | refine .inr ⟨by first | assumption | omega | with_reducible rfl | (refine fun h => h ?_; first | assumption | with_reducible rfl) | (simp only [List.length_append, List.length_cons, List.length_nil, List.length_set] <;> omega) | decide, ?_⟩) | ((first | refine WPA.ifBt ?_ ?_ | refine WPA.ifBnf ?_ ?_); assumption) | ((first | refine WPA.ifBnt ?_ ?_ | refine WPA.ifBf ?_ ?_); assumption) | ((first | refine WPA.ifs ?_ ?_ | refine WPA.ifB ?_ ?_) <;> intro hc))
    refine QQ.ent (EntC.out (L' := OwnS 36 cg us :: Bk t4 25 [.int .i64 fr, .slice cw.a cw.n cw.cap, .slice cg.a cg.n cg.cap] :: L)) ?_
    refine QQ.freeze fun R hR => ?_
    refine QQ.endc rfl (cw, cg, R ++ J2) rfl fun w h => ⟨⟨⟨fun z hz => List.mem_append_right _ (hs2.out (hs.out hz))⟩, ?_⟩, h.to⟩
    have h4 := SlI.ofOwn hR
    have hBl : (fltM A bss).length = k := by unfold fltM; rw [List.length_zipWith]; omega
    refine ⟨SlI.right (h := hsw.sub), us, SlI.left, by omega, fun j hj => ?_⟩
    have := (hls j (by omega)).sub (J' := R ++ J2) inferInstance
    rwa [if_pos (by omega)] at this
end
end Go.Proofs.Ytcomkdndddkbeaa
namespace Go.Proofs.Ytcomkdndddkbeaa
open Go Go.Fw Go.RowKit
set_option linter.unusedVariables false
set_option linter.unusedSimpArgs false
set_option maxRecDepth 100000
set_option maxHeartbeats 16000000
set_option synthInstance.maxHeartbeats 200000
set_option synthInstance.maxSize 100000
attribute [local irreducible] WPA WLA WDA WDQ WDE QQ seqQ blockQ loopQ fnQ OpP OpT Tr TrP SL SLd OwnS LitS Bk BkE Ob
attribute [local irreducible] TblH VocH GridH RowH RowX RowsE RowE ClM
structure QS where
  k : Nat
  o : SV
  vs : List SV
  J : Foot
end Go.Proofs.Ytcomkdndddkbeaa
namespace Go.Fw
open Go Go.RowKit
set_option linter.unusedVariables false
set_option linter.unusedSimpArgs false
theorem run_clip {P : Program} {n cap : Nat} {k1 k2 : IntKind} (h : n ≤ cap) (w : World) : (Instr.sliceBounds true n cap none (some (.int k1 n)) (some (.int k2 n))).run P w = .ok (0, n, n) w := by
  have e1 : ¬ ((n : Int) < 0) := by omega
  have e2 : (n : Int) ≤ (cap : Int) := by omega
  simp [Instr.sliceBounds, Instr.sliceBound, asIntOf, e1, e2, h, go_sem]
def clipV (s : SV) : SV := ⟨s.a, s.n, s.n⟩
theorem slI_clip {I : Foot} {s : SV} {α : Type} [e : Enc α] {xs : List α} (h : SlI I s α e xs) : SlI I (clipV s) α e xs := ⟨fun w hw => by
  have := h.out w hw
  exact ⟨this.len, Nat.le_refl _, this.plain, this.cells⟩⟩
section
variable {P : Program} {ρ : Env} {A : World → Prop} {ty : TypeId} {w0 : World} {I : Foot} {L : List HP}
instance {x hi mx : Operand} {t el : TypeId} {s : SV} {h m : Int} {k1 k2 : IntKind} {sz bytes : Nat} {z : List Value} {α : Type} {en : Enc α} {xs : List α} [hx : Ev ρ x (.slice s.a s.n s.cap)] [ht : Und P t (.slice el)] [hz : Inf P el z sz bytes] [hA : InSL A w0 I L] [hr : RdS I L s α en xs] [hh : Ev ρ hi (.int k1 h)] [hm : Ev ρ mx (.int k2 m)] :
    OpM P ρ A (.slice t x none (some hi) (some mx)) ty (.slice (clipV s).a (clipV s).n (clipV s).cap) (h = xs.length ∧ m = xs.length) := ⟨fun hb d pos af g w hw => by
  have hw' := hr.out w0 w (hA.out w hw)
  obtain ⟨inf, hinf, hz'⟩ := Option.map_eq_some_iff.1 hz.size
  have hn := hw'.len
  have hc := hw'.cap
  have hb' := run_clip (P := P) (k1 := k1) (k2 := k2) hc w
  have hs : (Go.sizeOf el).run P w = .ok sz w := by simp [Go.sizeOf, typeInfo, hinf, hz', go_sem]
  have e1 : evalE ρ hi = .int k1 (s.n : Int) := by rw [hh.out, hb.1, hn]
  have e2 : evalE ρ mx = .int k2 (s.n : Int) := by rw [hm.out, hb.2, hn]
  have ea : (if s.n = 0 then s.a else s.a.map (fun a => a.add (0 * sz))) = s.a := by
    rcases hw'.plain with h0 | ⟨b, o, h0⟩
    · rw [if_pos h0]
    · rw [h0]
      split
      · rfl
      · simp only [Option.map_some, Nat.zero_mul]; unfold Addr.add; split <;> simp_all
  simp only [execOp, Instr.sliceAt, Instr.slice, hx.out, Sem.run_bind, run_underlying ht.out, Result.andThen_ok, Option.map_none, Option.map_some, e1, e2, hb', hs, Sem.run_pure, Nat.sub_zero, ea, clipV]⟩
end
end Go.Fw
namespace Go.Proofs.Ytcomkdndddkbeaa
open Go Go.Fw Go.RowKit
set_option linter.unusedVariables false
set_option linter.unusedSimpArgs false
set_option maxRecDepth 100000
set_option maxHeartbeats 16000000
set_option synthInstance.maxHeartbeats 200000
set_option synthInstance.maxSize 100000
attribute [local irreducible] WPA WLA WDA WDQ WDE QQ seqQ blockQ loopQ fnQ OpP OpT Tr TrP SL SLd OwnS LitS Bk BkE Ob
theorem RowsE.split : ∀ {s1 s2 : List SV} {A1 A2 : List (List EV)} {L : List HP}, s1.length = A1.length → Ent (RowsE (s1 ++ s2) (A1 ++ A2) :: L) (RowsE s1 A1 :: RowsE s2 A2 :: L)
  | [], s2, [], t2, L, _ => Ent.intro1 rfl
  | s :: s1, s2, t :: t1, t2, L, h => by
    simp only [List.cons_append, RowsE]
    refine Ent.unstar.trans ?_
    refine (Ent.cons (RowsE.split (by simpa using h))).trans ?_
    exact Ent.star Ent.refl
  | [], s2, t :: t1, t2, L, h => by simp at h
  | s :: s1, s2, [], t2, L, h => by simp at h
theorem RowsE.first {vs : List SV} {A : List (List EV)} {L : List HP} (m : Nat) (hi : m < vs.length) (hl : vs.length = A.length) :
    Ent (RowsE vs A :: L) (RowsE (vs.take m) (A.take m) :: RowE (vs[m]) (A[m]'(by omega)) :: L) := by
  have e1 : vs = vs.take m ++ vs[m] :: vs.drop (m + 1) := by rw [List.getElem_cons_drop, List.take_append_drop]
  have e2 : A = A.take m ++ A[m] :: A.drop (m + 1) := by rw [List.getElem_cons_drop, List.take_append_drop]
  have h0 : Ent (RowsE vs A :: L) (RowsE (vs.take m ++ vs[m] :: vs.drop (m + 1)) (A.take m ++ A[m] :: A.drop (m + 1)) :: L) := by rw [← e1, ← e2]; exact Ent.refl
  refine h0.trans ((RowsE.split (by simp; omega)).trans (Ent.cons ?_))
  exact Ent.unstar.trans (Ent.cons Ent.drop1)
attribute [local irreducible] TblH VocH GridH RowH RowX RowsE RowE ClM
def zE (e : EV) : EV := ((e.1.1, 0), e.2)
def zB (p : En) : En := (p.1, p.2.1, 0)
def shM (A : List (List EV)) (m : Nat) : List (List EV) := A.take m ++ [(A.getD m []).map zE]
theorem shM_len {A : List (List EV)} {m : Nat} (h : m < A.length) : (shM A m).length = m + 1 := by unfold shM; simp; omega
theorem shM_lt {A : List (List EV)} {m j : Nat} (h : m < A.length) (hj : j < m) : (shM A m).getD j [] = A.getD j [] := by
  unfold shM
  rw [List.getD_eq_getElem?_getD, List.getElem?_append_left (by simp; omega), List.getElem?_take, if_pos hj, ← List.getD_eq_getElem?_getD]
theorem shM_at {A : List (List EV)} {m : Nat} (h : m < A.length) : (shM A m).getD m [] = (A.getD m []).map zE := by
  unfold shM
  rw [List.getD_eq_getElem?_getD, List.getElem?_append_right (by simp; omega), List.length_take, Nat.min_eq_left (by omega), Nat.sub_self]; rfl
section
variable {kg : SV → List Int} {re : SV → List En} {L : List HP} {w0 : World} {I : Foot}
theorem Clip_tr {s : SV} {vs : List SV} [hr : SlI I s SV inferInstance vs] : Tr Try.prog 43 #[.slice s.a s.n s.cap] (SL w0 I L) (fun _ : Unit => .slice (clipV s).a (clipV s).n (clipV s).cap) (fun _ => SL w0 I L) := by
  refine Tr.intro Try.func43 rfl Try.ntmps43 rfl ?_
  repeat' (first | ((first | refine WLA.m rfl rfl ?_ ?_ | refine WLA.st rfl ?_ ?_ | refine WLA.x rfl rfl ?_ (fun x => ?_) | refine WLA.x0 rfl ?_ (fun x => ?_)); first | exact trivial | exact rfl | assumption | omega | (refine ⟨?_, ?_⟩ <;> omega) | (simp only [Room, List.length_set, List.length_append, List.length_cons, List.length_nil, List.length_replicate]; omega) | decide | skip) | (refine Stp.go ?_) | (refine WPA.ifT ?_) | (refine WPA.ifF ?_) | ((first | refine WPA.dec ?_); first | refine .inl ⟨by first | assumption | omega | with_reducible rfl | (refine fun h => h ?_; first | assumption | with_reducible rfl) | (simp only [List.length_append, List.length_cons, List.length_nil, List.length_set] <;> omega) | decide, ?_⟩ | refine .inr ⟨by first | assumption | omega | with_reducible rfl | (refine fun h => h ?_; first | assumption | with_reducible rfl) | (simp only [List.length_append, List.length_cons, List.length_nil, List.length_set] <;> omega) | decide, ?_⟩) | ((first | refine WPA.ifBt ?_ ?_ | refine WPA.ifBnf ?_ ?_); assumption) | ((first | refine WPA.ifBnt ?_ ?_ | refine WPA.ifBf ?_ ?_); assumption) | ((first | refine WPA.ifs ?_ ?_ | refine WPA.ifB ?_ ?_) <;> intro hc))
  exact QQ.end_ rfl () rfl fun w h => h.to
theorem Shorter_bad {fr o : Int} {wv g : SV} {ws : List ByteArray} {gr : List SV} (hM : MdI I kg re wv g ws gr) (hck : chkM kg re fr ws gr ≠ 0) :
    Tr Try.prog 19 #[.agg #[.int .i64 fr, .slice wv.a wv.n wv.cap, .slice g.a g.n g.cap], .int .i64 o] (SL w0 I L) (fun _ : Unit => .tuple #[.agg #[.int .i64 0, .slice none 0 0, .slice none 0 0], .int .i64 (chkM kg re fr ws gr)]) (fun _ => SL w0 I L) := by
  refine Tr.intro Try.func19 rfl Try.ntmps19 rfl ?_
  repeat' (first | ((first | refine WLA.m rfl rfl ?_ ?_ | refine WLA.st rfl ?_ ?_ | refine WLA.x rfl rfl ?_ (fun x => ?_) | refine WLA.x0 rfl ?_ (fun x => ?_)); first | exact trivial | exact rfl | assumption | omega | (refine ⟨?_, ?_⟩ <;> omega) | (simp only [Room, List.length_set, List.length_append, List.length_cons, List.length_nil, List.length_replicate]; omega) | decide | skip) | (refine Stp.go ?_) | (guard_target =~ WLA _ _ _ _ _ (⟨_, .call ⟨.value (.func 23), _, _⟩, _, _, _, _⟩ :: _) _ _; first | (refine WLA.call rfl rfl (Check_tr hM) ?_; rintro ⟨⟩) | (refine WLA.call0 rfl (Check_tr hM) ?_; rintro ⟨⟩)) | (refine WPA.ifT ?_) | (refine WPA.ifF ?_) | ((first | refine WPA.dec ?_); first | refine .inl ⟨by first | assumption | omega | with_reducible rfl | (refine fun h => h ?_; first | assumption | with_reducible rfl) | (simp only [List.length_append, List.length_cons, List.length_nil, List.length_set] <;> omega) | decide, ?_⟩ | refine .inr ⟨by first | assumption | omega | with_reducible rfl | (refine fun h => h ?_; first | assumption | with_reducible rfl) | (simp only [List.length_append, List.length_cons, List.length_nil, List.length_set] <;> omega) | decide, ?_⟩) | ((first | refine WPA.ifBt ?_ ?_ | refine WPA.ifBnf ?_ ?_); assumption) | ((first | refine WPA.ifBnt ?_ ?_ | refine WPA.ifBf ?_ ?_); assumption) | ((first | refine WPA.ifs ?_ ?_ | refine WPA.ifB ?_ ?_) <;> intro hc))
  exact QQ.endc rfl () rfl fun w h => h.to
theorem Shorter_arg {fr o : Int} {wv g : SV} {ws : List ByteArray} {gr : List SV} (hM : MdI I kg re wv g ws gr) (hck : chkM kg re fr ws gr = 0) (ho : o < 1 ∨ gr.length < o) :
    Tr Try.prog 19 #[.agg #[.int .i64 fr, .slice wv.a wv.n wv.cap, .slice g.a g.n g.cap], .int .i64 o] (SL w0 I L) (fun _ : Unit => .tuple #[.agg #[.int .i64 0, .slice none 0 0, .slice none 0 0], .int .i64 1]) (fun _ => SL w0 I L) := by
  refine Tr.intro Try.func19 rfl Try.ntmps19 rfl ?_
  have hck' : ¬ chkM kg re fr ws gr ≠ 0 := fun h => h hck
  have hg := hM.grams
  by_cases h1 : o < 1
  · skip
    repeat' (first | ((first | refine WLA.m rfl rfl ?_ ?_ | refine WLA.st rfl ?_ ?_ | refine WLA.x rfl rfl ?_ (fun x => ?_) | refine WLA.x0 rfl ?_ (fun x => ?_)); first | exact trivial | exact rfl | assumption | omega | (refine ⟨?_, ?_⟩ <;> omega) | (simp only [Room, List.length_set, List.length_append, List.length_cons, List.length_nil, List.length_replicate]; omega) | decide | skip) | (refine Stp.go ?_) | (guard_target =~ WLA _ _ _ _ _ (⟨_, .call ⟨.value (.func 23), _, _⟩, _, _, _, _⟩ :: _) _ _; first | (refine WLA.call rfl rfl (Check_tr hM) ?_; rintro ⟨⟩) | (refine WLA.call0 rfl (Check_tr hM) ?_; rintro ⟨⟩)) | (refine WPA.ifT ?_) | (refine WPA.ifF ?_) | (refine WLA.no rfl rfl ?_) | ((first | refine WPA.dec ?_ | ((fail_if_success (guard_target =~ WLA _ _ _ _ _ _ (put1 _ _ (.bool true)) _)); (fail_if_success (guard_target =~ WLA _ _ _ _ _ _ (put1 _ _ (.bool false)) _)); refine WLA.dec rfl rfl ?_) | refine WLA.pk ?_); first | refine .inl ⟨by first | assumption | omega | with_reducible rfl | (refine fun h => h ?_; first | assumption | with_reducible rfl) | (simp only [List.length_append, List.length_cons, List.length_nil, List.length_set] <;> omega) | decide, ?_⟩ | refine .inr ⟨by first | assumption | omega | with_reducible rfl | (refine fun h => h ?_; first | assumption | with_reducible rfl) | (simp only [List.length_append, List.length_cons, List.length_nil, List.length_set] <;> omega) | decide, ?_⟩) | ((first | refine WPA.ifBt ?_ ?_ | refine WPA.ifBnf ?_ ?_); assumption) | ((first | refine WPA.ifBnt ?_ ?_ | refine WPA.ifBf ?_ ?_); assumption) | ((first | refine WPA.ifs ?_ ?_ | refine WPA.ifB ?_ ?_) <;> intro hc) | ((fail_if_success (guard_target =~ WLA _ _ _ _ _ _ (put1 _ _ (.bool true)) _)); (fail_if_success (guard_target =~ WLA _ _ _ _ _ _ (put1 _ _ (.bool false)) _)); (first | refine WLA.both rfl rfl ?_ ?_ | refine WLA.bothB rfl rfl ?_ ?_) <;> intro hg))
    exact QQ.endc rfl () rfl fun w h => h.to
  · have h2 : (gr.length : Int) < o := ho.resolve_left h1
    repeat' (first | ((first | refine WLA.m rfl rfl ?_ ?_ | refine WLA.st rfl ?_ ?_ | refine WLA.x rfl rfl ?_ (fun x => ?_) | refine WLA.x0 rfl ?_ (fun x => ?_)); first | exact trivial | exact rfl | assumption | omega | (refine ⟨?_, ?_⟩ <;> omega) | (simp only [Room, List.length_set, List.length_append, List.length_cons, List.length_nil, List.length_replicate]; omega) | decide | skip) | (refine Stp.go ?_) | (guard_target =~ WLA _ _ _ _ _ (⟨_, .call ⟨.value (.func 23), _, _⟩, _, _, _, _⟩ :: _) _ _; first | (refine WLA.call rfl rfl (Check_tr hM) ?_; rintro ⟨⟩) | (refine WLA.call0 rfl (Check_tr hM) ?_; rintro ⟨⟩)) | (refine WPA.ifT ?_) | (refine WPA.ifF ?_) | (refine WLA.no rfl rfl ?_) | ((first | refine WPA.dec ?_ | ((fail_if_success (guard_target =~ WLA _ _ _ _ _ _ (put1 _ _ (.bool true)) _)); (fail_if_success (guard_target =~ WLA _ _ _ _ _ _ (put1 _ _ (.bool false)) _)); refine WLA.dec rfl rfl ?_) | refine WLA.pk ?_); first | refine .inl ⟨by first | assumption | omega | with_reducible rfl | (refine fun h => h ?_; first | assumption | with_reducible rfl) | (simp only [List.length_append, List.length_cons, List.length_nil, List.length_set] <;> omega) | decide, ?_⟩ | refine .inr ⟨by first | assumption | omega | with_reducible rfl | (refine fun h => h ?_; first | assumption | with_reducible rfl) | (simp only [List.length_append, List.length_cons, List.length_nil, List.length_set] <;> omega) | decide, ?_⟩) | ((first | refine WPA.ifBt ?_ ?_ | refine WPA.ifBnf ?_ ?_); assumption) | ((first | refine WPA.ifBnt ?_ ?_ | refine WPA.ifBf ?_ ?_); assumption) | ((first | refine WPA.ifs ?_ ?_ | refine WPA.ifB ?_ ?_) <;> intro hc) | ((fail_if_success (guard_target =~ WLA _ _ _ _ _ _ (put1 _ _ (.bool true)) _)); (fail_if_success (guard_target =~ WLA _ _ _ _ _ _ (put1 _ _ (.bool false)) _)); (first | refine WLA.both rfl rfl ?_ ?_ | refine WLA.bothB rfl rfl ?_ ?_) <;> intro hg))
    exact QQ.endc rfl () rfl fun w h => h.to
theorem Shorter_ok {fr : Int} {m : Nat} {wv g : SV} {ws : List ByteArray} {gr : List SV} (hM : MdI I kg re wv g ws gr) (hck : chkM kg re fr ws gr = 0) (hm : m < gr.length) :
    Tr Try.prog 19 #[.agg #[.int .i64 fr, .slice wv.a wv.n wv.cap, .slice g.a g.n g.cap], .int .i64 ((m + 1 : Nat) : Int)] (SL w0 I L) (fun x : SV × SV × Foot => .tuple #[.agg #[.int .i64 fr, .slice x.1.a x.1.n x.1.cap, .slice x.2.1.a x.2.1.n x.2.1.cap], .int .i64 0])
      (fun x w => (SubI x.2.2 I ∧ MdL x.2.2 x.1 x.2.1 ws (shM (gr.map fun h => enV kg (re h)) m)) ∧ SL w0 x.2.2 L w) := by
  refine Tr.intro Try.func19 rfl Try.ntmps19 rfl ?_
  have hck' : ¬ chkM kg re fr ws gr ≠ 0 := fun h => h hck
  have ha := hM.toR.toL
  have fa := hM.fewA
  have hg := hM.grams
  have hgn := hM.gln
  have hAn : (gr.map fun h => enV kg (re h)).length = gr.length := List.length_map _
  generalize (gr.map fun h => enV kg (re h)) = A at ha fa hAn
  have ho1 : ¬ ((m + 1 : Nat) : Int) < 1 := by omega
  have ho2 : ¬ (gr.length : Int) < ((m + 1 : Nat) : Int) := by omega
  have em : (((m + 1 : Nat) : Int) - 1) = (m : Int) := by omega
  have hsm : -9223372036854775808 ≤ ((m + 1 : Nat) : Int) - 1 ∧ ((m + 1 : Nat) : Int) - 1 ≤ 9223372036854775807 := by omega
  repeat' ((fail_if_success (guard_target =~ WPA _ _ _ (.region 7 _ _) _ _ _)); first | ((first | refine WLA.m rfl rfl ?_ ?_ | refine WLA.st rfl ?_ ?_ | refine WLA.x rfl rfl ?_ (fun x => ?_) | refine WLA.x0 rfl ?_ (fun x => ?_)); first | exact trivial | exact rfl | assumption | omega | (refine ⟨?_, ?_⟩ <;> omega) | (simp only [Room, List.length_set, List.length_append, List.length_cons, List.length_nil, List.length_replicate]; omega) | decide | skip) | (refine Stp.go ?_) | (guard_target =~ WLA _ _ _ _ _ (⟨_, .call ⟨.value (.func 23), _, _⟩, _, _, _, _⟩ :: _) _ _; first | (refine WLA.call rfl rfl (Check_tr hM) ?_; rintro ⟨⟩) | (refine WLA.call0 rfl (Check_tr hM) ?_; rintro ⟨⟩)) | (guard_target =~ WLA _ _ _ _ _ (⟨_, .call ⟨.value (.func 28), _, _⟩, _, _, _, _⟩ :: _) _ _; first | (refine WLA.call rfl rfl (mClone_trI ha fa) ?_; rintro ⟨cw, cg⟩; dsimp only) | (refine WLA.call0 rfl (mClone_trI ha fa) ?_; rintro ⟨cw, cg⟩; dsimp only)) | (refine WPA.ifT ?_) | (refine WPA.ifF ?_) | (refine WLA.no rfl rfl ?_) | ((first | refine WPA.dec ?_ | ((fail_if_success (guard_target =~ WLA _ _ _ _ _ _ (put1 _ _ (.bool true)) _)); (fail_if_success (guard_target =~ WLA _ _ _ _ _ _ (put1 _ _ (.bool false)) _)); refine WLA.dec rfl rfl ?_) | refine WLA.pk ?_); first | refine .inl ⟨by first | assumption | omega | with_reducible rfl | (refine fun h => h ?_; first | assumption | with_reducible rfl) | (simp only [List.length_append, List.length_cons, List.length_nil, List.length_set] <;> omega) | decide, ?_⟩ | refine .inr ⟨by first | assumption | omega | with_reducible rfl | (refine fun h => h ?_; first | assumption | with_reducible rfl) | (simp only [List.length_append, List.length_cons, List.length_nil, List.length_set] <;> omega) | decide, ?_⟩) | ((first | refine WPA.ifBt ?_ ?_ | refine WPA.ifBnf ?_ ?_); assumption) | ((first | refine WPA.ifBnt ?_ ?_ | refine WPA.ifBf ?_ ?_); assumption) | ((first | refine WPA.ifs ?_ ?_ | refine WPA.ifB ?_ ?_) <;> intro hc) | ((fail_if_success (guard_target =~ WLA _ _ _ _ _ _ (put1 _ _ (.bool true)) _)); (fail_if_success (guard_target =~ WLA _ _ _ _ _ _ (put1 _ _ (.bool false)) _)); (first | refine WLA.both rfl rfl ?_ ?_ | refine WLA.bothB rfl rfl ?_ ?_) <;> intro hg))
  rename_i t2 t4
  revert x; intro t7
  refine WPA.ent (EntC.out (L' := ClM cw (cg, ws, A) :: Bk t7 25 [.int .i64 fr, .slice cw.a cw.n cw.cap, .slice cg.a cg.n cg.cap] :: Bk t4 25 [.int .i64 0, .slice none 0 0, .slice none 0 0] :: L)) ?_
  refine WPA.clm fun vs hvl => ?_
  have hAm : m < A.length := by omega
  refine WPA.freeze fun R1 h1 => ?_
  refine WPA.freeze fun R2 h2 => ?_
  refine WPA.ent (RowsE.first m (by omega) hvl) ?_
  refine WPA.freeze fun R3 h3 => ?_
  have hv : at_ vs (m : Int) = vs[m] := at_nat vs m (by omega)
  have hvt : at_ (vs.take (m + 1)) (m : Int) = vs[m] := by rw [at_nat _ m (by simp; omega), List.getElem_take]
  have hes : A.getD m [] = A[m] := by rw [List.getD_eq_getElem?_getD, List.getElem?_eq_getElem hAm]; rfl
  have hfm := (fa.2 _ (List.getElem_mem hAm)).1
  generalize vs[m] = v at hv hvt
  generalize A[m] = es at hes hfm
  refine WPA.rowE fun cs hcs => ?_
  have hcl : cs.length = es.length := by have := congrArg List.length hcs; simpa using this
  refine WPA.ent (EntC.out (L' := RowH 3 (cs.map Prod.fst) (es.map Prod.snd) :: OwnS 54 v cs :: Bk t7 25 [.int .i64 fr, .slice cw.a cw.n cw.cap, .slice cg.a cg.n cg.cap] :: Bk t4 25 [.int .i64 0, .slice none 0 0, .slice none 0 0] :: L)) ?_
  refine WPA.freeze fun R4 h4 => ?_
  have s1 := SlI.ofOwn h1
  have s2 := SlI.ofOwn h2
  have hs : SubI (R4 ++ (R3 ++ (R2 ++ (R1 ++ I)))) I := inferInstance
  have hsw : SlI (R4 ++ (R3 ++ (R2 ++ (R1 ++ I)))) cw ByteArray inferInstance ws := inferInstance
  have hsv : SlI (R4 ++ (R3 ++ (R2 ++ (R1 ++ I)))) cg SV inferInstance vs := inferInstance
  have hlow : ∀ j : Nat, j < m → LstE (R4 ++ (R3 ++ (R2 ++ (R1 ++ I)))) (at_ (vs.take (m + 1)) (j : Int)) (A.getD j []) := fun j hj => by
    have := RowsE.lst h3 (by simp; omega) (J := R4 ++ (R3 ++ (R2 ++ (R1 ++ I)))) ⟨fun _ h => List.mem_append_right _ (List.mem_append_left _ h)⟩ j (by simp; omega) (by simp; omega)
    rw [List.getElem_take, List.getElem_take] at this
    rw [at_nat _ j (by simp; omega), List.getElem_take, List.getD_eq_getElem?_getD, List.getElem?_eq_getElem (show j < A.length by omega)]
    exact this
  have hgs : ∀ i : Nat, i < cs.length → SlI (R4 ++ (R3 ++ (R2 ++ (R1 ++ I)))) (at_ cs (i : Int)).1 Int inferInstance (es.getD i ((0, 0), [])).2 := fun i hi => by
    have h := RowH.frozen h4 i (by rw [List.length_map]; exact hi) (by rw [List.length_map]; omega)
    rw [List.getD_eq_getElem?_getD, List.getD_eq_getElem?_getD, List.getElem?_map, List.getElem?_map, List.getElem?_eq_getElem hi, List.getElem?_eq_getElem (show i < es.length by omega)] at h
    rw [at_nat cs i hi, List.getD_eq_getElem?_getD, List.getElem?_eq_getElem (show i < es.length by omega)]
    exact SlI.left (h := h)
  generalize R4 ++ (R3 ++ (R2 ++ (R1 ++ I))) = J at hs hsw hsv hlow hgs
  clear h1 h2 h3 h4 s1 s2
  have hcut : cutL vs 0 ((m + 1 : Nat) : Int) = vs.take (m + 1) := cut_take (by omega)
  have hs1 : SlI J (cg.cut 1 0 ((m + 1 : Nat) : Int)) SV inferInstance (vs.take (m + 1)) := by
    have hci : SlI J (cg.cut 1 0 ((m + 1 : Nat) : Int)) SV inferInstance (cutL vs 0 ((m + 1 : Nat) : Int)) := inferInstance
    rwa [hcut] at hci
  have hrg : (0 : Int) ≤ ((m + 1 : Nat) : Int) ∧ ((m + 1 : Nat) : Int) ≤ vs.length := by omega
  repeat' (first | ((first | refine WLA.m rfl rfl ?_ ?_ | refine WLA.st rfl ?_ ?_ | refine WLA.x rfl rfl ?_ (fun x => ?_) | refine WLA.x0 rfl ?_ (fun x => ?_)); first | exact trivial | exact rfl | assumption | omega | (refine ⟨?_, ?_⟩ <;> omega) | (simp only [Room, List.length_set, List.length_append, List.length_cons, List.length_nil, List.length_replicate]; omega) | decide | skip) | (refine Stp.go ?_) | (guard_target =~ WLA _ _ _ _ _ (⟨_, .call ⟨.value (.func 43), _, _⟩, _, _, _, _⟩ :: _) _ _; first | (refine WLA.call rfl rfl (Clip_tr (hr := hs1)) ?_; rintro ⟨⟩) | (refine WLA.call0 rfl (Clip_tr (hr := hs1)) ?_; rintro ⟨⟩)) | (refine WPA.ifT ?_) | (refine WPA.ifF ?_) | ((first | refine WPA.dec ?_); first | refine .inl ⟨by first | assumption | omega | with_reducible rfl | (refine fun h => h ?_; first | assumption | with_reducible rfl) | (simp only [List.length_append, List.length_cons, List.length_nil, List.length_set] <;> omega) | decide, ?_⟩ | refine .inr ⟨by first | assumption | omega | with_reducible rfl | (refine fun h => h ?_; first | assumption | with_reducible rfl) | (simp only [List.length_append, List.length_cons, List.length_nil, List.length_set] <;> omega) | decide, ?_⟩) | ((first | refine WPA.ifBt ?_ ?_ | refine WPA.ifBnf ?_ ?_); assumption) | ((first | refine WPA.ifBnt ?_ ?_ | refine WPA.ifBf ?_ ?_); assumption) | ((first | refine WPA.ifs ?_ ?_ | refine WPA.ifB ?_ ?_) <;> intro hc))
  have hs2 := slI_clip hs1
  generalize clipV (cg.cut 1 0 ((m + 1 : Nat) : Int)) = c2 at hs2
  have htl : (m : Int) < (vs.take (m + 1)).length := by rw [List.length_take]; omega
  repeat' (first | ((rw [em])) | ((rw [hvt])) | ((first | refine WLA.m rfl rfl ?_ ?_ | refine WLA.st rfl ?_ ?_ | refine WLA.x rfl rfl ?_ (fun x => ?_) | refine WLA.x0 rfl ?_ (fun x => ?_)); first | exact trivial | exact rfl | assumption | omega | (refine ⟨?_, ?_⟩ <;> omega) | (simp only [Room, List.length_set, List.length_append, List.length_cons, List.length_nil, List.length_replicate]; omega) | decide | skip) | (refine Stp.go ?_) | (refine WPA.ifT ?_) | (refine WPA.ifF ?_) | ((first | refine WPA.dec ?_); first | refine .inl ⟨by first | assumption | omega | with_reducible rfl | (refine fun h => h ?_; first | assumption | with_reducible rfl) | (simp only [List.length_append, List.length_cons, List.length_nil, List.length_set] <;> omega) | decide, ?_⟩ | refine .inr ⟨by first | assumption | omega | with_reducible rfl | (refine fun h => h ?_; first | assumption | with_reducible rfl) | (simp only [List.length_append, List.length_cons, List.length_nil, List.length_set] <;> omega) | decide, ?_⟩) | ((first | refine WPA.ifBt ?_ ?_ | refine WPA.ifBnf ?_ ?_); assumption) | ((first | refine WPA.ifBnt ?_ ?_ | refine WPA.ifBf ?_ ?_); assumption) | ((first | refine WPA.ifs ?_ ?_ | refine WPA.ifB ?_ ?_) <;> intro hc))
  refine WPA.loopS (σ := Nat × List En) (fun y => [(1, .int .i64 ((m + 1 : Nat) : Int)), (4, .pointer (some ⟨t4, 0, none⟩)), (7, .pointer (some ⟨t7, 0, none⟩)), (39, .int .i64 cs.length), (40, .int .i64 y.1)])
    (fun y => (y.1 ≤ cs.length ∧ y.2.length = cs.length) ∧ ∀ j : Nat, j < cs.length → at_ y.2 (j : Int) = if j < y.1 then zB (at_ cs (j : Int)) else at_ cs (j : Int))
    (fun y => SL w0 J (OwnS 54 v y.2 :: Bk t7 25 [.int .i64 fr, .slice cw.a cw.n cw.cap, .slice c2.a c2.n c2.cap] :: Bk t4 25 [.int .i64 0, .slice none 0 0, .slice none 0 0] :: L)) (fun y => cs.length - y.1) (0, cs) ⟨rfl, rfl, rfl, rfl, rfl, trivial⟩ ⟨⟨Nat.zero_le _, rfl⟩, fun j _ => by rw [if_neg (Nat.not_lt_zero _)]⟩ (fun w h => h.to) ?_
  rintro ⟨i, cs2⟩ ρ ⟨⟨hi, hc2⟩, hat⟩
  dsimp only at hi hc2 hat ⊢
  by_cases hil : i < cs.length
  · have hil' : (i : Int) < cs.length := by omega
    have hil2 : (i : Int) < cs2.length := by omega
    repeat' (first | ((rw [em])) | ((rw [hvt])) | ((first | refine WLA.m rfl rfl ?_ ?_ | refine WLA.st rfl ?_ ?_ | refine WLA.x rfl rfl ?_ (fun x => ?_) | refine WLA.x0 rfl ?_ (fun x => ?_)); first | exact trivial | exact rfl | assumption | omega | (refine ⟨?_, ?_⟩ <;> omega) | (simp only [Room, List.length_set, List.length_append, List.length_cons, List.length_nil, List.length_replicate]; omega) | decide | skip) | (refine Stp.go ?_) | (refine WPA.ifT ?_) | (refine WPA.ifF ?_) | ((first | refine WPA.dec ?_); first | refine .inl ⟨by first | assumption | omega | with_reducible rfl | (refine fun h => h ?_; first | assumption | with_reducible rfl) | (simp only [List.length_append, List.length_cons, List.length_nil, List.length_set] <;> omega) | decide, ?_⟩ | refine .inr ⟨by first | assumption | omega | with_reducible rfl | (refine fun h => h ?_; first | assumption | with_reducible rfl) | (simp only [List.length_append, List.length_cons, List.length_nil, List.length_set] <;> omega) | decide, ?_⟩) | ((first | refine WPA.ifBt ?_ ?_ | refine WPA.ifBnf ?_ ?_); assumption) | ((first | refine WPA.ifBnt ?_ ?_ | refine WPA.ifBf ?_ ?_); assumption) | ((first | refine WPA.ifs ?_ ?_ | refine WPA.ifB ?_ ?_) <;> intro hc))
    refine QQ.loopS (i + 1, cs2.set (i : Int).toNat ((at_ cs2 (i : Int)).1, (at_ cs2 (i : Int)).2.1, 0)) ⟨rfl, rfl, rfl, rfl, rfl, trivial⟩ ⟨⟨hil, by dsimp only; rw [List.length_set]; exact hc2⟩, fun j hj => ?_⟩ (by dsimp only; omega) (fun w h => h.to)
    dsimp only
    rw [show (i : Int).toNat = i from rfl]
    by_cases hji : j = i
    · subst hji
      rw [at_set (by omega), if_pos (by omega), hat j hj, if_neg (Nat.lt_irrefl _)]; rfl
    · rw [at_nat _ j (by rw [List.length_set]; omega), List.getElem_set_ne (by omega), ← at_nat cs2 j (by omega), hat j hj]
      by_cases hlt : j < i
      · rw [if_pos hlt, if_pos (by omega)]
      · rw [if_neg hlt, if_neg (by omega)]
  · have hil' : ¬ (i : Int) < cs.length := by omega
    repeat' (first | ((first | refine WLA.m rfl rfl ?_ ?_ | refine WLA.st rfl ?_ ?_ | refine WLA.x rfl rfl ?_ (fun x => ?_) | refine WLA.x0 rfl ?_ (fun x => ?_)); first | exact trivial | exact rfl | assumption | omega | (refine ⟨?_, ?_⟩ <;> omega) | (simp only [Room, List.length_set, List.length_append, List.length_cons, List.length_nil, List.length_replicate]; omega) | decide | skip) | (refine Stp.go ?_) | (refine WPA.ifT ?_) | (refine WPA.ifF ?_) | ((first | refine WPA.dec ?_); first | refine .inl ⟨by first | assumption | omega | with_reducible rfl | (refine fun h => h ?_; first | assumption | with_reducible rfl) | (simp only [List.length_append, List.length_cons, List.length_nil, List.length_set] <;> omega) | decide, ?_⟩ | refine .inr ⟨by first | assumption | omega | with_reducible rfl | (refine fun h => h ?_; first | assumption | with_reducible rfl) | (simp only [List.length_append, List.length_cons, List.length_nil, List.length_set] <;> omega) | decide, ?_⟩) | ((first | refine WPA.ifBt ?_ ?_ | refine WPA.ifBnf ?_ ?_); assumption) | ((first | refine WPA.ifBnt ?_ ?_ | refine WPA.ifBf ?_ ?_); assumption) | ((first | refine WPA.ifs ?_ ?_ | refine WPA.ifB ?_ ?_) <;> intro hc))
    refine QQ.ent (EntC.out (L' := OwnS 54 v cs2 :: Bk t4 25 [.int .i64 fr, .slice cw.a cw.n cw.cap, .slice c2.a c2.n c2.cap] :: L)) ?_
    refine QQ.freeze fun R hR => ?_
    refine QQ.endc rfl (cw, c2, R ++ J) rfl fun w h => ⟨⟨⟨fun z hz => List.mem_append_right _ (hs.out hz)⟩, ?_⟩, h.to⟩
    have h5 := SlI.ofOwn hR
    refine ⟨SlI.right (h := hsw), vs.take (m + 1), SlI.right (h := hs2), by rw [shM_len hAm, List.length_take]; omega, fun j hj => ?_⟩
    rw [shM_len hAm] at hj
    by_cases hjm : j = m
    · subst hjm
      rw [shM_at hAm, hes, hvt]
      refine ⟨cs2, SlI.left, List.ext_getElem (by simp; omega) fun q q1 q2 => ?_, fun q hq => ?_⟩
      · rw [List.length_map] at q1
        have hq := hat q (by omega)
        rw [if_pos (by omega), at_nat _ q q1, at_nat _ q (by omega)] at hq
        have hz := congrArg (fun l => l[q]?) hcs
        simp only [List.getElem?_map, List.getElem?_eq_getElem (show q < cs.length by omega), List.getElem?_eq_getElem (show q < es.length by omega), Option.map_some, Option.some.injEq] at hz
        simp only [List.getElem_map, hq]
        unfold zB zE
        rw [← hz]
      · have hq2 := hat q (by omega)
        rw [if_pos (by omega)] at hq2
        have := hgs q (by omega)
        rw [hq2, List.getD_eq_getElem?_getD, List.getElem?_map, List.getElem?_eq_getElem (show q < es.length by omega)]
        rw [List.getD_eq_getElem?_getD, List.getElem?_eq_getElem (show q < es.length by omega)] at this
        exact SlI.right (h := this)
    · rw [shM_lt hAm (by omega)]
      exact (hlow j (by omega)).sub inferInstance
theorem rShorter_tr {fr : Int} {m : Nat} {wv g : SV} {ws : List ByteArray} {gr : List SV} (hM : MdI I kg re wv g ws gr) (hm : m < gr.length) :
    Tr Try.prog 20 #[.agg #[.int .i64 fr, .slice wv.a wv.n wv.cap, .slice g.a g.n g.cap], .int .i64 ((m + 1 : Nat) : Int)] (SL w0 I L) (fun x : SV × Foot => .agg #[.int .i64 fr, .slice wv.a wv.n wv.cap, .slice x.1.a x.1.n x.1.cap])
      (fun x w => (SubI x.2 I ∧ MdL x.2 wv x.1 ws (shM (gr.map fun h => enV kg (re h)) m)) ∧ SL w0 x.2 L w) := by
  refine Tr.intro Try.func20 rfl Try.ntmps20 rfl ?_
  have hgn := hM.gln
  have hg := hM.grams
  have hwd := hM.words
  have em : (((m + 1 : Nat) : Int) - 1) = (m : Int) := by omega
  have hsm : -9223372036854775808 ≤ ((m + 1 : Nat) : Int) - 1 ∧ ((m + 1 : Nat) : Int) - 1 ≤ 9223372036854775807 := by omega
  have hAm : m < (gr.map fun h => enV kg (re h)).length := by rw [List.length_map]; exact hm
  repeat' (first | ((first | refine WLA.m rfl rfl ?_ ?_ | refine WLA.st rfl ?_ ?_ | refine WLA.x rfl rfl ?_ (fun x => ?_) | refine WLA.x0 rfl ?_ (fun x => ?_)); first | exact trivial | exact rfl | assumption | omega | (refine ⟨?_, ?_⟩ <;> omega) | (simp only [Room, List.length_set, List.length_append, List.length_cons, List.length_nil, List.length_replicate]; omega) | decide | skip) | (refine Stp.go ?_) | (refine WPA.ifT ?_) | (refine WPA.ifF ?_) | ((first | refine WPA.dec ?_); first | refine .inl ⟨by first | assumption | omega | with_reducible rfl | (refine fun h => h ?_; first | assumption | with_reducible rfl) | (simp only [List.length_append, List.length_cons, List.length_nil, List.length_set] <;> omega) | decide, ?_⟩ | refine .inr ⟨by first | assumption | omega | with_reducible rfl | (refine fun h => h ?_; first | assumption | with_reducible rfl) | (simp only [List.length_append, List.length_cons, List.length_nil, List.length_set] <;> omega) | decide, ?_⟩) | ((first | refine WPA.ifBt ?_ ?_ | refine WPA.ifBnf ?_ ?_); assumption) | ((first | refine WPA.ifBnt ?_ ?_ | refine WPA.ifBf ?_ ?_); assumption) | ((first | refine WPA.ifs ?_ ?_ | refine WPA.ifB ?_ ?_) <;> intro hc))
  rename_i t2 t4
  revert x; intro t5
  refine WPA.loopS (σ := QS) (fun y => [(1, .int .i64 ((m + 1 : Nat) : Int)), (2, .pointer (some ⟨t2, 0, none⟩)), (4, .pointer (some ⟨t4, 0, none⟩)), (5, .pointer (some ⟨t5, 0, none⟩)), (6, .int .i64 y.k)])
    (fun y => (y.k ≤ m + 1 ∧ y.vs.length = y.k) ∧ SubI y.J I ∧ ∀ j : Nat, j < y.k → LstE y.J (at_ y.vs (j : Int)) ((shM (gr.map fun h => enV kg (re h)) m).getD j []))
    (fun y => SL w0 y.J (OwnS 36 y.o y.vs :: Bk t5 25 [.int .i64 fr, .slice wv.a wv.n wv.cap, .slice y.o.a y.o.n y.o.cap] :: Bk t2 25 [.int .i64 fr, .slice wv.a wv.n wv.cap, .slice g.a g.n g.cap] :: Bk t4 25 [.int .i64 0, .slice none 0 0, .slice none 0 0] :: L)) (fun y => m + 1 - y.k) ⟨0, SV.nil, [], I⟩ ⟨rfl, rfl, rfl, rfl, rfl, trivial⟩ ⟨⟨Nat.zero_le _, rfl⟩, inferInstance, fun j hj => absurd hj (Nat.not_lt_zero _)⟩ (fun w h => ?_) ?_
  · show SL w0 I (OwnS 36 SV.nil ([] : List SV) :: Bk t5 25 [.int .i64 fr, .slice wv.a wv.n wv.cap, .slice none 0 0] :: Bk t2 25 [.int .i64 fr, .slice wv.a wv.n wv.cap, .slice g.a g.n g.cap] :: Bk t4 25 [.int .i64 0, .slice none 0 0, .slice none 0 0] :: L) w
    exact h.to
  rintro ⟨k, og, us, J2⟩ ρ ⟨⟨hk, hul⟩, hs2, hls⟩
  dsimp only at hk hul hs2 hls ⊢
  have hg2 := hg.sub (I' := J2)
  by_cases hkl : k < m + 1
  · have hkl' : (k : Int) < ((m + 1 : Nat) : Int) := by omega
    have hkg : (k : Int) < gr.length := by omega
    have hme : at_ gr (k : Int) ∈ gr := by rw [at_nat gr k (by omega)]; exact List.getElem_mem _
    have p1 := (hM.rows _ hme).sub (I' := J2)
    have p2 : EnG J2 kg (re (at_ gr (k : Int))) := fun p hp => (hM.elems _ hme p hp).sub
    have hlk := hM.rln _ hme
    have hAk : (gr.map fun h => enV kg (re h)).getD k [] = enV kg (re (at_ gr (k : Int))) := getD_some (by rw [List.getElem?_map, List.getElem?_eq_getElem (show k < gr.length by omega), at_nat gr k (by omega)]; rfl)
    generalize re (at_ gr (k : Int)) = cs at p1 p2 hlk hAk
    repeat' (first | ((first | refine WLA.m rfl rfl ?_ ?_ | refine WLA.st rfl ?_ ?_ | refine WLA.x rfl rfl ?_ (fun x => ?_) | refine WLA.x0 rfl ?_ (fun x => ?_)); first | exact trivial | exact rfl | assumption | omega | (refine ⟨?_, ?_⟩ <;> omega) | (simp only [Room, List.length_set, List.length_append, List.length_cons, List.length_nil, List.length_replicate]; omega) | decide | skip) | (refine Stp.go ?_) | (refine WPA.ifT ?_) | (refine WPA.ifF ?_) | ((first | refine WPA.dec ?_); first | refine .inl ⟨by first | assumption | omega | with_reducible rfl | (refine fun h => h ?_; first | assumption | with_reducible rfl) | (simp only [List.length_append, List.length_cons, List.length_nil, List.length_set] <;> omega) | decide, ?_⟩ | refine .inr ⟨by first | assumption | omega | with_reducible rfl | (refine fun h => h ?_; first | assumption | with_reducible rfl) | (simp only [List.length_append, List.length_cons, List.length_nil, List.length_set] <;> omega) | decide, ?_⟩) | ((first | refine WPA.ifBt ?_ ?_ | refine WPA.ifBnf ?_ ?_); assumption) | ((first | refine WPA.ifBnt ?_ ?_ | refine WPA.ifBf ?_ ?_); assumption) | ((first | refine WPA.ifs ?_ ?_ | refine WPA.ifB ?_ ?_) <;> intro hc))
    refine WPA.loopS (σ := IS) (fun y => [(1, .int .i64 ((m + 1 : Nat) : Int)), (2, .pointer (some ⟨t2, 0, none⟩)), (4, .pointer (some ⟨t4, 0, none⟩)), (5, .pointer (some ⟨t5, 0, none⟩)), (6, .int .i64 k), (7, .slice y.cur.a y.cur.n y.cur.cap), (8, .int .i64 y.i)])
      (fun y => y.i ≤ cs.length ∧ y.cs = if k = m then (cs.take y.i).map zB else cs.take y.i)
      (fun y => SL w0 J2 (OwnS 54 y.cur y.cs :: OwnS 36 og us :: Bk t5 25 [.int .i64 fr, .slice wv.a wv.n wv.cap, .slice og.a og.n og.cap] :: Bk t2 25 [.int .i64 fr, .slice wv.a wv.n wv.cap, .slice g.a g.n g.cap] :: Bk t4 25 [.int .i64 0, .slice none 0 0, .slice none 0 0] :: L)) (fun y => cs.length - y.i) ⟨0, SV.nil, []⟩ ⟨rfl, rfl, rfl, rfl, rfl, rfl, rfl, trivial⟩ ⟨Nat.zero_le _, by simp⟩ (fun w h => h.to) ?_
    rintro ⟨i, cur, cs2⟩ ρ ⟨hi, hc2⟩
    dsimp only at hi hc2 ⊢
    have hc2l : cs2.length ≤ cs.length := by
      rw [hc2]; split <;> simp <;> omega
    by_cases hil : i < cs.length
    · have hil' : (i : Int) < cs.length := by omega
      have t1 : cs.take (i + 1) = cs.take i ++ [at_ cs (i : Int)] := take_one (by rw [List.getElem?_eq_getElem hil, at_nat cs i hil])
      have hf1 : k = m → cs2 ++ [zB (at_ cs (i : Int))] = if k = m then (cs.take (i + 1)).map zB else cs.take (i + 1) := fun h => by rw [hc2, if_pos h, if_pos h, t1, List.map_append]; rfl
      have hf2 : ¬ k = m → cs2 ++ [at_ cs (i : Int)] = if k = m then (cs.take (i + 1)).map zB else cs.take (i + 1) := fun h => by rw [hc2, if_neg h, if_neg h, t1]
      generalize hP : at_ cs (i : Int) = p at hf1 hf2
      obtain ⟨pG, pP, pB⟩ := p
      by_cases hkm : k = m
      · have hkm' : (k : Int) = (m : Int) := by omega
        repeat' (first | ((rw [hP]; dsimp only)) | ((rw [em])) | ((first | refine WLA.m rfl rfl ?_ ?_ | refine WLA.st rfl ?_ ?_ | refine WLA.x rfl rfl ?_ (fun x => ?_) | refine WLA.x0 rfl ?_ (fun x => ?_)); first | exact trivial | exact rfl | assumption | omega | (refine ⟨?_, ?_⟩ <;> omega) | (simp only [Room, List.length_set, List.length_append, List.length_cons, List.length_nil, List.length_replicate]; omega) | decide | skip) | (refine Stp.go ?_) | (refine WPA.ifT ?_) | (refine WPA.ifF ?_) | ((first | refine WPA.dec ?_); first | refine .inl ⟨by first | assumption | omega | with_reducible rfl | (refine fun h => h ?_; first | assumption | with_reducible rfl) | (simp only [List.length_append, List.length_cons, List.length_nil, List.length_set] <;> omega) | decide, ?_⟩ | refine .inr ⟨by first | assumption | omega | with_reducible rfl | (refine fun h => h ?_; first | assumption | with_reducible rfl) | (simp only [List.length_append, List.length_cons, List.length_nil, List.length_set] <;> omega) | decide, ?_⟩) | ((first | refine WPA.ifBt ?_ ?_ | refine WPA.ifBnf ?_ ?_); assumption) | ((first | refine WPA.ifBnt ?_ ?_ | refine WPA.ifBf ?_ ?_); assumption) | ((first | refine WPA.ifs ?_ ?_ | refine WPA.ifB ?_ ?_) <;> intro hc))
        exact QQ.loopS ⟨i + 1, x, cs2 ++ [(pG, pP, 0)]⟩ ⟨rfl, rfl, rfl, rfl, rfl, rfl, rfl, trivial⟩ ⟨hil, hf1 hkm⟩ (by dsimp only; omega) (fun w h => h.to)
      · have hkm' : ¬ (k : Int) = (m : Int) := by omega
        repeat' (first | ((rw [hP]; dsimp only)) | ((rw [em])) | ((first | refine WLA.m rfl rfl ?_ ?_ | refine WLA.st rfl ?_ ?_ | refine WLA.x rfl rfl ?_ (fun x => ?_) | refine WLA.x0 rfl ?_ (fun x => ?_)); first | exact trivial | exact rfl | assumption | omega | (refine ⟨?_, ?_⟩ <;> omega) | (simp only [Room, List.length_set, List.length_append, List.length_cons, List.length_nil, List.length_replicate]; omega) | decide | skip) | (refine Stp.go ?_) | (refine WPA.ifT ?_) | (refine WPA.ifF ?_) | ((first | refine WPA.dec ?_); first | refine .inl ⟨by first | assumption | omega | with_reducible rfl | (refine fun h => h ?_; first | assumption | with_reducible rfl) | (simp only [List.length_append, List.length_cons, List.length_nil, List.length_set] <;> omega) | decide, ?_⟩ | refine .inr ⟨by first | assumption | omega | with_reducible rfl | (refine fun h => h ?_; first | assumption | with_reducible rfl) | (simp only [List.length_append, List.length_cons, List.length_nil, List.length_set] <;> omega) | decide, ?_⟩) | ((first | refine WPA.ifBt ?_ ?_ | refine WPA.ifBnf ?_ ?_); assumption) | ((first | refine WPA.ifBnt ?_ ?_ | refine WPA.ifBf ?_ ?_); assumption) | ((first | refine WPA.ifs ?_ ?_ | refine WPA.ifB ?_ ?_) <;> intro hc))
        exact QQ.loopS ⟨i + 1, x, cs2 ++ [(pG, pP, pB)]⟩ ⟨rfl, rfl, rfl, rfl, rfl, rfl, rfl, trivial⟩ ⟨hil, hf2 hkm⟩ (by dsimp only; omega) (fun w h => h.to)
    · have hil' : ¬ (i : Int) < cs.length := by omega
      rw [List.take_of_length_le (by omega)] at hc2
      repeat' (first | ((first | refine WLA.m rfl rfl ?_ ?_ | refine WLA.st rfl ?_ ?_ | refine WLA.x rfl rfl ?_ (fun x => ?_) | refine WLA.x0 rfl ?_ (fun x => ?_)); first | exact trivial | exact rfl | assumption | omega | (refine ⟨?_, ?_⟩ <;> omega) | (simp only [Room, List.length_set, List.length_append, List.length_cons, List.length_nil, List.length_replicate]; omega) | decide | skip) | (refine Stp.go ?_) | (refine WPA.ifT ?_) | (refine WPA.ifF ?_) | ((first | refine WPA.dec ?_); first | refine .inl ⟨by first | assumption | omega | with_reducible rfl | (refine fun h => h ?_; first | assumption | with_reducible rfl) | (simp only [List.length_append, List.length_cons, List.length_nil, List.length_set] <;> omega) | decide, ?_⟩ | refine .inr ⟨by first | assumption | omega | with_reducible rfl | (refine fun h => h ?_; first | assumption | with_reducible rfl) | (simp only [List.length_append, List.length_cons, List.length_nil, List.length_set] <;> omega) | decide, ?_⟩) | ((first | refine WPA.ifBt ?_ ?_ | refine WPA.ifBnf ?_ ?_); assumption) | ((first | refine WPA.ifBnt ?_ ?_ | refine WPA.ifBf ?_ ?_); assumption) | ((first | refine WPA.ifs ?_ ?_ | refine WPA.ifB ?_ ?_) <;> intro hc))
      refine QQ.ent (EntC.out (L' := OwnS 54 cur cs2 :: OwnS 36 x (us ++ [cur]) :: Bk t5 25 [.int .i64 fr, .slice wv.a wv.n wv.cap, .slice x.a x.n x.cap] :: Bk t2 25 [.int .i64 fr, .slice wv.a wv.n wv.cap, .slice g.a g.n g.cap] :: Bk t4 25 [.int .i64 0, .slice none 0 0, .slice none 0 0] :: L)) ?_
      refine QQ.freeze fun R hR => ?_
      refine QQ.loopS ⟨k + 1, x, us ++ [cur], R ++ J2⟩ ⟨rfl, rfl, rfl, rfl, rfl, trivial⟩ ⟨⟨hkl, by simp [hul]⟩, inferInstance, fun j hj => ?_⟩ (by dsimp only; omega) (fun w h => h.to)
      dsimp only at hj ⊢
      by_cases hjk : j = k
      · subst hjk
        rw [at_nat _ j (by simp; omega), List.getElem_append_right (by omega)]
        simp only [hul, Nat.sub_self, List.getElem_cons_zero]
        have h6 := SlI.ofOwn hR
        by_cases hkm : j = m
        · subst hkm
          rw [if_pos rfl] at hc2
          rw [shM_at hAm, hAk]
          have e : (enV kg cs).map zE = enV kg cs2 := by rw [hc2]; unfold enV; rw [List.map_map, List.map_map]; rfl
          rw [e]
          refine LstE.of (J := R ++ J2) SlI.left fun p hp => ?_
          rw [hc2] at hp
          obtain ⟨q, hq, rfl⟩ := List.mem_map.1 hp
          exact SlI.right (h := p2 q hq)
        · rw [if_neg hkm] at hc2
          subst hc2
          rw [shM_lt hAm (by omega), hAk]
          exact LstE.of (J := R ++ J2) SlI.left fun p hp => (p2 p hp).sub
      · rw [at_nat _ j (by simp; omega), List.getElem_append_left (by omega), ← at_nat us j (by omega)]
        exact (hls j (by omega)).sub (J' := R ++ J2) inferInstance
  · have hkl' : ¬ (k : Int) < ((m + 1 : Nat) : Int) := by omega
    have hke : k = m + 1 := by omega
    subst hke
    repeat' (first | ((first | refine WLA.m rfl rfl ?_ ?_ | refine WLA.st rfl ?_ ?_ | refine WLA.x rfl rfl ?_ (fun x => ?_) | refine WLA.x0 rfl ?_ (fun x => ?_)); first | exact trivial | exact rfl | assumption | omega | (refine ⟨?_, ?_⟩ <;> omega) | (simp only [Room, List.length_set, List.length_append, List.length_cons, List.length_nil, List.length_replicate]; omega) | decide | skip) | (refine Stp.go ?_) | (refine WPA.ifT ?_) | (refine WPA.ifF ?_) | ((first | refine WPA.dec ?_); first | refine .inl ⟨by first | assumption | omega | with_reducible rfl | (refine fun h => h ?_; first | assumption | with_reducible rfl) | (simp only [List.length_append, List.length_cons, List.length_nil, List.length_set] <;> omega) | decide, ?_⟩ | refine .inr ⟨by first | assumption | omega | with_reducible rfl | (refine fun h => h ?_; first | assumption | with_reducible rfl) | (simp only [List.length_append, List.length_cons, List.length_nil, List.length_set] <;> omega) | decide, ?_⟩) | ((first | refine WPA.ifBt ?_ ?_ | refine WPA.ifBnf ?_ ?_); assumption) | ((first | refine WPA.ifBnt ?_ ?_ | refine WPA.ifBf ?_ ?_); assumption) | ((first | refine WPA.ifs ?_ ?_ | refine WPA.ifB ?_ ?_) <;> intro hc))
    refine QQ.ent (EntC.out (L' := OwnS 36 og us :: Bk t4 25 [.int .i64 fr, .slice wv.a wv.n wv.cap, .slice og.a og.n og.cap] :: L)) ?_
    refine QQ.freeze fun R hR => ?_
    refine QQ.endc rfl (og, R ++ J2) rfl fun w h => ⟨⟨⟨fun z hz => List.mem_append_right _ (hs2.out hz)⟩, ?_⟩, h.to⟩
    have h4 := SlI.ofOwn hR
    exact ⟨SlI.right (h := hwd.sub), us, SlI.left, by rw [shM_len hAm, hul], fun j hj => (hls j (by rw [shM_len hAm] at hj; exact hj)).sub (J' := R ++ J2) inferInstance⟩
end
end Go.Proofs.Ytcomkdndddkbeaa
namespace Go.Proofs.Ytcomkdndddkbeaa
open Go Go.Fw Go.RowKit
set_option linter.unusedVariables false
set_option linter.unusedSimpArgs false
set_option maxRecDepth 100000
set_option maxHeartbeats 16000000
set_option synthInstance.maxHeartbeats 200000
set_option synthInstance.maxSize 100000
attribute [local irreducible] WPA WLA WDA WDQ WDE QQ seqQ blockQ loopQ fnQ OpP OpT Tr TrP SL SLd OwnS LitS Bk BkE Ob
theorem firstN_all {f : Nat → Int} : ∀ {n : Nat}, (∀ i, i < n → f i = 0) → firstN f n = 0
  | 0, _ => rfl
  | n + 1, h => by rw [firstN_succ (firstN_all fun i hi => h i (by omega))]; exact h n (by omega)
structure ValA (fr : Int) (ws : List ByteArray) (A : List (List EV)) : Prop where
  hf : ¬ (fr < 0 ∨ 12 < fr)
  h8 : 1 ≤ A.length ∧ A.length ≤ 8
  hw : ofE ws = 0
  ent : ∀ k : Nat, k < A.length → ∀ e ∈ A.getD k [], entE e.2 e.1.1 e.1.2 ((k : Int) + 1) ws.length (decide ((k : Int) = (A.length : Int) - 1)) = 0
  ris : ∀ k : Nat, k < A.length → ((A.getD k []).map (·.2)).Pairwise ltL
  pre : ∀ k : Nat, 0 < k → k < A.length → ∀ e ∈ A.getD k [], e.2.take k ∈ (A.getD (k - 1) []).map (·.2)
  wds : (A.getD 0 []).length = ws.length
section
variable {kg : SV → List Int} {re : SV → List En} {fr : Int} {ws : List ByteArray} {gr : List SV}
theorem rows_get {k : Nat} (hk : k < gr.length) : (gr.map fun h => enV kg (re h)).getD k [] = enV kg (re (at_ gr (k : Int))) := getD_some (by rw [List.getElem?_map, List.getElem?_eq_getElem hk, at_nat gr k hk]; rfl)
theorem en_map {es : List En} : (enV kg es).map (·.2) = es.map fun p => kg p.1 := by unfold enV; rw [List.map_map]; rfl
theorem en_at {es : List En} {i : Nat} (hi : i < es.length) : (enV kg es)[i]? = some ((at_ es (i : Int)).2, kg (at_ es (i : Int)).1) := by unfold enV; rw [List.getElem?_map, List.getElem?_eq_getElem hi, at_nat es i hi]; rfl
theorem en_mem {es : List En} {e : EV} (h : e ∈ enV kg es) : ∃ i : Nat, i < es.length ∧ e = ((at_ es (i : Int)).2, kg (at_ es (i : Int)).1) := by
  unfold enV at h
  obtain ⟨p, hp, rfl⟩ := List.mem_map.1 h
  obtain ⟨i, hi, rfl⟩ := List.getElem_of_mem hp
  exact ⟨i, hi, by rw [at_nat es i hi]⟩
theorem chkM_val (h : chkM kg re fr ws gr = 0) : ValA fr ws (gr.map fun h => enV kg (re h)) := by
  obtain ⟨z1, z2, z3⟩ := chkM_zero h
  obtain ⟨y1, y2, y3⟩ := chkM_words h
  have hE := chkM_E h
  have hcl := chkM_cl h
  have h0 := h
  unfold chkM at h
  split at h
  · cases h
  rename_i hc
  split at h
  · contradiction
  rename_i ho
  refine ⟨fun hh => hc (hh.elim .inl fun h => .inr (.inl h)), by rw [List.length_map]; omega, Classical.byContradiction ho, fun k hk e he => ?_, fun k hk => ?_, fun k h1 hk e he => ?_, ?_⟩
  · rw [List.length_map] at hk ⊢
    rw [rows_get hk] at he
    obtain ⟨i, hi, rfl⟩ := en_mem he
    exact (chkE_gram (hE k hk i hi)).1
  · rw [List.length_map] at hk
    rw [rows_get hk, en_map]
    exact z2 _ (by rw [at_nat gr k hk]; exact List.getElem_mem _)
  · rw [List.length_map] at hk
    rw [rows_get hk] at he
    rw [rows_get (show k - 1 < gr.length by omega), en_map]
    obtain ⟨i, hi, rfl⟩ := en_mem he
    obtain ⟨j, hj, hje⟩ := hcl k i h1 hk hi
    exact List.mem_map.2 ⟨at_ (re (at_ gr ((k - 1 : Nat) : Int))) (j : Int), by unfold nN at hj; rw [at_nat _ j hj]; exact List.getElem_mem _, hje⟩
  · rw [rows_get (show 0 < gr.length by omega)]
    unfold enV
    rw [List.length_map]; exact y2
theorem val_chkM (h : ValA fr ws (gr.map fun h => enV kg (re h))) : chkM kg re fr ws gr = 0 := by
  obtain ⟨hf, h8, hw, he, hr, hp, hd⟩ := h
  rw [List.length_map] at h8
  unfold chkM
  rw [if_neg (by rintro (h | h | h | h); exact hf (.inl h); exact hf (.inr h); omega; omega), if_neg (fun hh => hh hw)]
  refine firstN_all fun k hk => ?_
  have hk' : k < (gr.map fun h => enV kg (re h)).length := by rw [List.length_map]; exact hk
  have e1 := he k hk'
  have e2 := hr k hk'
  have e3 := fun h0 => hp k h0 hk'
  rw [rows_get hk] at e1 e2 e3
  rw [List.length_map] at e1
  unfold chkL
  have hz : firstN (chkE kg ws.length (decide ((k : Int) = (gr.length : Int) - 1)) k (re (at_ gr (k : Int))) (re (at_ gr ((k : Int) - 1)))) (re (at_ gr (k : Int))).length = 0 := by
    refine firstN_all fun i hi => ?_
    have hmi := List.mem_of_getElem? (en_at (kg := kg) hi)
    unfold chkE
    rw [if_neg (fun h => h (e1 _ hmi)), if_neg, if_neg]
    · rintro ⟨h0, h1⟩
      apply h1
      have hl : (kg (at_ (re (at_ gr (k : Int))) (i : Int)).1).length = k + 1 := by
        have := (entE_gram (e1 _ hmi)).1
        dsimp only at this; omega
      have := e3 h0 _ hmi
      rw [rows_get (show k - 1 < gr.length by omega), en_map] at this
      rw [cut_take (by omega), show (k : Int) - 1 = ((k - 1 : Nat) : Int) by omega]
      exact this
    · rintro ⟨h0, h1⟩
      rw [en_map] at e2
      have := ris_lt (kg := kg) (es := re (at_ gr (k : Int))) e2 (show i - 1 < i by omega) hi
      rw [show ((i - 1 : Nat) : Int) = (i : Int) - 1 by omega] at this
      unfold ltL at this
      omega
  unfold chkLs
  rw [if_neg (fun h => h hz), if_neg]
  rintro ⟨rfl, h1⟩
  rw [rows_get (show 0 < gr.length by omega)] at hd
  unfold enV at hd
  rw [List.length_map] at hd
  exact h1 hd
end
section
variable {kg : SV → List Int} {re : SV → List En} {cn : SV → List Bool} {fr : Int} {ws : List ByteArray} {gr ks : List SV}
theorem shM_val {m : Nat} (h : chkM kg re fr ws gr = 0) (hm : m < gr.length) : ValA fr ws (shM (gr.map fun h => enV kg (re h)) m) := by
  obtain ⟨hf, h8, hw, he, hr, hp, hd⟩ := chkM_val h
  have hA : (gr.map fun h => enV kg (re h)).length = gr.length := List.length_map _
  generalize (gr.map fun h => enV kg (re h)) = A at h8 he hr hp hd hA
  have hAm : m < A.length := by omega
  have hmap : (A.getD m []).map zE = (A.getD m []).map zE := rfl
  have h2 : ((A.getD m []).map zE).map (·.2) = (A.getD m []).map (·.2) := by rw [List.map_map]; rfl
  refine ⟨hf, by rw [shM_len hAm]; omega, hw, fun k hk e hmm => ?_, fun k hk => ?_, fun k h0 hk e hmm => ?_, ?_⟩
  · rw [shM_len hAm] at hk ⊢
    by_cases hkm : k = m
    · subst hkm
      rw [shM_at hAm] at hmm
      obtain ⟨q, hq, rfl⟩ := List.mem_map.1 hmm
      have hz := he k hAm q hq
      unfold zE
      dsimp only
      unfold entE at hz ⊢
      by_cases c1 : (q.2.length : Int) ≠ (k : Int) + 1
      · rw [if_pos c1] at hz; cases hz
      rw [if_neg c1] at hz ⊢
      by_cases c2 : BadW ws.length q.2
      · rw [if_pos c2] at hz; cases hz
      rw [if_neg c2] at hz ⊢
      by_cases c3 : 1 ∈ q.2.drop 1
      · rw [if_pos c3] at hz; cases hz
      rw [if_neg c3] at hz ⊢
      by_cases c4 : ¬ (CodeP q.1.1 ∧ CodeP q.1.2)
      · rw [if_pos c4] at hz; cases hz
      have c5 := Classical.byContradiction c4
      rw [if_neg (fun h => h ⟨c5.1, by decide⟩), if_neg (fun h => h.2 rfl)]
    · rw [shM_lt hAm (by omega)] at hmm
      have hz := he k (by omega) e hmm
      rw [decide_eq_false (by omega)] at hz ⊢
      exact hz
  · rw [shM_len hAm] at hk
    by_cases hkm : k = m
    · subst hkm; rw [shM_at hAm, h2]; exact hr k hAm
    · rw [shM_lt hAm (by omega)]; exact hr k (by omega)
  · rw [shM_len hAm] at hk
    rw [shM_lt hAm (show k - 1 < m by omega)]
    by_cases hkm : k = m
    · subst hkm
      rw [shM_at hAm] at hmm
      obtain ⟨q, hq, rfl⟩ := List.mem_map.1 hmm
      exact hp k h0 hAm q hq
    · rw [shM_lt hAm (by omega)] at hmm
      exact hp k h0 (by omega) e hmm
  · by_cases hm0 : m = 0
    · subst hm0; rw [shM_at hAm, List.length_map]; exact hd
    · rw [shM_lt hAm (by omega)]; exact hd
theorem prb_one (h : chkM kg re fr ws gr = 0) (w : Int) : prbN kg re gr w [] = if 0 ≤ w ∧ w < ws.length then (at_ (re (at_ gr 0)) w).2.1 else -1073741824 := by
  obtain ⟨z1, z2, z3⟩ := chkM_zero h
  obtain ⟨y1, y2, y3⟩ := chkM_words h
  rw [prbN]
  by_cases hw : 0 ≤ w ∧ w < ws.length
  · obtain ⟨f1, f2⟩ := chkM_fnd h (show w.toNat < ws.length by omega)
    rw [show ((w.toNat : Nat) : Int) = w by omega] at f1 f2
    rw [if_pos f1, if_pos hw, f2]
  · rw [if_neg hw, if_neg]
    rintro ⟨_, hm⟩
    obtain ⟨p, hp, he⟩ := List.mem_map.1 hm
    rw [show (([w] : List Int).length : Int) - 1 = 0 from rfl] at hp
    obtain ⟨i, hi, rfl⟩ := List.getElem_of_mem hp
    have := y3 i (by omega)
    rw [at_nat _ i hi, he] at this
    injection this with this
    omega
end
end Go.Proofs.Ytcomkdndddkbeaa
