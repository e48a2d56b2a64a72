/- Texts that RunBack_law leans on, part 13. Conditions: none. -/
import Derived.Test.YtbekjbgaenjbfaaQb12
namespace Go.Proofs.Ytbekjbgaenjbfaa
open Go Go.Fw Go.RowKit
set_option linter.unusedVariables false
set_option linter.unusedSimpArgs false
set_option maxRecDepth 100000
set_option maxHeartbeats 16000000
set_option synthInstance.maxHeartbeats 200000
set_option synthInstance.maxSize 100000
attribute [local irreducible] WPA WLA WDA WDQ WDE QQ seqQ blockQ loopQ fnQ OpP OpT Tr TrP SL SLd OwnS LitS Bk BkE Ob
section
variable {w0 : World} {I : Foot} {L : List HP}
theorem Values_tr {s : SV} : Tr Try.prog 49 #[.slice s.a s.n s.cap] (SL w0 I L) (fun V : Nat => .func (.func 68) #[] #[.pointer (some ⟨V, 0, none⟩)]) (fun V => SL w0 I (Bk V 23 [.slice s.a s.n s.cap] :: L)) := by
  refine Tr.intro Try.func49 rfl Try.ntmps49 rfl ?_
  repeat' (first | ((first | refine WLA.m rfl rfl ?_ ?_ | refine WLA.st rfl ?_ ?_ | refine WLA.x rfl rfl ?_ (fun x => ?_) | refine WLA.x0 rfl ?_ (fun x => ?_)); first | exact trivial | exact rfl | assumption | omega | (refine ⟨?_, ?_⟩ <;> omega) | (simp only [Room, List.length_set, List.length_append, List.length_cons, List.length_nil, List.length_replicate]; omega) | decide | skip) | (refine Stp.go ?_) | (refine WPA.ifT ?_) | (refine WPA.ifF ?_) | ((first | refine WPA.dec ?_); first | refine .inl ⟨by first | assumption | omega | with_reducible rfl | (refine fun h => h ?_; first | assumption | with_reducible rfl) | (simp only [List.length_append, List.length_cons, List.length_nil, List.length_set] <;> omega) | decide, ?_⟩ | refine .inr ⟨by first | assumption | omega | with_reducible rfl | (refine fun h => h ?_; first | assumption | with_reducible rfl) | (simp only [List.length_append, List.length_cons, List.length_nil, List.length_set] <;> omega) | decide, ?_⟩) | ((first | refine WPA.ifBt ?_ ?_ | refine WPA.ifBnf ?_ ?_); assumption) | ((first | refine WPA.ifBnt ?_ ?_ | refine WPA.ifBf ?_ ?_); assumption) | ((first | refine WPA.ifs ?_ ?_ | refine WPA.ifB ?_ ?_) <;> intro hc))
  exact QQ.end_ rfl _ rfl fun w h => h.to
theorem Values1_tr {V lb : Nat} {s : SV} {ids : List Int} {τ ω : Type} (Lk : τ → List HP) (ix : τ → Nat) (C : τ → Prop) (Bz : ω → World → Prop) (hs : SlI I s Int inferInstance ids) (hn : ids.length ≤ 1000000000)
    (hy : ∀ x : τ, C x → ix x < ids.length → YTr Try.prog lb #[.int .i64 (at_ ids (ix x : Int))] (SL w0 I (Bk V 23 [.slice s.a s.n s.cap] :: Lk x)) (fun y : τ ⊕ ω => .bool y.isLeft)
      (fun y w => match y with | .inl x' => (C x' ∧ ix x' = ix x + 1) ∧ SL w0 I (Bk V 23 [.slice s.a s.n s.cap] :: Lk x') w | .inr z => Bz z w))
    (x0 : τ) (hC : C x0) (h0 : ix x0 = 0) (hix : ∀ x, C x → ix x ≤ ids.length) :
    Tr Try.prog 68 #[.func (.yield lb) #[] #[], .pointer (some ⟨V, 0, none⟩)] (SL w0 I (Bk V 23 [.slice s.a s.n s.cap] :: Lk x0)) (fun _ : τ ⊕ ω => .tuple #[])
      (fun y w => match y with | .inl x' => (C x' ∧ ix x' = ids.length) ∧ SL w0 I (Bk V 23 [.slice s.a s.n s.cap] :: Lk x') w | .inr z => Bz z w) := by
  refine Tr.intro Try.func68 rfl Try.ntmps68 rfl ?_
  repeat' (first | ((first | refine WLA.m rfl rfl ?_ ?_ | refine WLA.st rfl ?_ ?_ | refine WLA.x rfl rfl ?_ (fun x => ?_) | refine WLA.x0 rfl ?_ (fun x => ?_)); first | exact trivial | exact rfl | assumption | omega | (refine ⟨?_, ?_⟩ <;> omega) | (simp only [Room, List.length_set, List.length_append, List.length_cons, List.length_nil, List.length_replicate]; omega) | decide | skip) | (refine Stp.go ?_) | (refine WPA.ifT ?_) | (refine WPA.ifF ?_) | ((first | refine WPA.dec ?_); first | refine .inl ⟨by first | assumption | omega | with_reducible rfl | (refine fun h => h ?_; first | assumption | with_reducible rfl) | (simp only [List.length_append, List.length_cons, List.length_nil, List.length_set] <;> omega) | decide, ?_⟩ | refine .inr ⟨by first | assumption | omega | with_reducible rfl | (refine fun h => h ?_; first | assumption | with_reducible rfl) | (simp only [List.length_append, List.length_cons, List.length_nil, List.length_set] <;> omega) | decide, ?_⟩) | ((first | refine WPA.ifBt ?_ ?_ | refine WPA.ifBnf ?_ ?_); assumption) | ((first | refine WPA.ifBnt ?_ ?_ | refine WPA.ifBf ?_ ?_); assumption) | ((first | refine WPA.ifs ?_ ?_ | refine WPA.ifB ?_ ?_) <;> intro hc))
  refine WPA.loopS (σ := τ) (fun x => [(0, .func (.yield lb) #[] #[]), (5, .slice s.a s.n s.cap), (6, .int .i64 ids.length), (7, .int .i64 (ix x))]) C
    (fun x => SL w0 I (Bk V 23 [.slice s.a s.n s.cap] :: Lk x)) (fun x => ids.length - ix x) x0 ⟨rfl, rfl, rfl, by rw [h0]; rfl, trivial⟩ hC (fun w h => h) ?_
  intro x ρ hCx
  have hxl := hix x hCx
  by_cases hlt : ix x < ids.length
  · have hlt' : (ix x : Int) < ids.length := by omega
    have hir : (0 : Int) ≤ (ix x : Int) ∧ (ix x : Int) < ids.length := by omega
    repeat' (first | ((first | refine WLA.m rfl rfl ?_ ?_ | refine WLA.st rfl ?_ ?_ | refine WLA.x rfl rfl ?_ (fun x => ?_) | refine WLA.x0 rfl ?_ (fun x => ?_)); first | exact trivial | exact rfl | assumption | omega | (refine ⟨?_, ?_⟩ <;> omega) | (simp only [Room, List.length_set, List.length_append, List.length_cons, List.length_nil, List.length_replicate]; omega) | decide | skip) | (refine Stp.go ?_) | (guard_target =~ WLA _ _ _ _ _ (⟨_, .call ⟨.value (.tmp _), _, _⟩, _, _, _, _⟩ :: _) _ _; refine WLA.yield rfl rfl ((hy x hCx hlt).ent) ?_; rintro (x' | z)) | (refine WPA.ifT ?_) | (refine WPA.ifF ?_) | ((first | refine WPA.dec ?_); first | refine .inl ⟨by first | assumption | omega | with_reducible rfl | (refine fun h => h ?_; first | assumption | with_reducible rfl) | (simp only [List.length_append, List.length_cons, List.length_nil, List.length_set] <;> omega) | decide, ?_⟩ | refine .inr ⟨by first | assumption | omega | with_reducible rfl | (refine fun h => h ?_; first | assumption | with_reducible rfl) | (simp only [List.length_append, List.length_cons, List.length_nil, List.length_set] <;> omega) | decide, ?_⟩) | ((first | refine WPA.ifBt ?_ ?_ | refine WPA.ifBnf ?_ ?_); assumption) | ((first | refine WPA.ifBnt ?_ ?_ | refine WPA.ifBf ?_ ?_); assumption) | ((first | refine WPA.ifs ?_ ?_ | refine WPA.ifB ?_ ?_) <;> intro hc))
    · refine QQ.pre fun hC' => ?_
      exact QQ.loopS x' ⟨rfl, rfl, rfl, by rw [hC'.2]; rfl, trivial⟩ hC'.1 (by have := hC'.2; omega) (fun w h => h)
    · exact QQ.end_ rfl (.inr z) rfl fun w h => h
  · have hlt' : ¬ (ix x : Int) < ids.length := by omega
    repeat' (first | ((first | refine WLA.m rfl rfl ?_ ?_ | refine WLA.st rfl ?_ ?_ | refine WLA.x rfl rfl ?_ (fun x => ?_) | refine WLA.x0 rfl ?_ (fun x => ?_)); first | exact trivial | exact rfl | assumption | omega | (refine ⟨?_, ?_⟩ <;> omega) | (simp only [Room, List.length_set, List.length_append, List.length_cons, List.length_nil, List.length_replicate]; omega) | decide | skip) | (refine Stp.go ?_) | (refine WPA.ifT ?_) | (refine WPA.ifF ?_) | ((first | refine WPA.dec ?_); first | refine .inl ⟨by first | assumption | omega | with_reducible rfl | (refine fun h => h ?_; first | assumption | with_reducible rfl) | (simp only [List.length_append, List.length_cons, List.length_nil, List.length_set] <;> omega) | decide, ?_⟩ | refine .inr ⟨by first | assumption | omega | with_reducible rfl | (refine fun h => h ?_; first | assumption | with_reducible rfl) | (simp only [List.length_append, List.length_cons, List.length_nil, List.length_set] <;> omega) | decide, ?_⟩) | ((first | refine WPA.ifBt ?_ ?_ | refine WPA.ifBnf ?_ ?_); assumption) | ((first | refine WPA.ifBnt ?_ ?_ | refine WPA.ifBf ?_ ?_); assumption) | ((first | refine WPA.ifs ?_ ?_ | refine WPA.ifB ?_ ?_) <;> intro hc))
    exact QQ.endn rfl (.inl x) rfl fun w h => ⟨⟨hCx, by omega⟩, h⟩
theorem AppendSeq_tr {V : Nat} {s : SV} {ids : List Int} (hs : SlI I s Int inferInstance ids) (hn : ids.length ≤ 1000000) :
    Tr Try.prog 76 #[.slice none 0 0, .func (.func 68) #[] #[.pointer (some ⟨V, 0, none⟩)]] (SL w0 I (Bk V 23 [.slice s.a s.n s.cap] :: L)) (fun r : SV => .slice r.a r.n r.cap) (fun r => SL w0 I (OwnS 3 r ids :: L)) := by
  refine Tr.intro Try.func76 rfl Try.ntmps76 rfl ?_
  repeat' (first | ((first | refine WLA.m rfl rfl ?_ ?_ | refine WLA.st rfl ?_ ?_ | refine WLA.x rfl rfl ?_ (fun x => ?_) | refine WLA.x0 rfl ?_ (fun x => ?_)); first | exact trivial | exact rfl | assumption | omega | (refine ⟨?_, ?_⟩ <;> omega) | (simp only [Room, List.length_set, List.length_append, List.length_cons, List.length_nil, List.length_replicate]; omega) | decide | skip) | (refine Stp.go ?_) | (refine WPA.ifT ?_) | (refine WPA.ifF ?_) | ((first | refine WPA.dec ?_); first | refine .inl ⟨by first | assumption | omega | with_reducible rfl | (refine fun h => h ?_; first | assumption | with_reducible rfl) | (simp only [List.length_append, List.length_cons, List.length_nil, List.length_set] <;> omega) | decide, ?_⟩ | refine .inr ⟨by first | assumption | omega | with_reducible rfl | (refine fun h => h ?_; first | assumption | with_reducible rfl) | (simp only [List.length_append, List.length_cons, List.length_nil, List.length_set] <;> omega) | decide, ?_⟩) | ((first | refine WPA.ifBt ?_ ?_ | refine WPA.ifBnf ?_ ?_); assumption) | ((first | refine WPA.ifBnt ?_ ?_ | refine WPA.ifBf ?_ ?_); assumption) | ((first | refine WPA.ifs ?_ ?_ | refine WPA.ifB ?_ ?_) <;> intro hc))
  revert x; intro A
  refine WPA.rangeS fun D rc hrc => ?_
  let Lk : Nat × SV → List HP := fun k => Ob (D + 1) (rc .ready none) :: Ob D (.deferred (some [])) :: Bk A 23 [.slice k.2.a k.2.n k.2.cap] :: OwnS 3 k.2 (ids.take k.1) :: L
  refine ⟨SV, fun _ => .tuple #[], fun _ => .ready, fun _ => none, fun q => Ob D (.deferred (some [])) :: Bk V 23 [.slice s.a s.n s.cap] :: Bk A 23 [.slice q.a q.n q.cap] :: OwnS 3 q ids :: L, ?_, ?_⟩
  · refine (Values1_tr (w0 := w0) (I := I) (V := V) (s := s) (ω := Empty) Lk (fun k => k.1) (fun k => k.1 ≤ ids.length) (fun z _ => z.elim) hs (by omega) ?_ (0, SV.nil) (Nat.zero_le _) rfl (fun x h => h)).conv (fun w h => ?_) ?_
    · rintro ⟨k, q⟩ hk hkl
      dsimp only at hk hkl
      have hroom : Room ((ids.take k).length + 1) 8 := ⟨by rw [List.length_take]; omega, by rw [List.length_take]; omega⟩
      have htk : ids.take (k + 1) = ids.take k ++ [at_ ids (k : Int)] := by rw [List.take_add_one, List.getElem?_eq_getElem hkl, at_nat ids k hkl]; rfl
      dsimp only [Lk]
      refine (YTr.ofS (val := fun y : (Nat × SV) ⊕ Empty => y.isLeft) hrc (agreeP rfl) rfl ?_)
      repeat' (first | ((first | refine WLA.m rfl rfl ?_ ?_ | refine WLA.st rfl ?_ ?_ | refine WLA.x rfl rfl ?_ (fun x => ?_) | refine WLA.x0 rfl ?_ (fun x => ?_)); first | exact trivial | exact rfl | assumption | omega | (refine ⟨?_, ?_⟩ <;> omega) | (simp only [Room, List.length_set, List.length_append, List.length_cons, List.length_nil, List.length_replicate]; omega) | decide | skip) | (refine Stp.go ?_) | (refine WPA.ifT ?_) | (refine WPA.ifF ?_) | ((first | refine WPA.dec ?_); first | refine .inl ⟨by first | assumption | omega | with_reducible rfl | (refine fun h => h ?_; first | assumption | with_reducible rfl) | (simp only [List.length_append, List.length_cons, List.length_nil, List.length_set] <;> omega) | decide, ?_⟩ | refine .inr ⟨by first | assumption | omega | with_reducible rfl | (refine fun h => h ?_; first | assumption | with_reducible rfl) | (simp only [List.length_append, List.length_cons, List.length_nil, List.length_set] <;> omega) | decide, ?_⟩) | ((first | refine WPA.ifBt ?_ ?_ | refine WPA.ifBnf ?_ ?_); assumption) | ((first | refine WPA.ifBnt ?_ ?_ | refine WPA.ifBf ?_ ?_); assumption) | ((first | refine WPA.ifs ?_ ?_ | refine WPA.ifB ?_ ?_) <;> intro hc))
      refine QQ.midS ?_
      repeat' (first | ((first | refine WLA.m rfl rfl ?_ ?_ | refine WLA.st rfl ?_ ?_ | refine WLA.x rfl rfl ?_ (fun x => ?_) | refine WLA.x0 rfl ?_ (fun x => ?_)); first | exact trivial | exact rfl | assumption | omega | (refine ⟨?_, ?_⟩ <;> omega) | (simp only [Room, List.length_set, List.length_append, List.length_cons, List.length_nil, List.length_replicate]; omega) | decide | skip) | (refine Stp.go ?_) | (refine WPA.ifT ?_) | (refine WPA.ifF ?_) | ((first | refine WPA.dec ?_); first | refine .inl ⟨by first | assumption | omega | with_reducible rfl | (refine fun h => h ?_; first | assumption | with_reducible rfl) | (simp only [List.length_append, List.length_cons, List.length_nil, List.length_set] <;> omega) | decide, ?_⟩ | refine .inr ⟨by first | assumption | omega | with_reducible rfl | (refine fun h => h ?_; first | assumption | with_reducible rfl) | (simp only [List.length_append, List.length_cons, List.length_nil, List.length_set] <;> omega) | decide, ?_⟩) | ((first | refine WPA.ifBt ?_ ?_ | refine WPA.ifBnf ?_ ?_); assumption) | ((first | refine WPA.ifBnt ?_ ?_ | refine WPA.ifBf ?_ ?_); assumption) | ((first | refine WPA.ifs ?_ ?_ | refine WPA.ifB ?_ ?_) <;> intro hc))
      exact QQ.rndN (fun w h => ⟨.inl (k + 1, x), rfl, ⟨⟨hkl, rfl⟩, by dsimp only; rw [htk]; exact h.to⟩⟩)
    · dsimp only [Lk]
      have h2 := (Ent.ownNil (α := Int) (t := 3) Ent.refl).sl h
      have h3 : SL w0 I (Bk V 23 [.slice s.a s.n s.cap] :: Ob (D + 1) (rc .ready none) :: Ob D (.deferred (some [])) :: Bk A 23 [.slice none 0 0] :: OwnS 3 SV.nil ([] : List Int) :: L) w := h2.to
      exact h3
    · rintro (⟨k, q⟩ | x) w hb
      · refine ⟨q, rfl, ?_⟩
        have h := hb.2
        have e : k = ids.length := hb.1.2
        subst e
        dsimp only [Lk] at h ⊢
        rw [List.take_length] at h
        exact h.to
      · exact x.elim
  · intro q
    refine ⟨by simp, ?_⟩
    show QQ _ _ _ _
    dsimp only
    repeat' (first | ((first | refine WLA.m rfl rfl ?_ ?_ | refine WLA.st rfl ?_ ?_ | refine WLA.x rfl rfl ?_ (fun x => ?_) | refine WLA.x0 rfl ?_ (fun x => ?_)); first | exact trivial | exact rfl | assumption | omega | (refine ⟨?_, ?_⟩ <;> omega) | (simp only [Room, List.length_set, List.length_append, List.length_cons, List.length_nil, List.length_replicate]; omega) | decide | skip) | (refine Stp.go ?_) | (refine WPA.ifT ?_) | (refine WPA.ifF ?_) | ((first | refine WPA.dec ?_); first | refine .inl ⟨by first | assumption | omega | with_reducible rfl | (refine fun h => h ?_; first | assumption | with_reducible rfl) | (simp only [List.length_append, List.length_cons, List.length_nil, List.length_set] <;> omega) | decide, ?_⟩ | refine .inr ⟨by first | assumption | omega | with_reducible rfl | (refine fun h => h ?_; first | assumption | with_reducible rfl) | (simp only [List.length_append, List.length_cons, List.length_nil, List.length_set] <;> omega) | decide, ?_⟩) | ((first | refine WPA.ifBt ?_ ?_ | refine WPA.ifBnf ?_ ?_); assumption) | ((first | refine WPA.ifBnt ?_ ?_ | refine WPA.ifBf ?_ ?_); assumption) | ((first | refine WPA.ifs ?_ ?_ | refine WPA.ifB ?_ ?_) <;> intro hc))
    exact QQ.fin [D] (L' := OwnS 3 q ids :: L) rfl (EntC.out (L' := Ob D (.deferred (some [])) :: OwnS 3 q ids :: L)) rfl q rfl fun w h => h.to
theorem Collect_tr {V : Nat} {s : SV} {ids : List Int} (hs : SlI I s Int inferInstance ids) (hn : ids.length ≤ 1000000) :
    Tr Try.prog 66 #[.func (.func 68) #[] #[.pointer (some ⟨V, 0, none⟩)]] (SL w0 I (Bk V 23 [.slice s.a s.n s.cap] :: L)) (fun r : SV => .slice r.a r.n r.cap) (fun r => SL w0 I (OwnS 3 r ids :: L)) := by
  refine Tr.intro Try.func66 rfl Try.ntmps66 rfl ?_
  repeat' (first | ((first | refine WLA.m rfl rfl ?_ ?_ | refine WLA.st rfl ?_ ?_ | refine WLA.x rfl rfl ?_ (fun x => ?_) | refine WLA.x0 rfl ?_ (fun x => ?_)); first | exact trivial | exact rfl | assumption | omega | (refine ⟨?_, ?_⟩ <;> omega) | (simp only [Room, List.length_set, List.length_append, List.length_cons, List.length_nil, List.length_replicate]; omega) | decide | skip) | (refine Stp.go ?_) | (guard_target =~ WLA _ _ _ _ _ (⟨_, .call ⟨.value (.func 76), _, _⟩, _, _, _, _⟩ :: _) _ _; first | (refine WLA.call rfl rfl (AppendSeq_tr hs hn) ?_; rintro r) | (refine WLA.call0 rfl (AppendSeq_tr hs hn) ?_; rintro r)) | (refine WPA.ifT ?_) | (refine WPA.ifF ?_) | ((first | refine WPA.dec ?_); first | refine .inl ⟨by first | assumption | omega | with_reducible rfl | (refine fun h => h ?_; first | assumption | with_reducible rfl) | (simp only [List.length_append, List.length_cons, List.length_nil, List.length_set] <;> omega) | decide, ?_⟩ | refine .inr ⟨by first | assumption | omega | with_reducible rfl | (refine fun h => h ?_; first | assumption | with_reducible rfl) | (simp only [List.length_append, List.length_cons, List.length_nil, List.length_set] <;> omega) | decide, ?_⟩) | ((first | refine WPA.ifBt ?_ ?_ | refine WPA.ifBnf ?_ ?_); assumption) | ((first | refine WPA.ifBnt ?_ ?_ | refine WPA.ifBf ?_ ?_); assumption) | ((first | refine WPA.ifs ?_ ?_ | refine WPA.ifB ?_ ?_) <;> intro hc))
  exact QQ.end_ rfl r rfl fun w h => h.to
def srtI (ids : List Int) : List Int := ids.mergeSort fun x y => decide (x ≤ y)
theorem Sorted_tr {V : Nat} {s : SV} {ids : List Int} (hs : SlI I s Int inferInstance ids) (hn : ids.length ≤ 1000000) :
    Tr Try.prog 48 #[.func (.func 68) #[] #[.pointer (some ⟨V, 0, none⟩)]] (SL w0 I (Bk V 23 [.slice s.a s.n s.cap] :: L)) (fun r : SV => .slice r.a r.n r.cap) (fun r => SL w0 I (OwnS 3 r (srtI ids) :: L)) := by
  refine Tr.intro Try.func48 rfl Try.ntmps48 rfl ?_
  have hsort : ∀ {r : SV} {L : List HP}, Tr Try.prog 67 #[.slice r.a r.n r.cap] (SL w0 I (OwnS 3 r ids :: L)) (fun _ : Unit => .tuple #[]) (fun _ => SL w0 I (OwnS 3 r (srtI ids) :: L)) := fun {r L} => sortI_tr (ρ := Try.sortI_ren) Try.sortI (by omega)
  repeat' (first | ((first | refine WLA.m rfl rfl ?_ ?_ | refine WLA.st rfl ?_ ?_ | refine WLA.x rfl rfl ?_ (fun x => ?_) | refine WLA.x0 rfl ?_ (fun x => ?_)); first | exact trivial | exact rfl | assumption | omega | (refine ⟨?_, ?_⟩ <;> omega) | (simp only [Room, List.length_set, List.length_append, List.length_cons, List.length_nil, List.length_replicate]; omega) | decide | skip) | (refine Stp.go ?_) | (guard_target =~ WLA _ _ _ _ _ (⟨_, .call ⟨.value (.func 66), _, _⟩, _, _, _, _⟩ :: _) _ _; first | (refine WLA.call rfl rfl (Collect_tr hs hn) ?_; rintro r) | (refine WLA.call0 rfl (Collect_tr hs hn) ?_; rintro r)) | (guard_target =~ WLA _ _ _ _ _ (⟨_, .call ⟨.value (.func 67), _, _⟩, _, _, _, _⟩ :: _) _ _; first | (refine WLA.call rfl rfl (hsort) ?_; rintro ⟨⟩) | (refine WLA.call0 rfl (hsort) ?_; rintro ⟨⟩)) | (refine WPA.ifT ?_) | (refine WPA.ifF ?_) | ((first | refine WPA.dec ?_); first | refine .inl ⟨by first | assumption | omega | with_reducible rfl | (refine fun h => h ?_; first | assumption | with_reducible rfl) | (simp only [List.length_append, List.length_cons, List.length_nil, List.length_set] <;> omega) | decide, ?_⟩ | refine .inr ⟨by first | assumption | omega | with_reducible rfl | (refine fun h => h ?_; first | assumption | with_reducible rfl) | (simp only [List.length_append, List.length_cons, List.length_nil, List.length_set] <;> omega) | decide, ?_⟩) | ((first | refine WPA.ifBt ?_ ?_ | refine WPA.ifBnf ?_ ?_); assumption) | ((first | refine WPA.ifBnt ?_ ?_ | refine WPA.ifBf ?_ ?_); assumption) | ((first | refine WPA.ifs ?_ ?_ | refine WPA.ifB ?_ ?_) <;> intro hc))
  exact QQ.end_ rfl r rfl fun w h => h.to
end
end Go.Proofs.Ytbekjbgaenjbfaa
namespace Go.Proofs.Ytbekjbgaenjbfaa
open Go Go.Fw Go.RowKit
set_option linter.unusedVariables false
set_option linter.unusedSimpArgs false
set_option maxRecDepth 100000
set_option maxHeartbeats 16000000
set_option synthInstance.maxHeartbeats 200000
set_option synthInstance.maxSize 100000
attribute [local irreducible] WPA WLA WDA WDQ WDE QQ seqQ blockQ loopQ fnQ OpP OpT Tr TrP SL SLd OwnS LitS Bk BkE Ob
def Right (m : BS) (ids : List Int) : Prop := (∀ i ∈ ids, Has m.tk i) ∧ ids.Nodup
theorem srt_perm (ids : List Int) : (srtI ids).Perm ids := List.mergeSort_perm _ _
theorem srt_len (ids : List Int) : (srtI ids).length = ids.length := (srt_perm ids).length_eq
def OkAt (m : BS) (l : List Int) (j : Nat) : Prop := Has m.tk (at_ l (j : Int)) ∧ (0 < j → at_ l ((j : Int) - 1) ≠ at_ l (j : Int))
theorem ok_of {m : BS} {ids : List Int} (h : Right m ids) {j : Nat} (hj : j < (srtI ids).length) : OkAt m (srtI ids) j := by
  have hs := srt_perm ids
  refine ⟨by rw [at_nat _ j hj]; exact h.1 _ (hs.mem_iff.1 (List.getElem_mem _)), fun h0 => ?_⟩
  rw [show (j : Int) - 1 = ((j - 1 : Nat) : Int) by omega, at_nat _ (j - 1) (by omega), at_nat _ j hj]
  exact List.pairwise_iff_getElem.1 (List.nodup_iff_pairwise_ne.1 (hs.nodup_iff.2 h.2)) (j - 1) j (by omega) hj (by omega)
theorem has_free {m : BS} {i j : Int} (h : Has m.tk i) (hj : 0 ≤ j) (hne : i ≠ j) : Has (m.free j).tk i ∧ at_ (m.free j).ts i = at_ m.ts i := by
  obtain ⟨a, rfl, ha⟩ := has_int h
  have hn : j.toNat ≠ a := by omega
  constructor
  · refine has_nat.2 ?_
    show (m.tk.set j.toNat false)[a]? = some true
    rw [List.getElem?_set_ne hn]; exact ha
  · show at_ (m.ts.set j.toNat ⟨#[]⟩) (a : Int) = _
    unfold at_
    rw [List.getD_eq_getElem?_getD, List.getD_eq_getElem?_getD, Int.toNat_natCast, List.getElem?_set_ne hn]
structure Freed (m m' : BS) (l : List Int) : Prop where
  ok : m'.Ok
  used : m'.used = m.used - l.length
  keep : ∀ i, Has m.tk i → i ∉ l → Has m'.tk i ∧ at_ m'.ts i = at_ m.ts i
theorem frees : ∀ (l : List Int) {m : BS}, m.Ok → l.Nodup → (∀ i ∈ l, Has m.tk i) → Freed m (l.foldl BS.free m) l
  | [], m, ok, _, _ => ⟨ok, by simp, fun i h _ => ⟨h, rfl⟩⟩
  | a :: l, m, ok, hn, hh => by
    have ha := hh a (List.mem_cons_self ..)
    have hn2 := List.nodup_cons.1 hn
    have F := frees l (m := m.free a) (ok.free ha) hn2.2 fun i hi => (has_free (hh i (List.mem_cons_of_mem _ hi)) ha.1.1 (fun e => hn2.1 (e ▸ hi))).1
    refine ⟨F.ok, ?_, fun i h1 h2 => ?_⟩
    · have := F.used
      rw [List.foldl_cons, this, List.length_cons]
      show m.used - 1 - _ = _
      omega
    · have h3 := has_free h1 ha.1.1 fun e => h2 (e ▸ List.mem_cons_self ..)
      have h4 := F.keep i h3.1 fun h => h2 (List.mem_cons_of_mem _ h)
      exact ⟨h4.1, h4.2.trans h3.2⟩
section
variable {S : Nat} {m : BS} {L L' : List HP} {w0 : World} {I : Foot}
theorem runFree_ok {o n : Int} {b : SV} {ids : List Int} [h : FindK L StoreR S m L'] (ok : m.Ok) (hs : SlI I b Int inferInstance ids) (hn : ids.length ≤ 1000000) (hr : Right m ids) :
    Tr Try.prog 28 #[.pointer (some ⟨S, 0, none⟩), .agg #[.int .i64 o, .int .i64 n, .slice b.a b.n b.cap]] (SL w0 I L) (fun _ : Unit => .int .i64 0) (fun _ => SL w0 I (StoreR S ((srtI ids).foldl BS.free m) :: L')) := by
  refine Tr.at h.out ?_
  refine Tr.intro Try.func28 rfl Try.ntmps28 rfl ?_
  have hsl := srt_len ids
  have hro := fun {j : Nat} => ok_of (j := j) hr
  have hall : ∀ i ∈ srtI ids, Has m.tk i := fun i hi => hr.1 i ((srt_perm ids).mem_iff.1 hi)
  have hnd : (srtI ids).Nodup := (srt_perm ids).nodup_iff.2 hr.2
  generalize hsr : srtI ids = srt at hsl hro hall hnd ⊢
  have hst : ∀ {V : Nat} {L : List HP}, Tr Try.prog 48 #[.func (.func 68) #[] #[.pointer (some ⟨V, 0, none⟩)]] (SL w0 I (Bk V 23 [.slice b.a b.n b.cap] :: L)) (fun r : SV => .slice r.a r.n r.cap) (fun r => SL w0 I (OwnS 3 r srt :: L)) := fun {V L} => by rw [← hsr]; exact Sorted_tr hs hn
  repeat' (first | ((first | refine WLA.m rfl rfl ?_ ?_ | refine WLA.st rfl ?_ ?_ | refine WLA.x rfl rfl ?_ (fun x => ?_) | refine WLA.x0 rfl ?_ (fun x => ?_)); first | exact trivial | exact rfl | assumption | omega | (refine ⟨?_, ?_⟩ <;> omega) | (simp only [Room, List.length_set, List.length_append, List.length_cons, List.length_nil, List.length_replicate]; omega) | decide | skip) | (refine Stp.go ?_) | (guard_target =~ WLA _ _ _ _ _ (⟨_, .call ⟨.value (.func 49), _, _⟩, _, _, _, _⟩ :: _) _ _; first | (refine WLA.call rfl rfl (Values_tr) ?_; rintro V) | (refine WLA.call0 rfl (Values_tr) ?_; rintro V)) | (guard_target =~ WLA _ _ _ _ _ (⟨_, .call ⟨.value (.func 48), _, _⟩, _, _, _, _⟩ :: _) _ _; first | (refine WLA.call rfl rfl (hst) ?_; rintro q) | (refine WLA.call0 rfl (hst) ?_; rintro q)) | (refine WPA.ifT ?_) | (refine WPA.ifF ?_) | ((first | refine WPA.dec ?_); first | refine .inl ⟨by first | assumption | omega | with_reducible rfl | (refine fun h => h ?_; first | assumption | with_reducible rfl) | (simp only [List.length_append, List.length_cons, List.length_nil, List.length_set] <;> omega) | decide, ?_⟩ | refine .inr ⟨by first | assumption | omega | with_reducible rfl | (refine fun h => h ?_; first | assumption | with_reducible rfl) | (simp only [List.length_append, List.length_cons, List.length_nil, List.length_set] <;> omega) | decide, ?_⟩) | ((first | refine WPA.ifBt ?_ ?_ | refine WPA.ifBnf ?_ ?_); assumption) | ((first | refine WPA.ifBnt ?_ ?_ | refine WPA.ifBf ?_ ?_); assumption) | ((first | refine WPA.ifs ?_ ?_ | refine WPA.ifB ?_ ?_) <;> intro hc))
  refine WPA.loopS (σ := Nat) (fun i => [(0, .pointer (some ⟨S, 0, none⟩)), (5, .slice q.a q.n q.cap), (18, .slice q.a q.n q.cap), (19, .int .i64 srt.length), (20, .int .i64 i)]) (fun i => i ≤ srt.length) (fun i => SL w0 I (OwnS 3 q srt :: StoreR S m :: L')) (fun i => srt.length - i) 0 ⟨rfl, rfl, rfl, rfl, rfl, trivial⟩ (Nat.zero_le _) (fun w h => h.to) ?_
  intro i ρ hi
  by_cases hlt : i < srt.length
  · have hlt' : (i : Int) < srt.length := by omega
    have hir : (0 : Int) ≤ i ∧ (i : Int) < srt.length := by omega
    have hok := hro hlt
    unfold OkAt at hok
    obtain ⟨id, hid⟩ : ∃ id : Int, at_ srt (i : Int) = id := ⟨_, rfl⟩
    rw [hid] at hok
    have hh := hok.1
    by_cases h0 : 0 < i
    · have h0' : (0 : Int) < i := by omega
      have hir2 : (0 : Int) ≤ (i : Int) - 1 ∧ (i : Int) - 1 < srt.length := by omega
      obtain ⟨p, hp⟩ : ∃ p : Int, at_ srt ((i : Int) - 1) = p := ⟨_, rfl⟩
      have he : ¬ p = id := by rw [← hp]; exact hok.2 h0
      repeat' (first | ((rw [hid])) | ((rw [hp])) | ((first | refine WLA.m rfl rfl ?_ ?_ | refine WLA.st rfl ?_ ?_ | refine WLA.x rfl rfl ?_ (fun x => ?_) | refine WLA.x0 rfl ?_ (fun x => ?_)); first | exact trivial | exact rfl | assumption | omega | (refine ⟨?_, ?_⟩ <;> omega) | (simp only [Room, List.length_set, List.length_append, List.length_cons, List.length_nil, List.length_replicate]; omega) | decide | skip) | (refine Stp.go ?_) | (guard_target =~ WLA _ _ _ _ _ (⟨_, .call ⟨.value (.func 25), _, _⟩, _, _, _, _⟩ :: _) _ _; first | (refine WLA.call rfl rfl (Read_tr hh) ?_; rintro ⟨⟩) | (refine WLA.call0 rfl (Read_tr hh) ?_; rintro ⟨⟩)) | (refine WPA.ifT ?_) | (refine WPA.ifF ?_) | (refine WLA.no rfl rfl ?_) | ((first | refine WPA.dec ?_ | ((fail_if_success (guard_target =~ WLA _ _ _ _ _ _ (put1 _ _ (.bool true)) _)); (fail_if_success (guard_target =~ WLA _ _ _ _ _ _ (put1 _ _ (.bool false)) _)); refine WLA.dec rfl rfl ?_) | refine WLA.pk ?_); first | refine .inl ⟨by first | assumption | omega | with_reducible rfl | (refine fun h => h ?_; first | assumption | with_reducible rfl) | (simp only [List.length_append, List.length_cons, List.length_nil, List.length_set] <;> omega) | decide, ?_⟩ | refine .inr ⟨by first | assumption | omega | with_reducible rfl | (refine fun h => h ?_; first | assumption | with_reducible rfl) | (simp only [List.length_append, List.length_cons, List.length_nil, List.length_set] <;> omega) | decide, ?_⟩) | ((first | refine WPA.ifBt ?_ ?_ | refine WPA.ifBnf ?_ ?_); assumption) | ((first | refine WPA.ifBnt ?_ ?_ | refine WPA.ifBf ?_ ?_); assumption) | ((first | refine WPA.ifs ?_ ?_ | refine WPA.ifB ?_ ?_) <;> intro hc) | ((fail_if_success (guard_target =~ WLA _ _ _ _ _ _ (put1 _ _ (.bool true)) _)); (fail_if_success (guard_target =~ WLA _ _ _ _ _ _ (put1 _ _ (.bool false)) _)); (first | refine WLA.both rfl rfl ?_ ?_ | refine WLA.bothB rfl rfl ?_ ?_) <;> intro hg))
      exact QQ.loopS (i + 1) ⟨rfl, rfl, rfl, rfl, rfl, trivial⟩ hlt (by omega) (fun w h => h.to)
    · have h0' : ¬ (0 : Int) < i := by omega
      repeat' (first | ((rw [hid])) | ((first | refine WLA.m rfl rfl ?_ ?_ | refine WLA.st rfl ?_ ?_ | refine WLA.x rfl rfl ?_ (fun x => ?_) | refine WLA.x0 rfl ?_ (fun x => ?_)); first | exact trivial | exact rfl | assumption | omega | (refine ⟨?_, ?_⟩ <;> omega) | (simp only [Room, List.length_set, List.length_append, List.length_cons, List.length_nil, List.length_replicate]; omega) | decide | skip) | (refine Stp.go ?_) | (guard_target =~ WLA _ _ _ _ _ (⟨_, .call ⟨.value (.func 25), _, _⟩, _, _, _, _⟩ :: _) _ _; first | (refine WLA.call rfl rfl (Read_tr hh) ?_; rintro ⟨⟩) | (refine WLA.call0 rfl (Read_tr hh) ?_; rintro ⟨⟩)) | (refine WPA.ifT ?_) | (refine WPA.ifF ?_) | (refine WLA.no rfl rfl ?_) | ((first | refine WPA.dec ?_ | ((fail_if_success (guard_target =~ WLA _ _ _ _ _ _ (put1 _ _ (.bool true)) _)); (fail_if_success (guard_target =~ WLA _ _ _ _ _ _ (put1 _ _ (.bool false)) _)); refine WLA.dec rfl rfl ?_) | refine WLA.pk ?_); first | refine .inl ⟨by first | assumption | omega | with_reducible rfl | (refine fun h => h ?_; first | assumption | with_reducible rfl) | (simp only [List.length_append, List.length_cons, List.length_nil, List.length_set] <;> omega) | decide, ?_⟩ | refine .inr ⟨by first | assumption | omega | with_reducible rfl | (refine fun h => h ?_; first | assumption | with_reducible rfl) | (simp only [List.length_append, List.length_cons, List.length_nil, List.length_set] <;> omega) | decide, ?_⟩) | ((first | refine WPA.ifBt ?_ ?_ | refine WPA.ifBnf ?_ ?_); assumption) | ((first | refine WPA.ifBnt ?_ ?_ | refine WPA.ifBf ?_ ?_); assumption) | ((first | refine WPA.ifs ?_ ?_ | refine WPA.ifB ?_ ?_) <;> intro hc) | ((fail_if_success (guard_target =~ WLA _ _ _ _ _ _ (put1 _ _ (.bool true)) _)); (fail_if_success (guard_target =~ WLA _ _ _ _ _ _ (put1 _ _ (.bool false)) _)); (first | refine WLA.both rfl rfl ?_ ?_ | refine WLA.bothB rfl rfl ?_ ?_) <;> intro hg))
      exact QQ.loopS (i + 1) ⟨rfl, rfl, rfl, rfl, rfl, trivial⟩ hlt (by omega) (fun w h => h.to)
  · have hlt' : ¬ (i : Int) < srt.length := by omega
    repeat' (first | ((first | refine WLA.m rfl rfl ?_ ?_ | refine WLA.st rfl ?_ ?_ | refine WLA.x rfl rfl ?_ (fun x => ?_) | refine WLA.x0 rfl ?_ (fun x => ?_)); first | exact trivial | exact rfl | assumption | omega | (refine ⟨?_, ?_⟩ <;> omega) | (simp only [Room, List.length_set, List.length_append, List.length_cons, List.length_nil, List.length_replicate]; omega) | decide | skip) | (refine Stp.go ?_) | (refine WPA.ifT ?_) | (refine WPA.ifF ?_) | ((first | refine WPA.dec ?_); first | refine .inl ⟨by first | assumption | omega | with_reducible rfl | (refine fun h => h ?_; first | assumption | with_reducible rfl) | (simp only [List.length_append, List.length_cons, List.length_nil, List.length_set] <;> omega) | decide, ?_⟩ | refine .inr ⟨by first | assumption | omega | with_reducible rfl | (refine fun h => h ?_; first | assumption | with_reducible rfl) | (simp only [List.length_append, List.length_cons, List.length_nil, List.length_set] <;> omega) | decide, ?_⟩) | ((first | refine WPA.ifBt ?_ ?_ | refine WPA.ifBnf ?_ ?_); assumption) | ((first | refine WPA.ifBnt ?_ ?_ | refine WPA.ifBf ?_ ?_); assumption) | ((first | refine WPA.ifs ?_ ?_ | refine WPA.ifB ?_ ?_) <;> intro hc))
    refine WPA.loopS (σ := Nat) (fun i => [(0, .pointer (some ⟨S, 0, none⟩)), (47, .slice q.a q.n q.cap), (48, .int .i64 srt.length), (49, .int .i64 i)]) (fun i => i ≤ srt.length) (fun i => SL w0 I (OwnS 3 q srt :: StoreR S ((srt.take i).foldl BS.free m) :: L')) (fun i => srt.length - i) 0 ⟨rfl, rfl, rfl, rfl, trivial⟩ (Nat.zero_le _) (fun w h => (h.to : SL w0 I (OwnS 3 q srt :: StoreR S m :: L') w)) ?_
    intro k ρ hk
    by_cases hkl : k < srt.length
    · have hkl' : (k : Int) < srt.length := by omega
      have hkr : (0 : Int) ≤ k ∧ (k : Int) < srt.length := by omega
      have F := frees (srt.take k) ok (hnd.sublist (List.take_sublist _ _)) fun i hi => hall i (List.mem_of_mem_take hi)
      have hat := at_nat srt k hkl
      have hnot : srt[k] ∉ srt.take k := fun h => by
        obtain ⟨j, hj, e⟩ := List.mem_iff_getElem.1 h
        rw [List.length_take] at hj
        rw [List.getElem_take] at e
        exact List.pairwise_iff_getElem.1 (List.nodup_iff_pairwise_ne.1 hnd) j k (by omega) hkl (by omega) e
      have hhk := (F.keep _ (hall _ (List.getElem_mem hkl)) hnot).1
      have htk : (srt.take (k + 1)).foldl BS.free m = ((srt.take k).foldl BS.free m).free srt[k] := by rw [List.take_add_one, List.getElem?_eq_getElem hkl, List.foldl_append]; rfl
      have hFo := F.ok
      generalize (srt.take k).foldl BS.free m = mk at hhk htk hFo ⊢
      generalize srt[k] = id at hat hhk htk
      repeat' (first | ((rw [hat])) | ((first | refine WLA.m rfl rfl ?_ ?_ | refine WLA.st rfl ?_ ?_ | refine WLA.x rfl rfl ?_ (fun x => ?_) | refine WLA.x0 rfl ?_ (fun x => ?_)); first | exact trivial | exact rfl | assumption | omega | (refine ⟨?_, ?_⟩ <;> omega) | (simp only [Room, List.length_set, List.length_append, List.length_cons, List.length_nil, List.length_replicate]; omega) | decide | skip) | (refine Stp.go ?_) | (guard_target =~ WLA _ _ _ _ _ (⟨_, .call ⟨.value (.func 50), _, _⟩, _, _, _, _⟩ :: _) _ _; first | (refine WLA.call rfl rfl (Free_tr hhk (used_pos hFo hhk)) ?_; rintro ⟨⟩) | (refine WLA.call0 rfl (Free_tr hhk (used_pos hFo hhk)) ?_; rintro ⟨⟩)) | (refine WPA.ifT ?_) | (refine WPA.ifF ?_) | ((first | refine WPA.dec ?_); first | refine .inl ⟨by first | assumption | omega | with_reducible rfl | (refine fun h => h ?_; first | assumption | with_reducible rfl) | (simp only [List.length_append, List.length_cons, List.length_nil, List.length_set] <;> omega) | decide, ?_⟩ | refine .inr ⟨by first | assumption | omega | with_reducible rfl | (refine fun h => h ?_; first | assumption | with_reducible rfl) | (simp only [List.length_append, List.length_cons, List.length_nil, List.length_set] <;> omega) | decide, ?_⟩) | ((first | refine WPA.ifBt ?_ ?_ | refine WPA.ifBnf ?_ ?_); assumption) | ((first | refine WPA.ifBnt ?_ ?_ | refine WPA.ifBf ?_ ?_); assumption) | ((first | refine WPA.ifs ?_ ?_ | refine WPA.ifB ?_ ?_) <;> intro hc))
      exact QQ.loopS (k + 1) ⟨rfl, rfl, rfl, rfl, trivial⟩ hkl (by omega) (fun w h => by rw [htk]; exact h.to)
    · have hkl' : ¬ (k : Int) < srt.length := by omega
      rw [List.take_of_length_le (by omega)]
      repeat' (first | ((first | refine WLA.m rfl rfl ?_ ?_ | refine WLA.st rfl ?_ ?_ | refine WLA.x rfl rfl ?_ (fun x => ?_) | refine WLA.x0 rfl ?_ (fun x => ?_)); first | exact trivial | exact rfl | assumption | omega | (refine ⟨?_, ?_⟩ <;> omega) | (simp only [Room, List.length_set, List.length_append, List.length_cons, List.length_nil, List.length_replicate]; omega) | decide | skip) | (refine Stp.go ?_) | (refine WPA.ifT ?_) | (refine WPA.ifF ?_) | ((first | refine WPA.dec ?_); first | refine .inl ⟨by first | assumption | omega | with_reducible rfl | (refine fun h => h ?_; first | assumption | with_reducible rfl) | (simp only [List.length_append, List.length_cons, List.length_nil, List.length_set] <;> omega) | decide, ?_⟩ | refine .inr ⟨by first | assumption | omega | with_reducible rfl | (refine fun h => h ?_; first | assumption | with_reducible rfl) | (simp only [List.length_append, List.length_cons, List.length_nil, List.length_set] <;> omega) | decide, ?_⟩) | ((first | refine WPA.ifBt ?_ ?_ | refine WPA.ifBnf ?_ ?_); assumption) | ((first | refine WPA.ifBnt ?_ ?_ | refine WPA.ifBf ?_ ?_); assumption) | ((first | refine WPA.ifs ?_ ?_ | refine WPA.ifB ?_ ?_) <;> intro hc))
      exact QQ.end_ rfl () rfl fun w h => h.to
end
end Go.Proofs.Ytbekjbgaenjbfaa
namespace Go.Proofs.Ytbekjbgaenjbfaa
open Go Go.Fw Go.RowKit
set_option linter.unusedVariables false
set_option linter.unusedSimpArgs false
set_option maxRecDepth 100000
set_option maxHeartbeats 16000000
set_option synthInstance.maxHeartbeats 200000
set_option synthInstance.maxSize 100000
attribute [local irreducible] WPA WLA WDA WDQ WDE QQ seqQ blockQ loopQ fnQ OpP OpT Tr TrP SL SLd OwnS LitS Bk BkE Ob
attribute [local irreducible] vS keyS parL RowH CtsH
section
variable {w0 : World} {I : Foot} {L : List HP}
theorem All_tr {S : Nat} {o n : Int} {b : SV} {ids : List Int} (hs : SlI I b Int inferInstance ids) (hn : ids.length ≤ 1000000) :
    Tr Try.prog 29 #[.pointer (some ⟨S, 0, none⟩), .agg #[.int .i64 o, .int .i64 n, .slice b.a b.n b.cap]] (SL w0 I L) (fun q : Nat × Nat × SV => .func (.func 51) #[] #[.pointer (some ⟨q.1, 0, none⟩), .pointer (some ⟨q.2.1, 0, none⟩)]) (fun q => SL w0 I (OwnS 3 q.2.2 ids :: Bk q.1 27 [.pointer (some ⟨S, 0, none⟩)] :: Bk q.2.1 25 [.int .i64 o, .int .i64 n, .slice q.2.2.a q.2.2.n q.2.2.cap] :: L)) := by
  refine Tr.intro Try.func29 rfl Try.ntmps29 rfl ?_
  repeat' (first | ((first | refine WLA.m rfl rfl ?_ ?_ | refine WLA.st rfl ?_ ?_ | refine WLA.x rfl rfl ?_ (fun x => ?_) | refine WLA.x0 rfl ?_ (fun x => ?_)); first | exact trivial | exact rfl | assumption | omega | (refine ⟨?_, ?_⟩ <;> omega) | (simp only [Room, List.length_set, List.length_append, List.length_cons, List.length_nil, List.length_replicate]; omega) | decide | skip) | (refine Stp.go ?_) | (guard_target =~ WLA _ _ _ _ _ (⟨_, .call ⟨.value (.func 36), _, _⟩, _, _, _, _⟩ :: _) _ _; first | (refine WLA.call rfl rfl (Clone_tr hn) ?_; rintro c) | (refine WLA.call0 rfl (Clone_tr hn) ?_; rintro c)) | (refine WPA.ifT ?_) | (refine WPA.ifF ?_) | ((first | refine WPA.dec ?_); first | refine .inl ⟨by first | assumption | omega | with_reducible rfl | (refine fun h => h ?_; first | assumption | with_reducible rfl) | (simp only [List.length_append, List.length_cons, List.length_nil, List.length_set] <;> omega) | decide, ?_⟩ | refine .inr ⟨by first | assumption | omega | with_reducible rfl | (refine fun h => h ?_; first | assumption | with_reducible rfl) | (simp only [List.length_append, List.length_cons, List.length_nil, List.length_set] <;> omega) | decide, ?_⟩) | ((first | refine WPA.ifBt ?_ ?_ | refine WPA.ifBnf ?_ ?_); assumption) | ((first | refine WPA.ifBnt ?_ ?_ | refine WPA.ifBf ?_ ?_); assumption) | ((first | refine WPA.ifs ?_ ?_ | refine WPA.ifB ?_ ?_) <;> intro hc))
  revert x; intro X
  revert x; intro P
  exact QQ.end_ rfl (P, X, c) rfl fun w h => h.to
theorem All1_tr {S P X lb : Nat} {m : BS} {o n : Int} {b : SV} {ids : List Int} {T : ByteArray} {ms : List Ct} {τ ω : Type} (Lk : τ → List HP) (ix : τ → Nat) (C : τ → Prop) (Bz : Foot → ω → World → Prop)
    (ho : (1 ≤ o ∧ o ≤ 8) ∧ 0 ≤ n) (hs : SlI I b Int inferInstance ids) (hl : m.tk.length = m.ts.length) (hb : TxB m) (hn : ids.length ≤ 1000000) (ht : txtN m ids ids.length = some T) (hr : readS o n T = some ms) (hml : ms.length ≤ 1000000000)
    (hy : ∀ (J : Foot) (x : τ) (g : SV), I ⊆ J → C x → ix x < ms.length → SlI J g Int inferInstance (ms.getD (ix x) ([], 0)).1 →
      YTr Try.prog lb #[.agg #[.slice g.a g.n g.cap, .int .i64 (ms.getD (ix x) ([], 0)).2]] (SL w0 J (Bk P 27 [.pointer (some ⟨S, 0, none⟩)] :: Bk X 25 [.int .i64 o, .int .i64 n, .slice b.a b.n b.cap] :: StoreR S m :: Lk x)) (fun y : τ ⊕ ω => .bool y.isLeft)
      (fun y w => match y with | .inl x' => (C x' ∧ ix x' = ix x + 1) ∧ SL w0 J (Bk P 27 [.pointer (some ⟨S, 0, none⟩)] :: Bk X 25 [.int .i64 o, .int .i64 n, .slice b.a b.n b.cap] :: StoreR S m :: Lk x') w | .inr z => Bz J z w))
    (hBz : ∀ J z w, I ⊆ J → Bz J z w → Bz I z w) (x0 : τ) (hC : C x0) (h0 : ix x0 = 0) (hix : ∀ x, C x → ix x ≤ ms.length) :
    Tr Try.prog 51 #[.func (.yield lb) #[] #[], .pointer (some ⟨P, 0, none⟩), .pointer (some ⟨X, 0, none⟩)] (SL w0 I (Bk P 27 [.pointer (some ⟨S, 0, none⟩)] :: Bk X 25 [.int .i64 o, .int .i64 n, .slice b.a b.n b.cap] :: StoreR S m :: Lk x0)) (fun _ : τ ⊕ ω => .tuple #[])
      (fun y w => match y with | .inl x' => (C x' ∧ ix x' = ms.length) ∧ SL w0 I (StoreR S m :: Lk x') w | .inr z => Bz I z w) := by
  refine Tr.intro Try.func51 rfl Try.ntmps51 rfl ?_
  repeat' ((fail_if_success (guard_target =~ WPA _ _ _ (.region 1 _ _) _ _ _)); first | ((first | refine WLA.m rfl rfl ?_ ?_ | refine WLA.st rfl ?_ ?_ | refine WLA.x rfl rfl ?_ (fun x => ?_) | refine WLA.x0 rfl ?_ (fun x => ?_)); first | exact trivial | exact rfl | assumption | omega | (refine ⟨?_, ?_⟩ <;> omega) | (simp only [Room, List.length_set, List.length_append, List.length_cons, List.length_nil, List.length_replicate]; omega) | decide | skip) | (refine Stp.go ?_) | (guard_target =~ WLA _ _ _ _ _ (⟨_, .call ⟨.value (.func 13), _, _⟩, _, _, _, _⟩ :: _) _ _; first | (refine WLA.call rfl rfl (runRead_tr ho hs hl hb hn ht hr) ?_; rintro x; rw [show (some ms).getD [] = ms from rfl]) | (refine WLA.call0 rfl (runRead_tr ho hs hl hb hn ht hr) ?_; rintro x; rw [show (some ms).getD [] = ms from rfl])) | (refine WPA.ifT ?_) | (refine WPA.ifF ?_) | ((first | refine WPA.dec ?_); first | refine .inl ⟨by first | assumption | omega | with_reducible rfl | (refine fun h => h ?_; first | assumption | with_reducible rfl) | (simp only [List.length_append, List.length_cons, List.length_nil, List.length_set] <;> omega) | decide, ?_⟩ | refine .inr ⟨by first | assumption | omega | with_reducible rfl | (refine fun h => h ?_; first | assumption | with_reducible rfl) | (simp only [List.length_append, List.length_cons, List.length_nil, List.length_set] <;> omega) | decide, ?_⟩) | ((first | refine WPA.ifBt ?_ ?_ | refine WPA.ifBnf ?_ ?_); assumption) | ((first | refine WPA.ifBnt ?_ ?_ | refine WPA.ifBf ?_ ?_); assumption) | ((first | refine WPA.ifs ?_ ?_ | refine WPA.ifB ?_ ?_) <;> intro hc))
  refine WPA.ent (EntC.out (L' := CtsH x ms :: Bk P 27 [.pointer (some ⟨S, 0, none⟩)] :: Bk X 25 [.int .i64 o, .int .i64 n, .slice b.a b.n b.cap] :: StoreR S m :: Lk x0)) ?_
  refine WPA.freeze fun R5 h5 => ?_
  obtain ⟨qs, q1, q2, q3⟩ := h5.frozen
  have hJ : I ⊆ R5 ++ I := fun z hz => List.mem_append_right _ hz
  have sx : SlI (R5 ++ I) x Pe inferInstance qs := inferInstance
  have sg : ∀ i : Nat, i < qs.length → SlI (R5 ++ I) (at_ qs (i : Int)).1 Int inferInstance (ms.getD i ([], 0)).1 := fun i hi => by have := q3 i hi; infer_instance
  clear h5 q1 q3
  generalize R5 ++ I = J at sx sg hJ
  have hql : qs.length = ms.length := by have := congrArg List.length q2; simpa using this
  repeat' (first | ((first | refine WLA.m rfl rfl ?_ ?_ | refine WLA.st rfl ?_ ?_ | refine WLA.x rfl rfl ?_ (fun x => ?_) | refine WLA.x0 rfl ?_ (fun x => ?_)); first | exact trivial | exact rfl | assumption | omega | (refine ⟨?_, ?_⟩ <;> omega) | (simp only [Room, List.length_set, List.length_append, List.length_cons, List.length_nil, List.length_replicate]; omega) | decide | skip) | (refine Stp.go ?_) | (refine WPA.ifT ?_) | (refine WPA.ifF ?_) | ((first | refine WPA.dec ?_); first | refine .inl ⟨by first | assumption | omega | with_reducible rfl | (refine fun h => h ?_; first | assumption | with_reducible rfl) | (simp only [List.length_append, List.length_cons, List.length_nil, List.length_set] <;> omega) | decide, ?_⟩ | refine .inr ⟨by first | assumption | omega | with_reducible rfl | (refine fun h => h ?_; first | assumption | with_reducible rfl) | (simp only [List.length_append, List.length_cons, List.length_nil, List.length_set] <;> omega) | decide, ?_⟩) | ((first | refine WPA.ifBt ?_ ?_ | refine WPA.ifBnf ?_ ?_); assumption) | ((first | refine WPA.ifBnt ?_ ?_ | refine WPA.ifBf ?_ ?_); assumption) | ((first | refine WPA.ifs ?_ ?_ | refine WPA.ifB ?_ ?_) <;> intro hc))
  refine WPA.loopS (σ := τ) (fun y => [(0, .func (.yield lb) #[] #[]), (14, .slice x.a x.n x.cap), (15, .int .i64 qs.length), (16, .int .i64 (ix y))]) C
    (fun y => SL w0 J (Bk P 27 [.pointer (some ⟨S, 0, none⟩)] :: Bk X 25 [.int .i64 o, .int .i64 n, .slice b.a b.n b.cap] :: StoreR S m :: Lk y)) (fun y => ms.length - ix y) x0 ⟨rfl, rfl, rfl, by rw [h0]; rfl, trivial⟩ hC (fun w h => h) ?_
  intro y ρ hCy
  have hyl := hix y hCy
  by_cases hlt : ix y < ms.length
  · have hlt' : (ix y : Int) < qs.length := by omega
    have hir : (0 : Int) ≤ (ix y : Int) ∧ (ix y : Int) < qs.length := by omega
    obtain ⟨p, hp⟩ : ∃ p : Pe, at_ qs (ix y : Int) = p := ⟨_, rfl⟩
    have hgy := sg (ix y) (by omega)
    have hp2 : p.2 = (ms.getD (ix y) ([], 0)).2 := by
      have := congrArg (fun l => l[ix y]?) q2
      simp only [List.getElem?_map, List.getElem?_eq_getElem hlt, List.getElem?_eq_getElem (show ix y < qs.length by omega), Option.map_some] at this
      rw [← hp, at_nat qs (ix y) (by omega), List.getD_eq_getElem?_getD, List.getElem?_eq_getElem hlt]; injection this
    rw [hp] at hgy
    obtain ⟨g, N⟩ := p
    dsimp only at hp2 hgy
    have hyy := hy J y g hJ hCy hlt hgy
    rw [← hp2] at hyy
    repeat' (first | ((rw [hp])) | ((first | refine WLA.m rfl rfl ?_ ?_ | refine WLA.st rfl ?_ ?_ | refine WLA.x rfl rfl ?_ (fun x => ?_) | refine WLA.x0 rfl ?_ (fun x => ?_)); first | exact trivial | exact rfl | assumption | omega | (refine ⟨?_, ?_⟩ <;> omega) | (simp only [Room, List.length_set, List.length_append, List.length_cons, List.length_nil, List.length_replicate]; omega) | decide | skip) | (refine Stp.go ?_) | (guard_target =~ WLA _ _ _ _ _ (⟨_, .call ⟨.value (.tmp _), _, _⟩, _, _, _, _⟩ :: _) _ _; refine WLA.yield rfl rfl (hyy.ent) ?_; rintro (x' | z)) | (refine WPA.ifT ?_) | (refine WPA.ifF ?_) | ((first | refine WPA.dec ?_); first | refine .inl ⟨by first | assumption | omega | with_reducible rfl | (refine fun h => h ?_; first | assumption | with_reducible rfl) | (simp only [List.length_append, List.length_cons, List.length_nil, List.length_set] <;> omega) | decide, ?_⟩ | refine .inr ⟨by first | assumption | omega | with_reducible rfl | (refine fun h => h ?_; first | assumption | with_reducible rfl) | (simp only [List.length_append, List.length_cons, List.length_nil, List.length_set] <;> omega) | decide, ?_⟩) | ((first | refine WPA.ifBt ?_ ?_ | refine WPA.ifBnf ?_ ?_); assumption) | ((first | refine WPA.ifBnt ?_ ?_ | refine WPA.ifBf ?_ ?_); assumption) | ((first | refine WPA.ifs ?_ ?_ | refine WPA.ifB ?_ ?_) <;> intro hc))
    · refine QQ.pre fun hC' => ?_
      exact QQ.loopS x' ⟨rfl, rfl, rfl, by rw [hC'.2]; rfl, trivial⟩ hC'.1 (by have := hC'.2; omega) (fun w h => h)
    · exact QQ.end_ rfl (.inr z) rfl fun w h => hBz J z w hJ h
  · have hlt' : ¬ (ix y : Int) < qs.length := by omega
    repeat' (first | ((first | refine WLA.m rfl rfl ?_ ?_ | refine WLA.st rfl ?_ ?_ | refine WLA.x rfl rfl ?_ (fun x => ?_) | refine WLA.x0 rfl ?_ (fun x => ?_)); first | exact trivial | exact rfl | assumption | omega | (refine ⟨?_, ?_⟩ <;> omega) | (simp only [Room, List.length_set, List.length_append, List.length_cons, List.length_nil, List.length_replicate]; omega) | decide | skip) | (refine Stp.go ?_) | (refine WPA.ifT ?_) | (refine WPA.ifF ?_) | ((first | refine WPA.dec ?_); first | refine .inl ⟨by first | assumption | omega | with_reducible rfl | (refine fun h => h ?_; first | assumption | with_reducible rfl) | (simp only [List.length_append, List.length_cons, List.length_nil, List.length_set] <;> omega) | decide, ?_⟩ | refine .inr ⟨by first | assumption | omega | with_reducible rfl | (refine fun h => h ?_; first | assumption | with_reducible rfl) | (simp only [List.length_append, List.length_cons, List.length_nil, List.length_set] <;> omega) | decide, ?_⟩) | ((first | refine WPA.ifBt ?_ ?_ | refine WPA.ifBnf ?_ ?_); assumption) | ((first | refine WPA.ifBnt ?_ ?_ | refine WPA.ifBf ?_ ?_); assumption) | ((first | refine WPA.ifs ?_ ?_ | refine WPA.ifB ?_ ?_) <;> intro hc))
    exact QQ.endn rfl (.inl y) rfl fun w h => ⟨⟨hCy, by omega⟩, (h.to : SL w0 J (StoreR S m :: Lk y) w).sub hJ⟩
end
end Go.Proofs.Ytbekjbgaenjbfaa
namespace Go.Proofs.Ytbekjbgaenjbfaa
open Go Go.Fw Go.RowKit
set_option linter.unusedVariables false
set_option linter.unusedSimpArgs false
set_option maxRecDepth 100000
set_option maxHeartbeats 16000000
set_option synthInstance.maxHeartbeats 200000
set_option synthInstance.maxSize 100000
attribute [local irreducible] WPA WLA WDA WDQ WDE QQ seqQ blockQ loopQ fnQ OpP OpT Tr TrP SL SLd OwnS LitS Bk BkE Ob
attribute [local irreducible] vS keyS parL RowH CtsH
theorem catB_congr {m m' : BS} : ∀ {l : List Int}, (∀ i ∈ l, at_ m'.ts i = at_ m.ts i) → catB m' l = catB m l
  | [], _ => rfl
  | a :: l, h => by
    show at_ m'.ts a ++ catB m' l = at_ m.ts a ++ catB m l
    rw [h a (List.mem_cons_self ..), catB_congr fun i hi => h i (List.mem_cons_of_mem _ hi)]
def exB : List Ct := [([7], 7)]
theorem exB_wrong : wrong 1 exB = 0 := by decide
theorem exB_size : (byS exB).size = 4 := by
  unfold exB
  rw [byS_cons, ByteArray.size_append, ByteArray.size_append, keyS_size, vS_lt (by decide)]; rfl
structure BackP (z : Int) (t : ByteArray) (ida idb : List Int) (m1 m2 m3 m4 : BS) : Prop where
  f1 : Filled (BS.mk z 100000 [] [] 0 0 0) m1 ida t
  f2 : Filled m1 m2 idb (byS exB)
  txt : txtN m2 ida ida.length = some t
  txb : TxB m2
  ra : Right m2 ida
  e3 : m3 = (srtI ida).foldl BS.free m2
  ok3 : m3.Ok
  rb : Right m3 idb
  e4 : m4 = (srtI idb).foldl BS.free m3
  used : m4.used = 0
  lens : ida.length ≤ 1000000 ∧ idb.length ≤ 1000000
theorem room1 {z : Int} {t : ByteArray} (hz : 1 ≤ z ∧ z ≤ 100) (ht : t.size ≤ 90300) : ¬ (BS.mk z 100000 [] [] 0 0 0).size * ((BS.mk z 100000 [] [] 0 0 0).most - (BS.mk z 100000 [] [] 0 0 0).used) < t.size := by
  show ¬ z * (100000 - 0) < t.size
  omega
theorem room2 {z : Int} {t : ByteArray} {m1 : BS} {ida : List Int} (hz : 1 ≤ z ∧ z ≤ 100) (ht : t.size ≤ 90300) (F : Filled (BS.mk z 100000 [] [] 0 0 0) m1 ida t) : ¬ m1.size * (m1.most - m1.used) < (byS exB).size := by
  have h1 := F.num
  have h2 := F.used
  have h3 := F.sz
  dsimp only at h1 h2 h3
  rw [exB_size, h3.1, h3.2, h2, Int.mul_sub, Int.zero_add, Int.mul_comm z (ida.length : Int)]
  omega
theorem back_of {z : Int} {t : ByteArray} {ida idb : List Int} {m1 m2 : BS} (hz : 1 ≤ z ∧ z ≤ 100) (F1 : Filled (BS.mk z 100000 [] [] 0 0 0) m1 ida t) (F2 : Filled m1 m2 idb (byS exB)) :
    BackP z t ida idb m1 m2 ((srtI ida).foldl BS.free m2) ((srtI idb).foldl BS.free ((srtI ida).foldl BS.free m2)) := by
  have hra : Right m2 ida := ⟨fun i hi => (F2.keep i (F1.has i hi).1).1, F1.nodup⟩
  have hmem : ∀ {ids : List Int} {i : Int}, i ∈ srtI ids ↔ i ∈ ids := fun {ids i} => (srt_perm ids).mem_iff
  have G3 := frees (srtI ida) F2.ok ((srt_perm ida).nodup_iff.2 hra.2) fun i hi => hra.1 i (hmem.1 hi)
  have hrb : Right ((srtI ida).foldl BS.free m2) idb := ⟨fun i hi => (G3.keep i (F2.has i hi).1 fun h => (F2.has i hi).2 (F1.has i (hmem.1 h)).1).1, F2.nodup⟩
  have G4 := frees (srtI idb) G3.ok ((srt_perm idb).nodup_iff.2 hrb.2) fun i hi => hrb.1 i (hmem.1 hi)
  have htx := txtN_cat (m := m2) (ids := ida) hra.1
  rw [catB_congr (m := m1) fun i hi => (F2.keep i (F1.has i hi).1).2, F1.cat] at htx
  have u1 := F1.used
  have u2 := F2.used
  have u3 := G3.used
  have u4 := G4.used
  have s1 := F1.sz
  have s2 := F2.sz
  have um := F2.ok.um
  rw [srt_len] at u3 u4
  dsimp only at u1 s1
  exact ⟨F1, F2, htx, F2.txb (F1.txb TxB.new), hra, rfl, G3.ok, hrb, rfl, by omega, by omega, by omega⟩
end Go.Proofs.Ytbekjbgaenjbfaa
