/- States as lists of held things; what may be taken out of them. Conditions: none. -/
import Derived.Test.YtfhelnalegochaaFwBuiltin
namespace Go.Fw
open Go Go.RowKit
set_option linter.unusedVariables false
set_option linter.unusedSimpArgs false

abbrev Foot := List (Nat × Obj)
/-- What some blocks hold. -/
abbrev HP := Foot → Prop
def Fits : List HP → List Foot → Prop
  | [], [] => True
  | p :: L, R :: Rs => p R ∧ Fits L Rs
  | _, _ => False
/-- The blocks of I are there for good; the things of L are held alone. -/
def SL (w0 : World) (I : Foot) (L : List HP) (w : World) : Prop :=
  ∃ (H : HeapP) (Rs : List Foot), (∀ b o, (b, o) ∈ I → H b = some o) ∧ Fits L Rs ∧ St w0 H Rs.flatten w

theorem SL.below {w0 : World} {I : Foot} {L : List HP} {w : World} (h : SL w0 I L w) : Below w0.heap.size w0 w := by
  obtain ⟨H, Rs, _, _, h⟩ := h; exact h.below
theorem SL.start {w : World} {I : Foot} (h : ∀ b o, (b, o) ∈ I → w.heap[b]? = some o) : SL w I [] w := ⟨_, [], h, trivial, St.start w⟩
theorem SL.drawn {w0 : World} {I : Foot} {L : List HP} {w : World} (h : SL w0 I L w) (k : Nat) (hk : w.drawn ≤ k) : SL w0 I L { w with drawn := k } := by
  obtain ⟨H, Rs, h1, h2, h⟩ := h; exact ⟨H, Rs, h1, h2, h.drawn k hk⟩
theorem SL.sub {w0 : World} {I I' : Foot} {L : List HP} {w : World} (h : SL w0 I L w) (hs : I' ⊆ I) : SL w0 I' L w := by
  obtain ⟨H, Rs, h1, h2, h⟩ := h; exact ⟨H, Rs, fun b o hb => h1 b o (hs hb), h2, h⟩
theorem SL.push {w0 : World} {I : Foot} {L : List HP} {w : World} (h : SL w0 I L w) (o : Obj) (p : HP) (hp : p [(w.heap.size, o)]) : SL w0 I (p :: L) { w with heap := w.heap.push o } := by
  obtain ⟨H, Rs, h1, h2, h⟩ := h
  exact ⟨H, [(w.heap.size, o)] :: Rs, h1, ⟨hp, h2⟩, h.push o⟩
theorem SL.uncons {w0 : World} {I : Foot} {p : HP} {L : List HP} {w : World} (h : SL w0 I (p :: L) w) : ∃ H R Rs, (∀ b o, (b, o) ∈ I → H b = some o) ∧ p R ∧ Fits L Rs ∧ St w0 H (R ++ Rs.flatten) w := by
  obtain ⟨H, Rs, h1, h2, h⟩ := h
  cases Rs with
  | nil => exact h2.elim
  | cons R Rs => exact ⟨H, R, Rs, h1, h2.1, h2.2, h⟩
theorem SL.cons {w0 : World} {I : Foot} {p : HP} {L : List HP} {w : World} {H : HeapP} {R : Foot} {Rs : List Foot} (h1 : ∀ b o, (b, o) ∈ I → H b = some o) (hp : p R) (hf : Fits L Rs) (h : St w0 H (R ++ Rs.flatten) w) : SL w0 I (p :: L) w :=
  ⟨H, R :: Rs, h1, ⟨hp, hf⟩, h⟩

/-! ### One list out of another -/
def Ent (L L' : List HP) : Prop := ∀ Rs, Fits L Rs → ∃ Rs' K, Fits L' Rs' ∧ (Rs'.flatten ++ K).Perm Rs.flatten
theorem Ent.sl {L L' : List HP} (e : Ent L L') {w0 : World} {I : Foot} {w : World} (h : SL w0 I L w) : SL w0 I L' w := by
  obtain ⟨H, Rs, h1, h2, h⟩ := h
  obtain ⟨Rs', K, h3, h4⟩ := e Rs h2
  exact ⟨H, Rs', h1, h3, (h.perm h4.symm).drop (List.sublist_append_left ..)⟩
theorem Ent.refl {L : List HP} : Ent L L := fun Rs h => ⟨Rs, [], h, by simp⟩
theorem Ent.trans {L L' L'' : List HP} (h : Ent L L') (k : Ent L' L'') : Ent L L'' := by
  intro Rs hf
  obtain ⟨Rs1, K1, h1, h2⟩ := h Rs hf
  obtain ⟨Rs2, K2, h3, h4⟩ := k Rs1 h1
  refine ⟨Rs2, K2 ++ K1, h3, ?_⟩
  rw [← List.append_assoc]
  exact (h4.append_right K1).trans h2
theorem Ent.cons {p : HP} {L L' : List HP} (h : Ent L L') : Ent (p :: L) (p :: L') := by
  intro Rs hf
  cases Rs with
  | nil => exact hf.elim
  | cons R Rs =>
    obtain ⟨Rs1, K1, h1, h2⟩ := h Rs hf.2
    refine ⟨R :: Rs1, K1, ⟨hf.1, h1⟩, ?_⟩
    simp only [List.flatten_cons, List.append_assoc]
    exact h2.append_left R
theorem Ent.swap {p q : HP} {L : List HP} : Ent (p :: q :: L) (q :: p :: L) := by
  intro Rs hf
  match Rs, hf with
  | R1 :: R2 :: Rs, ⟨h1, h2, h3⟩ =>
    refine ⟨R2 :: R1 :: Rs, [], ⟨h2, h1, h3⟩, ?_⟩
    simp only [List.flatten_cons, List.append_nil]
    rw [← List.append_assoc, ← List.append_assoc]
    exact List.Perm.append_right _ List.perm_append_comm
theorem Ent.drop1 {p : HP} {L : List HP} : Ent (p :: L) L := by
  intro Rs hf
  cases Rs with
  | nil => exact hf.elim
  | cons R Rs => exact ⟨Rs, R, hf.2, by simp only [List.flatten_cons]; exact List.perm_append_comm⟩
/-- Thrown away. -/
theorem Ent.drop {p : HP} {L L' : List HP} (h : Ent L L') : Ent (p :: L) L' := Ent.drop1.trans h
theorem Ent.nil : ∀ {L : List HP}, Ent L []
  | [] => Ent.refl
  | _ :: _ => Ent.drop Ent.nil
/-- p, taken out of L: L' is left. -/
def Take (L : List HP) (p : HP) (L' : List HP) : Prop := Ent L (p :: L')
theorem Take.here {p : HP} {L : List HP} : Take (p :: L) p L := Ent.refl
theorem Take.there {p q : HP} {L L' : List HP} (h : Take L p L') : Take (q :: L) p (q :: L') := (Ent.cons h).trans Ent.swap
theorem Ent.take {p : HP} {L L1 L' : List HP} (h : Take L p L1) (k : Ent L1 L') : Ent L (p :: L') := h.trans (Ent.cons k)

/-! ### Words for what is held -/
def exH {α : Type} (p : α → HP) : HP := fun R => ∃ x, p x R
def star (p q : HP) : HP := fun R => ∃ R1 R2, p R1 ∧ q R2 ∧ R = R1 ++ R2
def pureH (φ : Prop) (p : HP) : HP := fun R => φ ∧ p R
theorem Ent.ex {α : Type} {p : α → HP} {L L' : List HP} (x : α) (h : Ent L (p x :: L')) : Ent L (exH p :: L') := by
  intro Rs hf
  obtain ⟨Rs', K, h1, h2⟩ := h Rs hf
  match Rs', h1 with
  | R :: Rs', h1 => exact ⟨R :: Rs', K, ⟨⟨x, h1.1⟩, h1.2⟩, h2⟩
theorem Ent.pure {φ : Prop} {p : HP} {L L' : List HP} (hφ : φ) (h : Ent L (p :: L')) : Ent L (pureH φ p :: L') := by
  intro Rs hf
  obtain ⟨Rs', K, h1, h2⟩ := h Rs hf
  match Rs', h1 with
  | R :: Rs', h1 => exact ⟨R :: Rs', K, ⟨⟨hφ, h1.1⟩, h1.2⟩, h2⟩
theorem Ent.star {p q : HP} {L L' : List HP} (h : Ent L (p :: q :: L')) : Ent L (star p q :: L') := by
  intro Rs hf
  obtain ⟨Rs', K, h1, h2⟩ := h Rs hf
  match Rs', h1 with
  | R1 :: R2 :: Rs', ⟨h1, h3, h4⟩ => exact ⟨(R1 ++ R2) :: Rs', K, ⟨⟨R1, R2, h1, h3, rfl⟩, h4⟩, by simpa using h2⟩
theorem Ent.unstar {p q : HP} {L : List HP} : Ent (Go.Fw.star p q :: L) (p :: q :: L) := by
  intro Rs hf
  match Rs, hf with
  | R :: Rs, ⟨⟨R1, R2, h1, h2, h3⟩, h4⟩ => exact ⟨R1 :: R2 :: Rs, [], ⟨h1, h2, h4⟩, by simp [h3]⟩
theorem Ent.of {p q : HP} {L : List HP} (h : ∀ R, p R → q R) : Ent (p :: L) (q :: L) := by
  intro Rs hf
  match Rs, hf with
  | R :: Rs, ⟨h1, h2⟩ => exact ⟨R :: Rs, [], ⟨h _ h1, h2⟩, by simp⟩
theorem SL.exH {w0 : World} {I : Foot} {L : List HP} {w : World} {α : Type} {p : α → HP} (h : SL w0 I (exH p :: L) w) : ∃ x, SL w0 I (p x :: L) w := by
  obtain ⟨H, R, Rs, h1, ⟨x, hp⟩, h2, h3⟩ := h.uncons
  exact ⟨x, SL.cons h1 hp h2 h3⟩
theorem SL.pureH {w0 : World} {I : Foot} {L : List HP} {w : World} {φ : Prop} {p : HP} (h : SL w0 I (pureH φ p :: L) w) : φ ∧ SL w0 I (p :: L) w := by
  obtain ⟨H, R, Rs, h1, ⟨hφ, hp⟩, h2, h3⟩ := h.uncons
  exact ⟨hφ, SL.cons h1 hp h2 h3⟩
/-- From now on there for good. -/
theorem SL.freeze {w0 : World} {I : Foot} {p : HP} {L : List HP} {w : World} (h : SL w0 I (p :: L) w) : ∃ R, p R ∧ SL w0 (R ++ I) L w := by
  obtain ⟨H, R, Rs, h1, hp, h2, h3⟩ := h.uncons
  refine ⟨R, hp, ?_⟩
  have key : ∀ (R : Foot) (H : HeapP) (I : Foot), (∀ b o, (b, o) ∈ I → H b = some o) → St w0 H (R ++ Rs.flatten) w → ∃ H', (∀ b o, (b, o) ∈ R ++ I → H' b = some o) ∧ St w0 H' Rs.flatten w := by
    intro R
    induction R with
    | nil => intro H I h1 h3; exact ⟨H, h1, h3⟩
    | cons q R ih =>
      intro H I h1 h3
      obtain ⟨H1, hle, hb, h4⟩ := St.freeze (b := q.1) (o := q.2) h3
      obtain ⟨H2, h5, h6⟩ := ih H1 ((q.1, q.2) :: I) (fun b o hm => by
        rcases List.mem_cons.1 hm with e | hm
        · cases e; exact hb
        · exact hle _ _ (h1 b o hm)) h4
      refine ⟨H2, fun b o hm => h5 b o ?_, h6⟩
      simp only [List.cons_append, List.mem_cons, List.mem_append] at hm ⊢
      rcases hm with e | hm | hm
      · exact .inr (.inl e)
      · exact .inl hm
      · exact .inr (.inr hm)
  obtain ⟨H', h4, h5⟩ := key R H I h1 h3
  exact ⟨H', Rs, h4, h2, h5⟩

/-! ### Classes of worlds -/
/-- All worlds of A meet SL. -/
class InSL (A : World → Prop) (w0 : outParam World) (I : outParam Foot) (L : outParam (List HP)) : Prop where
  out : ∀ w, A w → SL w0 I L w
instance {w0 : World} {I : Foot} {L : List HP} : InSL (SL w0 I L) w0 I L := ⟨fun _ h => h⟩
instance {w0 : World} {I : Foot} {L : List HP} : DrC (SL w0 I L) := ⟨fun _ k hk h => h.drawn k hk⟩
/-- The world u, but for draws. -/
def SLd (w0 : World) (I : Foot) (L : List HP) (u w : World) : Prop := SL w0 I L w ∧ ∃ k, u.drawn ≤ k ∧ w = { u with drawn := k }
instance {w0 : World} {I : Foot} {L : List HP} {u : World} : InSL (SLd w0 I L u) w0 I L := ⟨fun _ h => h.1⟩
instance {w0 : World} {I : Foot} {L : List HP} {u : World} : DrC (SLd w0 I L u) := ⟨fun w k hk h => ⟨h.1.drawn k hk, by obtain ⟨_, m, hm, rfl⟩ := h; exact ⟨k, Nat.le_trans hm hk, rfl⟩⟩⟩
/-- A is the class SL. -/
class IsSL (A : World → Prop) (w0 : outParam World) (I : outParam Foot) (L : outParam (List HP)) : Prop where
  out : A = SL w0 I L
instance {w0 : World} {I : Foot} {L : List HP} : IsSL (SL w0 I L) w0 I L := ⟨rfl⟩

section
variable {ro : Option Nat} {P : Program} {n : Nat} {Q : Hnd} {ρ : Env} {A : World → Prop} {ops : Array Oper}
theorem WPA.ofEx {c : Code} {τ : Type} {B : τ → World → Prop} (h : ∀ w, A w → ∃ x, B x w) (k : ∀ x, WPA ro P n c Q ρ (B x)) : WPA ro P n c Q ρ A :=
  fun m a w ha hA => by obtain ⟨x, hB⟩ := h w hA; exact k x m a w ha hB
theorem WLA.ofEx' {l : List Oper} {τ : Type} {B : τ → World → Prop} (h : ∀ w, A w → ∃ x, B x w) (k : ∀ x, WLA ro P n ops Q l ρ (B x)) : WLA ro P n ops Q l ρ A :=
  fun m a w ha hA => by obtain ⟨x, hB⟩ := h w hA; exact k x m a w ha hB
theorem QQ.ofEx {e : Exit} {τ : Type} {B : τ → World → Prop} (h : ∀ w, A w → ∃ x, B x w) (k : ∀ x, QQ Q e ρ (B x)) : QQ Q e ρ A :=
  fun w hA => by obtain ⟨x, hB⟩ := h w hA; exact k x w hB
variable {w0 : World} {I : Foot} {L L' : List HP}
theorem WPA.ent {c : Code} (h : Ent L L') (k : WPA ro P n c Q ρ (SL w0 I L')) : WPA ro P n c Q ρ (SL w0 I L) := WPA.mono (fun _ hw => h.sl hw) k
theorem WLA.ent {l : List Oper} (h : Ent L L') (k : WLA ro P n ops Q l ρ (SL w0 I L')) : WLA ro P n ops Q l ρ (SL w0 I L) := WLA.mono (fun _ hw => h.sl hw) k
theorem QQ.ent {e : Exit} (h : Ent L L') (k : QQ Q e ρ (SL w0 I L')) : QQ Q e ρ (SL w0 I L) := fun w hw => k w (h.sl hw)
theorem WPA.exH {c : Code} {α : Type} {p : α → HP} (k : ∀ x, WPA ro P n c Q ρ (SL w0 I (p x :: L))) : WPA ro P n c Q ρ (SL w0 I (exH p :: L)) := WPA.ofEx (fun _ h => h.exH) k
theorem WPA.pureH {c : Code} {φ : Prop} {p : HP} (k : φ → WPA ro P n c Q ρ (SL w0 I (p :: L))) : WPA ro P n c Q ρ (SL w0 I (pureH φ p :: L)) := fun m a w ha hA => k hA.pureH.1 m a w ha hA.pureH.2
theorem WPA.star {c : Code} {p q : HP} (k : WPA ro P n c Q ρ (SL w0 I (p :: q :: L))) : WPA ro P n c Q ρ (SL w0 I (star p q :: L)) := WPA.ent Ent.unstar k
theorem WLA.exH {l : List Oper} {α : Type} {p : α → HP} (k : ∀ x, WLA ro P n ops Q l ρ (SL w0 I (p x :: L))) : WLA ro P n ops Q l ρ (SL w0 I (exH p :: L)) := WLA.ofEx' (fun _ h => h.exH) k
theorem WLA.pureH {l : List Oper} {φ : Prop} {p : HP} (k : φ → WLA ro P n ops Q l ρ (SL w0 I (p :: L))) : WLA ro P n ops Q l ρ (SL w0 I (pureH φ p :: L)) := fun m a w ha hA => k hA.pureH.1 m a w ha hA.pureH.2
theorem WLA.star {l : List Oper} {p q : HP} (k : WLA ro P n ops Q l ρ (SL w0 I (p :: q :: L))) : WLA ro P n ops Q l ρ (SL w0 I (star p q :: L)) := WLA.ent Ent.unstar k
theorem WPA.freeze {c : Code} {p : HP} (k : ∀ R, p R → WPA ro P n c Q ρ (SL w0 (R ++ I) L)) : WPA ro P n c Q ρ (SL w0 I (p :: L)) := fun m a w ha hA => by
  obtain ⟨R, hp, h⟩ := hA.freeze; exact k R hp m a w ha h
theorem WLA.freeze {l : List Oper} {p : HP} (k : ∀ R, p R → WLA ro P n ops Q l ρ (SL w0 (R ++ I) L)) : WLA ro P n ops Q l ρ (SL w0 I (p :: L)) := fun m a w ha hA => by
  obtain ⟨R, hp, h⟩ := hA.freeze; exact k R hp m a w ha h
theorem QQ.freeze {e : Exit} {p : HP} (k : ∀ R, p R → QQ Q e ρ (SL w0 (R ++ I) L)) : QQ Q e ρ (SL w0 I (p :: L)) := fun w hA => by
  obtain ⟨R, hp, h⟩ := hA.freeze; exact k R hp w h
end
/-- A function that changes nothing: it may be called at any time. -/
theorem TrP.ofD {P : Program} {f : FuncId} {args : Array Value} {v : Value} {w0 : World} {I : Foot} {L : List HP} (h : ∀ u, Tr P f args (SLd w0 I L u) (fun _ : Unit => v) (fun _ => SLd w0 I L u)) : TrP P f args (SL w0 I L) v := by
  intro w hA
  refine (h w w ⟨hA, w.drawn, Nat.le_refl _, rfl⟩).mono ?_
  rintro e w' ⟨_, rfl, _, k, hk, rfl⟩
  exact ⟨rfl, k, hk, rfl⟩
theorem TrP.ent {P : Program} {f : FuncId} {args : Array Value} {v : Value} {A : World → Prop} {w0 : World} {I : Foot} {L L' : List HP} [hi : InSL A w0 I L] (h : TrP P f args (SL w0 I L') v) (e : Ent L L') : TrP P f args A v :=
  fun w hA => h w (e.sl (hi.out w hA))
theorem Tr.ent {P : Program} {f : FuncId} {args : Array Value} {A : World → Prop} {w0 : World} {I : Foot} {L L' : List HP} [hi : InSL A w0 I L] {τ : Type} {val : τ → Value} {B : τ → World → Prop} (h : Tr P f args (SL w0 I L') val B) (e : Ent L L') : Tr P f args A val B :=
  fun w hA => h w (e.sl (hi.out w hA))
section
variable {P : Program} {f : FuncId} {args : Array Value} {v : Value} {w0 : World} {I : Foot} {L L' : List HP} {τ : Type} {val : τ → Value} {B : τ → World → Prop}
theorem Tr.exH {α : Type} {p : α → HP} (h : ∀ x, Tr P f args (SL w0 I (p x :: L)) val B) : Tr P f args (SL w0 I (exH p :: L)) val B := fun w hw => by obtain ⟨x, hx⟩ := hw.exH; exact h x w hx
theorem Tr.pureH {φ : Prop} {p : HP} (h : φ → Tr P f args (SL w0 I (p :: L)) val B) : Tr P f args (SL w0 I (pureH φ p :: L)) val B := fun w hw => h hw.pureH.1 w hw.pureH.2
theorem Tr.star {p q : HP} (h : Tr P f args (SL w0 I (p :: q :: L)) val B) : Tr P f args (SL w0 I (star p q :: L)) val B := fun w hw => h w (Ent.unstar.sl hw)
theorem Tr.at (e : Ent L L') (h : Tr P f args (SL w0 I L') val B) : Tr P f args (SL w0 I L) val B := fun w hw => h w (e.sl hw)
theorem TrP.exH {α : Type} {p : α → HP} (h : ∀ x, TrP P f args (SL w0 I (p x :: L)) v) : TrP P f args (SL w0 I (exH p :: L)) v := fun w hw => by obtain ⟨x, hx⟩ := hw.exH; exact h x w hx
theorem TrP.pureH {φ : Prop} {p : HP} (h : φ → TrP P f args (SL w0 I (p :: L)) v) : TrP P f args (SL w0 I (pureH φ p :: L)) v := fun w hw => h hw.pureH.1 w hw.pureH.2
theorem TrP.star {p q : HP} (h : TrP P f args (SL w0 I (p :: q :: L)) v) : TrP P f args (SL w0 I (star p q :: L)) v := fun w hw => h w (Ent.unstar.sl hw)
theorem TrP.at (e : Ent L L') (h : TrP P f args (SL w0 I L') v) : TrP P f args (SL w0 I L) v := fun w hw => h w (e.sl hw)
end
/-- How a thing is laid open. -/
class Opn (p : HP) (α : outParam Type) (ps : outParam (α → List HP → List HP)) : Prop where
  out : ∀ w0 I L w, SL w0 I (p :: L) w → ∃ x, SL w0 I (ps x L) w
section
variable {P : Program} {f : FuncId} {args : Array Value} {v : Value} {w0 : World} {I : Foot} {L : List HP} {τ : Type} {val : τ → Value} {B : τ → World → Prop} {p : HP} {α : Type} {ps : α → List HP → List HP}
theorem Tr.opn [o : Opn p α ps] (h : ∀ x, Tr P f args (SL w0 I (ps x L)) val B) : Tr P f args (SL w0 I (p :: L)) val B := fun w hw => by obtain ⟨x, hx⟩ := o.out _ _ _ _ hw; exact h x w hx
theorem TrP.opn [o : Opn p α ps] (h : ∀ x, TrP P f args (SL w0 I (ps x L)) v) : TrP P f args (SL w0 I (p :: L)) v := fun w hw => by obtain ⟨x, hx⟩ := o.out _ _ _ _ hw; exact h x w hx
variable {ro : Option Nat} {n : Nat} {Q : Hnd} {ρ : Env} {ops : Array Oper}
theorem WPA.opn {c : Code} [o : Opn p α ps] (h : ∀ x, WPA ro P n c Q ρ (SL w0 I (ps x L))) : WPA ro P n c Q ρ (SL w0 I (p :: L)) := WPA.ofEx (fun w hw => o.out _ _ _ _ hw) h
theorem WLA.opn {l : List Oper} [o : Opn p α ps] (h : ∀ x, WLA ro P n ops Q l ρ (SL w0 I (ps x L))) : WLA ro P n ops Q l ρ (SL w0 I (p :: L)) := WLA.ofEx' (fun w hw => o.out _ _ _ _ hw) h
theorem QQ.opn {e : Exit} [o : Opn p α ps] (h : ∀ x, QQ Q e ρ (SL w0 I (ps x L))) : QQ Q e ρ (SL w0 I (p :: L)) := QQ.ofEx (fun w hw => o.out _ _ _ _ hw) h
end
end Go.Fw
