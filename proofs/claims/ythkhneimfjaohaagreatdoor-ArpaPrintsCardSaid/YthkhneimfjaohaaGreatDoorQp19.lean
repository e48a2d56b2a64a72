/- Texts that ArpaPrints_law leans on, part 19. Conditions: none. -/
import Derived.RecoverIn
import Derived.Test.YthkhneimfjaohaaGreatDoorQp18
namespace Go.Proofs.YthkhneimfjaohaaGreatDoor
open Go Go.Fw Go.RowKit
set_option linter.unusedVariables false
set_option linter.unusedSimpArgs false
set_option maxRecDepth 100000
set_option maxHeartbeats 16000000
set_option synthInstance.maxHeartbeats 200000
set_option synthInstance.maxSize 100000
attribute [local irreducible] WPA WLA WDA WDQ WDE QQ seqQ blockQ loopQ fnQ OpP OpT Tr TrP SL SLd OwnS LitS Bk BkE Ob
def kn0 : ByteArray := ⟨#[92, 100, 97, 116, 97, 92, 10, 102, 114, 97, 99, 61, 52, 10, 110, 103, 114, 97, 109, 32, 49, 61, 51, 10, 10, 92, 49, 45, 103, 114, 97, 109, 115, 58, 10, 45, 49, 54, 9, 60, 117, 110, 107, 62, 10, 45, 49, 48, 55, 51, 55, 52, 49, 56, 50, 52, 9, 60, 115, 62, 10, 45, 49, 54, 9, 60, 47, 115, 62, 10, 10, 92, 101, 110, 100, 92, 10]⟩
def kn1 : ByteArray := ⟨#[102, 114, 97, 99, 61, 52, 10, 110, 103, 114, 97, 109, 32, 49, 61, 51, 10, 10, 92, 49, 45, 103, 114, 97, 109, 115, 58, 10, 45, 49, 54, 9, 60, 117, 110, 107, 62, 10, 45, 49, 48, 55, 51, 55, 52, 49, 56, 50, 52, 9, 60, 115, 62, 10, 45, 49, 54, 9, 60, 47, 115, 62, 10, 10, 92, 101, 110, 100, 92, 10]⟩
def kn2 : ByteArray := ⟨#[110, 103, 114, 97, 109, 32, 49, 61, 51, 10, 10, 92, 49, 45, 103, 114, 97, 109, 115, 58, 10, 45, 49, 54, 9, 60, 117, 110, 107, 62, 10, 45, 49, 48, 55, 51, 55, 52, 49, 56, 50, 52, 9, 60, 115, 62, 10, 45, 49, 54, 9, 60, 47, 115, 62, 10, 10, 92, 101, 110, 100, 92, 10]⟩
def kn3 : ByteArray := ⟨#[10, 92, 49, 45, 103, 114, 97, 109, 115, 58, 10, 45, 49, 54, 9, 60, 117, 110, 107, 62, 10, 45, 49, 48, 55, 51, 55, 52, 49, 56, 50, 52, 9, 60, 115, 62, 10, 45, 49, 54, 9, 60, 47, 115, 62, 10, 10, 92, 101, 110, 100, 92, 10]⟩
def kn4 : ByteArray := ⟨#[92, 49, 45, 103, 114, 97, 109, 115, 58, 10, 45, 49, 54, 9, 60, 117, 110, 107, 62, 10, 45, 49, 48, 55, 51, 55, 52, 49, 56, 50, 52, 9, 60, 115, 62, 10, 45, 49, 54, 9, 60, 47, 115, 62, 10, 10, 92, 101, 110, 100, 92, 10]⟩
def kn5 : ByteArray := ⟨#[45, 49, 54, 9, 60, 117, 110, 107, 62, 10, 45, 49, 48, 55, 51, 55, 52, 49, 56, 50, 52, 9, 60, 115, 62, 10, 45, 49, 54, 9, 60, 47, 115, 62, 10, 10, 92, 101, 110, 100, 92, 10]⟩
def kn6 : ByteArray := ⟨#[45, 49, 48, 55, 51, 55, 52, 49, 56, 50, 52, 9, 60, 115, 62, 10, 45, 49, 54, 9, 60, 47, 115, 62, 10, 10, 92, 101, 110, 100, 92, 10]⟩
def kn7 : ByteArray := ⟨#[45, 49, 54, 9, 60, 47, 115, 62, 10, 10, 92, 101, 110, 100, 92, 10]⟩
def kn8 : ByteArray := ⟨#[10, 92, 101, 110, 100, 92, 10]⟩
def kn9 : ByteArray := ⟨#[92, 101, 110, 100, 92, 10]⟩
def kn10 : ByteArray := ⟨#[]⟩
def ln0 : ByteArray := ⟨#[92, 100, 97, 116, 97, 92]⟩
def ln1 : ByteArray := ⟨#[102, 114, 97, 99, 61, 52]⟩
def ln2 : ByteArray := ⟨#[110, 103, 114, 97, 109, 32, 49, 61, 51]⟩
def ln3 : ByteArray := ⟨#[]⟩
def ln4 : ByteArray := ⟨#[92, 49, 45, 103, 114, 97, 109, 115, 58]⟩
def ln5 : ByteArray := ⟨#[45, 49, 54, 9, 60, 117, 110, 107, 62]⟩
def ln6 : ByteArray := ⟨#[45, 49, 48, 55, 51, 55, 52, 49, 56, 50, 52, 9, 60, 115, 62]⟩
def ln7 : ByteArray := ⟨#[45, 49, 54, 9, 60, 47, 115, 62]⟩
def ln8 : ByteArray := ⟨#[]⟩
def ln9 : ByteArray := ⟨#[92, 101, 110, 100, 92]⟩
theorem ka0 : aftB kn0 10 = kn1 := by decide +kernel
theorem kb0 : befB kn0 10 = ln0 := by decide +kernel
theorem kc0 : ¬ ¬ 0 ≤ atB kn0 10 := by decide +kernel
theorem ka1 : aftB kn1 10 = kn2 := by decide +kernel
theorem kb1 : befB kn1 10 = ln1 := by decide +kernel
theorem kc1 : ¬ ¬ 0 ≤ atB kn1 10 := by decide +kernel
theorem ka2 : aftB kn2 10 = kn3 := by decide +kernel
theorem kb2 : befB kn2 10 = ln2 := by decide +kernel
theorem kc2 : ¬ ¬ 0 ≤ atB kn2 10 := by decide +kernel
theorem ka3 : aftB kn3 10 = kn4 := by decide +kernel
theorem kb3 : befB kn3 10 = ln3 := by decide +kernel
theorem kc3 : ¬ ¬ 0 ≤ atB kn3 10 := by decide +kernel
theorem ka4 : aftB kn4 10 = kn5 := by decide +kernel
theorem kb4 : befB kn4 10 = ln4 := by decide +kernel
theorem kc4 : ¬ ¬ 0 ≤ atB kn4 10 := by decide +kernel
theorem ka5 : aftB kn5 10 = kn6 := by decide +kernel
theorem kb5 : befB kn5 10 = ln5 := by decide +kernel
theorem kc5 : ¬ ¬ 0 ≤ atB kn5 10 := by decide +kernel
theorem ka6 : aftB kn6 10 = kn7 := by decide +kernel
theorem kb6 : befB kn6 10 = ln6 := by decide +kernel
theorem kc6 : ¬ ¬ 0 ≤ atB kn6 10 := by decide +kernel
theorem ka7 : aftB kn7 10 = kn8 := by decide +kernel
theorem kb7 : befB kn7 10 = ln7 := by decide +kernel
theorem kc7 : ¬ ¬ 0 ≤ atB kn7 10 := by decide +kernel
theorem ka8 : aftB kn8 10 = kn9 := by decide +kernel
theorem kb8 : befB kn8 10 = ln8 := by decide +kernel
theorem kc8 : ¬ ¬ 0 ≤ atB kn8 10 := by decide +kernel
theorem ka9 : aftB kn9 10 = kn10 := by decide +kernel
theorem kb9 : befB kn9 10 = ln9 := by decide +kernel
theorem kc9 : ¬ ¬ 0 ≤ atB kn9 10 := by decide +kernel
theorem ki1 : intS (1) = ⟨#[49]⟩ := by
  unfold intS
  first | rw [if_pos (by decide)] | rw [if_neg (by decide)]
  rw [show (1 : Int).toNat = 1 by decide]
  rw [decL, dif_pos (by decide)]
  decide +kernel
theorem ki3 : intS (3) = ⟨#[51]⟩ := by
  unfold intS
  first | rw [if_pos (by decide)] | rw [if_neg (by decide)]
  rw [show (3 : Int).toNat = 3 by decide]
  rw [decL, dif_pos (by decide)]
  decide +kernel
theorem ki4 : intS (4) = ⟨#[52]⟩ := by
  unfold intS
  first | rw [if_pos (by decide)] | rw [if_neg (by decide)]
  rw [show (4 : Int).toNat = 4 by decide]
  rw [decL, dif_pos (by decide)]
  decide +kernel
theorem kim16 : intS (-16) = ⟨#[45, 49, 54]⟩ := by
  unfold intS
  first | rw [if_pos (by decide)] | rw [if_neg (by decide)]
  rw [show (-(-16) : Int).toNat = 16 by decide]
  rw [decL, dif_neg (by decide), show 16 / 10 = 1 by decide]
  rw [decL, dif_pos (by decide)]
  decide +kernel
theorem kim1073741824 : intS (-1073741824) = ⟨#[45, 49, 48, 55, 51, 55, 52, 49, 56, 50, 52]⟩ := by
  unfold intS
  first | rw [if_pos (by decide)] | rw [if_neg (by decide)]
  rw [show (-(-1073741824) : Int).toNat = 1073741824 by decide]
  rw [decL, dif_neg (by decide), show 1073741824 / 10 = 107374182 by decide]
  rw [decL, dif_neg (by decide), show 107374182 / 10 = 10737418 by decide]
  rw [decL, dif_neg (by decide), show 10737418 / 10 = 1073741 by decide]
  rw [decL, dif_neg (by decide), show 1073741 / 10 = 107374 by decide]
  rw [decL, dif_neg (by decide), show 107374 / 10 = 10737 by decide]
  rw [decL, dif_neg (by decide), show 10737 / 10 = 1073 by decide]
  rw [decL, dif_neg (by decide), show 1073 / 10 = 107 by decide]
  rw [decL, dif_neg (by decide), show 107 / 10 = 10 by decide]
  rw [decL, dif_neg (by decide), show 10 / 10 = 1 by decide]
  rw [decL, dif_pos (by decide)]
  decide +kernel
def nu3 : ByteArray := ⟨#[51]⟩
theorem ko3 : NumOk nu3 := by unfold NumOk DigP; decide +kernel
theorem kv3 : numV nu3 = 3 := (num_yes ko3).1.trans (by decide +kernel)
def nu4 : ByteArray := ⟨#[52]⟩
theorem ko4 : NumOk nu4 := by unfold NumOk DigP; decide +kernel
theorem kv4 : numV nu4 = 4 := (num_yes ko4).1.trans (by decide +kernel)
def num16 : ByteArray := ⟨#[45, 49, 54]⟩
theorem kom16 : NumOk num16 := by unfold NumOk DigP; decide +kernel
theorem kvm16 : numV num16 = -16 := (num_yes kom16).1.trans (by decide +kernel)
def num1073741824 : ByteArray := ⟨#[45, 49, 48, 55, 51, 55, 52, 49, 56, 50, 52]⟩
theorem kom1073741824 : NumOk num1073741824 := by unfold NumOk DigP; decide +kernel
theorem kvm1073741824 : numV num1073741824 = -1073741824 := (num_yes kom1073741824).1.trans (by decide +kernel)
def kng : ByteArray := ⟨#[110, 103, 114, 97, 109, 32, 49, 61]⟩
theorem kngB : ngB 1 = kng := by unfold ngB; rw [show ((1 : Nat) : Int) = 1 from rfl, ki1]; decide +kernel
theorem ksec : secB 1 = ln4 := by unfold secB; rw [show ((1 : Nat) : Int) = 1 from rfl, ki1]; decide +kernel
theorem kcut1 : cutP ln1 fracB = nu4 := by decide +kernel
theorem khas1 : hasP ln1 fracB := by decide +kernel
theorem kcut2 : cutP ln2 kng = nu3 := by decide +kernel
theorem khas2 : hasP ln2 kng := by decide +kernel
def kw0 : ByteArray := ⟨#[60, 117, 110, 107, 62]⟩
theorem ksp0 : splB ln5 9 = [num16, kw0] := by decide +kernel
theorem ksq0 : splB kw0 32 = [kw0] := by decide +kernel
theorem kpi0 : PieceP kw0 := by unfold PieceP; decide +kernel
theorem ken0 : EntOk ((0 + 1 : Nat) : Int) true ln5 := by
  unfold EntOk
  rw [ksp0]
  show (((2 : Nat) : Int) = 2 ∧ (NumOk num16 ∧ ((splB kw0 32).length : Int) = _) ∧ (∀ w ∈ splB kw0 32, PieceP w) ∧ (true = false → _))
  rw [ksq0]
  exact ⟨rfl, ⟨kom16, rfl⟩, (fun w hw => by rw [List.mem_singleton.1 hw]; exact kpi0), (fun h => by cases h)⟩
theorem kgr0 : grF true 5 ln5 = ⟨5 + 1, [kw0], -16, 0⟩ := by
  unfold grF
  rw [ksp0]
  show (⟨5 + 1, splB kw0 32, numV num16, 0⟩ : GrL) = _
  rw [ksq0, kvm16]
def kw1 : ByteArray := ⟨#[60, 115, 62]⟩
theorem ksp1 : splB ln6 9 = [num1073741824, kw1] := by decide +kernel
theorem ksq1 : splB kw1 32 = [kw1] := by decide +kernel
theorem kpi1 : PieceP kw1 := by unfold PieceP; decide +kernel
theorem ken1 : EntOk ((0 + 1 : Nat) : Int) true ln6 := by
  unfold EntOk
  rw [ksp1]
  show (((2 : Nat) : Int) = 2 ∧ (NumOk num1073741824 ∧ ((splB kw1 32).length : Int) = _) ∧ (∀ w ∈ splB kw1 32, PieceP w) ∧ (true = false → _))
  rw [ksq1]
  exact ⟨rfl, ⟨kom1073741824, rfl⟩, (fun w hw => by rw [List.mem_singleton.1 hw]; exact kpi1), (fun h => by cases h)⟩
theorem kgr1 : grF true 6 ln6 = ⟨6 + 1, [kw1], -1073741824, 0⟩ := by
  unfold grF
  rw [ksp1]
  show (⟨6 + 1, splB kw1 32, numV num1073741824, 0⟩ : GrL) = _
  rw [ksq1, kvm1073741824]
def kw2 : ByteArray := ⟨#[60, 47, 115, 62]⟩
theorem ksp2 : splB ln7 9 = [num16, kw2] := by decide +kernel
theorem ksq2 : splB kw2 32 = [kw2] := by decide +kernel
theorem kpi2 : PieceP kw2 := by unfold PieceP; decide +kernel
theorem ken2 : EntOk ((0 + 1 : Nat) : Int) true ln7 := by
  unfold EntOk
  rw [ksp2]
  show (((2 : Nat) : Int) = 2 ∧ (NumOk num16 ∧ ((splB kw2 32).length : Int) = _) ∧ (∀ w ∈ splB kw2 32, PieceP w) ∧ (true = false → _))
  rw [ksq2]
  exact ⟨rfl, ⟨kom16, rfl⟩, (fun w hw => by rw [List.mem_singleton.1 hw]; exact kpi2), (fun h => by cases h)⟩
theorem kgr2 : grF true 7 ln7 = ⟨7 + 1, [kw2], -16, 0⟩ := by
  unfold grF
  rw [ksp2]
  show (⟨7 + 1, splB kw2 32, numV num16, 0⟩ : GrL) = _
  rw [ksq2, kvm16]
theorem khead : headF kn0 0 = .ok ((4, [3]), kn4, 4) := by
  unfold headF
  rw [ka0, ka1, ka2, kb0, kb1, kcut1, kv4]
  rw [if_neg kc0, if_neg (show ¬ ln0 ≠ dataB by decide +kernel), if_neg kc1, if_neg (fun h => h ⟨khas1, ko4⟩), if_neg kc2, kb2]
  rw [cntF, if_neg (fun h => h.2 rfl), if_neg (by decide)]
  rw [show ([] : List Int).length + 1 = 1 from rfl, kngB, kcut2, kv3]
  rw [if_neg (fun h => h ⟨khas2, ko3⟩), if_neg (by decide), if_neg kc3, ka3, kb3, show kn3.size = 52 + 1 by decide +kernel, cntF, if_pos ⟨by decide +kernel, by simp⟩]
  rfl
theorem ksecF : secF ((0 + 1 : Nat) : Int) true 3 kn5 5 = .ok ([⟨6, [kw0], -16, 0⟩, ⟨7, [kw1], -1073741824, 0⟩, ⟨8, [kw2], -16, 0⟩], kn8, 8) := by
  rw [secF, if_neg kc5, kb5, if_neg (fun h => h ken0), ka5, kgr0, show (5 : Int) + 1 = 6 from rfl, secF, if_neg kc6, kb6, if_neg (fun h => h ken1), ka6, kgr1, show (6 : Int) + 1 = 7 from rfl, secF, if_neg kc7, kb7, if_neg (fun h => h ken2), ka7, kgr2, secF]
  rfl
def kgss : List (List GrL) := [[⟨6, [kw0], -16, 0⟩, ⟨7, [kw1], -1073741824, 0⟩, ⟨8, [kw2], -16, 0⟩]]
theorem kall : allF 1 [3] 0 kn4 4 = .ok (kgss, kn10, 11) := by
  rw [allF, if_neg kc4, kb4, show 0 + 1 = 1 from rfl, if_neg (fun h => h ksec.symm), ka4, show decide (((0 : Nat) : Int) = ((1 : Nat) : Int) - 1) = true by decide, show (3 : Int).toNat = 3 from rfl, show (4 : Int) + 1 = 5 from rfl]
  have h := ksecF
  rw [show 0 + 1 = 1 from rfl] at h
  rw [h]
  dsimp only
  rw [if_neg kc8, kb8, if_neg (show ¬ ln8 ≠ ⟨#[]⟩ by decide +kernel), ka8, allF, if_neg kc9, kb9, if_neg (show ¬ ln9 ≠ endB by decide +kernel), ka9, if_neg (show ¬ kn10 ≠ ⟨#[]⟩ by decide +kernel)]
  rfl
def krows : List (List EnL) := [[([0], -16, 0), ([1], -1073741824, 0), ([2], -16, 0)]]
theorem krow : rowsF (idF (kgss.getD 0 [])) kgss = .ok krows := by rfl
def kA : List (List EV) := [[((-16, 0), [0]), ((-1073741824, 0), [1]), ((-16, 0), [2])]]
theorem kofE : ofE [kw0, kw1, kw2] = 0 := ofE_ok ⟨⟨by decide, by decide +kernel⟩, by decide, fun j h1 h2 => absurd h1 (by simp at h2; omega)⟩
theorem kchk : chkA 4 [kw0, kw1, kw2] kA = 0 := by
  unfold chkA
  rw [if_neg (by decide), kofE, if_neg (fun h => h rfl)]
  decide +kernel
theorem kparse : parseF kn0 = .ok (4, [kw0, kw1, kw2], kA) := by
  unfold parseF
  rw [khead]
  dsimp only
  rw [show ([3] : List Int).length = 1 from rfl, kall]
  dsimp only
  rw [krow]
  dsimp only
  rw [show wdsF (kgss.getD 0 []) = [kw0, kw1, kw2] from rfl, show evs krows = kA from rfl, kchk, if_neg (fun h => h rfl)]
theorem kprint : printB 4 [kw0, kw1, kw2] kA = kn0 := by
  unfold printB kA
  rw [cntsB, cntsB, secsB, secsB, show 0 + 1 = 1 from rfl, kngB]
  unfold secTB
  rw [ksec, entsB, entsB, entsB, entsB]
  unfold entB
  dsimp only
  rw [ki4, kim16, kim1073741824]
  simp only [List.length_cons, List.length_nil]
  rw [show ((0 + 1 + 1 + 1 : Nat) : Int) = 3 from rfl, ki3, show wordsB [kw0, kw1, kw2] [0] = [kw0] from rfl, show wordsB [kw0, kw1, kw2] [1] = [kw1] from rfl, show wordsB [kw0, kw1, kw2] [2] = [kw2] from rfl, show joinB [kw0] spB = kw0 by decide +kernel, show joinB [kw1] spB = kw1 by decide +kernel, show joinB [kw2] spB = kw2 by decide +kernel]
  decide +kernel
def kz0 : ByteArray := ⟨#[92, 100, 97, 116, 97, 92, 10, 102, 114, 97, 99, 61, 48, 52, 10]⟩
def kz1 : ByteArray := ⟨#[102, 114, 97, 99, 61, 48, 52, 10]⟩
def kzl : ByteArray := ⟨#[102, 114, 97, 99, 61, 48, 52]⟩
def kzn : ByteArray := ⟨#[48, 52]⟩
theorem kzbad : ¬ NumOk kzn := by unfold NumOk DigP; decide +kernel
theorem kzparse : parseF kz0 = .error (2, 3) := by
  unfold parseF headF
  rw [show aftB kz0 10 = kz1 by decide +kernel, show befB kz0 10 = dataB by decide +kernel, if_neg (show ¬ ¬ 0 ≤ atB kz0 10 by decide +kernel), if_neg (fun h => h rfl), if_neg (show ¬ ¬ 0 ≤ atB kz1 10 by decide +kernel), show befB kz1 10 = kzl by decide +kernel, if_pos (fun h => kzbad (by have := h.2; rwa [show cutP kzl fracB = kzn by decide +kernel] at this))]
  rfl
end Go.Proofs.YthkhneimfjaohaaGreatDoor
namespace Go.Fw
open Go Go.RowKit
set_option linter.unusedVariables false
set_option linter.unusedSimpArgs false
def dfc (g : FuncId) (caps : List Value) : Deferred := { target := .fn (.func g) caps.toArray, args := #[] }
section
variable {P : Program}
theorem wl_defer {n m : Nat} {ops : Array Oper} {Q : Exit → Act → World → Prop} {rest : List Oper} {a : Act} {w : World} {ρ : Env} {ds : List Deferred} {t : Tmp} {g : FuncId} {caps : List Value} {ts : Array TypeId} {ty : TypeId} {pos : String} {af : Array Edge} (ha : Agree n ρ a ds) (hv : evalE ρ (.tmp t) = .func (.func g) #[] caps.toArray)
    (k : wpListIn (FR none) m P ops Q rest { a with defers := dfc g caps :: a.defers } w) : wpListIn (FR none) m P ops Q (⟨none, .defer { callee := .value (.tmp t), args := #[], argTypes := ts }, ty, pos, af, none⟩ :: rest) a w := by
  refine wpListIn_plain rfl fun K hK => ?_
  unfold Oper.wpIn
  rw [ha.eval]
  refine ⟨fun _ _ => trivial, ?_⟩
  have e : (Oper.semAt (FR none).round (evalE ρ) ⟨none, .defer { callee := .value (.tmp t), args := #[], argTypes := ts }, ty, pos, af, none⟩).run P w = .ok (.defer (dfc g caps)) w := by
    rw [show (FR none).round = none from rfl, Oper.semAt_none]
    simp [execOp, resolve, hv, Deferred.ofValue, dfc, go_sem]
  rw [e, Oper.uponIn_defer]
  exact hK _ _ k
theorem wl_mkfn {n m : Nat} {ops : Array Oper} {Q : Exit → Act → World → Prop} {rest : List Oper} {a : Act} {w : World} {ρ : Env} {ds : List Deferred} {d : Tmp} {g : FuncId} {xs : List Operand} {vs : List Value} {ty : TypeId} {pos : String} {af : Array Edge} (ha : Agree n ρ a ds) [hx : EvAll ρ xs vs] (hd : Nat.blt d n = true)
    (k : ∀ a', Agree n (put1 ρ d (.func (.func g) #[] vs.toArray)) a' ds → wpListIn (FR none) m P ops Q rest a' w) : wpListIn (FR none) m P ops Q (⟨some d, .makeFunc (.func g) #[] xs.toArray, ty, pos, af, none⟩ :: rest) a w := by
  refine wpListIn_plain rfl fun K hK => ?_
  unfold Oper.wpIn
  rw [ha.eval]
  refine ⟨fun _ _ => trivial, ?_⟩
  have e : (Oper.semAt (FR none).round (evalE ρ) ⟨some d, .makeFunc (.func g) #[] xs.toArray, ty, pos, af, none⟩).run P w = .ok (.value (.func (.func g) #[] vs.toArray)) w := by
    rw [show (FR none).round = none from rfl, Oper.semAt_none]
    simp [execOp, Instr.makeFunc, go_sem, ← hx.out]
  rw [e]
  refine hK _ _ (k _ ?_)
  have h1 : Agree n (upd n ρ d (.func (.func g) #[] vs.toArray)) (a.put (some d) (.func (.func g) #[] vs.toArray)) ds := ha.put (some d) (.func (.func g) #[] vs.toArray)
  rw [upd_put1 hd] at h1
  exact h1
theorem wl_mkdefer {n m : Nat} {ops : Array Oper} {Q : Exit → Act → World → Prop} {a : Act} {w : World} {ρ : Env} {d : Tmp} {g : FuncId} {xs : List Operand} {vs : List Value} {ty ty2 : TypeId} {pos pos2 : String} {af af2 : Array Edge} {ts : Array TypeId} (ha : Agree n ρ a []) (hm : ρ.ms = []) [hx : EvAll ρ xs vs] (hd : Nat.blt d n = true)
    (k : ∀ a', Agree n (put1 ρ d (.func (.func g) #[] vs.toArray)) a' [dfc g vs] → Q .normal a' w) : wpListIn (FR none) m P ops Q [⟨some d, .makeFunc (.func g) #[] xs.toArray, ty, pos, af, none⟩, ⟨none, .defer { callee := .value (.tmp d), args := #[], argTypes := ts }, ty2, pos2, af2, none⟩] a w := by
  refine wl_mkfn ha hd fun a' ha' => ?_
  refine wl_defer (caps := vs) (g := g) ha' ?_ ?_
  · show (put1 ρ d _) d = _
    unfold put1
    show (bif Nat.beq d d then _ else _) = _
    rw [Nat.beq_refl]; rfl
  · refine k _ ⟨ha'.sz, ha'.get, ?_⟩
    show dfc g vs :: a'.defers = marks ρ.ms ++ [dfc g vs]
    have h1 := ha'.df
    have h2 : (put1 ρ d (.func (.func g) #[] vs.toArray)).ms = ρ.ms := rfl
    rw [h2, hm] at h1
    rw [h1, hm]; rfl
def HasT (t : Array Value) : List (Nat × Value) → Prop
  | [] => True
  | (i, v) :: l => t.getD i undef = v ∧ HasT t l
theorem HasT.of {t : Array Value} {ρ : Env} (h : ∀ i, t.getD i undef = ρ i) : ∀ {l : List (Nat × Value)}, Has ρ l → HasT t l
  | [], _ => trivial
  | (i, v) :: l, hh => ⟨(h i).trans hh.1, HasT.of h hh.2⟩
theorem HasT.env {t : Array Value} : ∀ {l : List (Nat × Value)}, HasT t l → Has ⟨fun i => t.getD i undef, []⟩ l
  | [], _ => trivial
  | (i, v) :: l, hh => ⟨hh.1, hh.2.env⟩
def awayB (o : Oper) (K : List (Nat × Value)) : Bool := K.all fun p => match o.dst with | some d => !Nat.beq d p.1 | none => true
theorem HasT.put {o : Oper} {v : Value} {a : Act} : ∀ {K : List (Nat × Value)}, awayB o K = true → HasT a.tmps K → HasT (a.put o.dst v).tmps K
  | [], _, _ => trivial
  | (i, u) :: K, h, hh => by
    unfold awayB at h
    rw [List.all_cons, Bool.and_eq_true] at h
    refine ⟨?_, HasT.put (o := o) (K := K) h.2 hh.2⟩
    cases hd : o.dst with
    | none => exact hh.1
    | some d =>
      have h1 := h.1
      rw [hd] at h1
      have hne : d ≠ i := fun e => by subst e; simp at h1
      show (a.tmps.setIfInBounds d v).getD i undef = u
      rw [getD_setIfInBounds, if_neg (fun e => hne e.1.symm)]
      exact hh.1
theorem wpList_keep {F : Fence} {n : Nat} {ops : Array Oper} {K : List (Nat × Value)} {Q : Exit → Act → World → Prop} (hO : ¬ LetsOut Q) : ∀ (l : List Oper) (a : Act) (w : World), (l.all fun o => awayB o K) = true → HasT a.tmps K → wpListIn F n P ops Q l a w → wpListIn F n P ops (fun e a w => Q e a w ∧ HasT a.tmps K) l a w
  | [], a, w, _, hk, h => ⟨h, hk⟩
  | o :: l, a, w, hl, hk, h => by
    rw [List.all_cons, Bool.and_eq_true] at hl
    rw [wpListIn] at h ⊢
    have ih := fun (v : Value) (a : Act) (w : World) (hk : HasT a.tmps K) (h : wpListIn F n P ops Q l (a.put o.dst v) w) => wpList_keep hO l (a.put o.dst v) w hl.2 (HasT.put hl.1 hk) h
    split
    · rename_i hw
      rw [if_pos hw] at h
      unfold Oper.wpIn at h ⊢
      refine ⟨h.1, ?_⟩
      have h2 := h.2
      revert h2
      generalize (Oper.semAt F.round a.eval o).run P w = r
      intro h2
      cases r with
      | ok x w' =>
        cases x <;> simp only [Oper.uponIn] at h2 ⊢
        case value v => exact ih v a w' hk h2
        case skip => exact ih undef a w' hk h2
        case defer d => exact ih undef { a with defers := d :: a.defers } w' hk h2
        case enter f args =>
          refine ⟨h2.1, h2.2.mono ?_⟩
          intro e w'' he
          cases e with
          | returned v => exact ih v a w'' hk he
          | panicked c => exact ⟨he, hk⟩
          | outgrown => exact absurd he hO
        case row row args => exact ⟨h2.1, h2.2.mono fun v w'' he => ih v a w'' hk he⟩
        case round l f tmps assign body =>
          refine ⟨h2.1, h2.2.mono ?_⟩
          intro e w'' he
          cases e with
          | returned v => exact ih v a w'' hk he
          | panicked c => exact ⟨he, hk⟩
          | outgrown => exact absurd he hO
      | halt x w' => cases x <;> simp only [Oper.uponIn] at h2 ⊢ <;> exact ⟨h2, hk⟩
    · rename_i hw
      rw [if_neg hw] at h
      exact ⟨h.1, ih undef a w hk h.2⟩
def dfP (D : Deferred) (Qr : Array Value → World → Prop) (Qp : List PanicEntry → Array Value → World → Prop) : Exit → Act → World → Prop
  | .ret, a, w => a.defers = [D] ∧ Qr a.tmps w
  | .panic c, a, w => a.defers = [D] ∧ Qp c a.tmps w
  | _, _, _ => False
def dfR (Qr : Env → World → Prop) : Hnd
  | .ret, ρ, w => ρ.ms = [] ∧ Qr ρ w
  | _, _, _ => False
theorem QQ.dret {ρ : Env} {A : World → Prop} {Qr : Env → World → Prop} (h : ∀ w, A w → Qr ρ w) (hmk : ρ.ms = [] := by rfl) : QQ (dfR Qr) .ret ρ A := fun w hA => ⟨hmk, h w hA⟩
theorem wp_dfR {N : Nat} {D : Deferred} {Qr : Array Value → World → Prop} {Qr' : Env → World → Prop} {Qp : List PanicEntry → Array Value → World → Prop} {c : Code} {ρ : Env} {A : World → Prop} {a : Act} {w : World} (ha : Agree N ρ a [D]) (hA : A w) (h : WPA none P N c (dfR Qr') ρ A)
    (hr : ∀ ρ w (t : Array Value), (∀ i, t.getD i undef = ρ i) → Qr' ρ w → Qr t w) : c.wpIn (FR none) 0 P (dfP D Qr Qp) a w :=
  wpIn_mono (h (0, [D]) a w ha hA) fun e a w hq => by
    cases e with
    | ret => obtain ⟨ρ, ha, hm, hq⟩ := hq; exact ⟨by rw [ha.df, hm]; rfl, hr ρ w a.tmps ha.get hq⟩
    | normal => obtain ⟨ρ, ha, hq⟩ := hq; exact hq.elim
    | panic c => obtain ⟨ρ, ha, hq⟩ := hq; exact hq.elim
    | outgrown => exact hq.elim
    | exit id => obtain ⟨ρ, ha, hq⟩ := hq; exact hq.elim
    | goto l => obtain ⟨ρ, ha, hq⟩ := hq; exact hq.elim
def rgX (Qn : Env → World → Prop) (Qp : List PanicEntry → World → Prop) : Hnd
  | .normal, ρ, w => ρ.ms = [] ∧ Qn ρ w
  | .panic c, ρ, w => ρ.ms = [] ∧ Qp c w
  | _, _, _ => False
instance {Qn : Env → World → Prop} {Qp : List PanicEntry → World → Prop} : Pas (rgX Qn Qp) (rgX Qn Qp) := ⟨fun _ _ _ h => h⟩
theorem QQ.rthrown {ρ : Env} {A : World → Prop} {ε : Type} {pv : ε → Value} {E : ε → World → Prop} {Qn : Env → World → Prop} {c : List PanicEntry} (y : ε) (hc : c = pan1 (pv y)) (hB : ∀ w, A w → E y w) (hmk : ρ.ms = [] := by rfl) :
    QQ (rgX Qn fun c w => ∃ y, c = pan1 (pv y) ∧ E y w) (.panic c) ρ A := fun w hA => ⟨hmk, y, hc, hB w hA⟩
theorem QQ.rend {ρ : Env} {A : World → Prop} {Qn : Env → World → Prop} {Qp : List PanicEntry → World → Prop} (h : ∀ w, A w → Qn ρ w) (hmk : ρ.ms = [] := by rfl) : QQ (rgX Qn Qp) .normal ρ A := fun w hA => ⟨hmk, h w hA⟩
theorem wp_rgX {N : Nat} {D : Deferred} {Qr : Array Value → World → Prop} {Qp : List PanicEntry → Array Value → World → Prop} {Qn : Env → World → Prop} {Qp' : List PanicEntry → World → Prop} {id : Nat} {l : List Oper} {rest : Code} {ρ : Env} {A : World → Prop} {a : Act} {w : World} (K : List (Nat × Value)) (hl : (l.all fun o => awayB o K) = true)
    (ha : Agree N ρ a [D]) (hK : Has ρ K) (hA : A w) (h : WLA none P N l.toArray (rgX Qn Qp') l ρ A) (hn : ∀ ρ w a, Agree N ρ a [D] → ρ.ms = [] → Qn ρ w → rest.wpIn (FR none) 0 P (dfP D Qr Qp) a w)
    (hp : ∀ c w (t : Array Value), HasT t K → Qp' c w → Qp c t w) : ((Code.region id l.toArray false).seq rest).wpIn (FR none) 0 P (dfP D Qr Qp) a w := by
  have h1 := wpList_keep (P := P) (K := K) (ops := l.toArray) (F := FR none) (n := 0) (Q := QA N [D] (rgX Qn Qp')) (fun ⟨_, _, h⟩ => h) l a w hl (HasT.of ha.get hK) (h (0, [D]) a w ha hA)
  refine wpIn_seq (wpIn_mono (wpIn_region_lit h1) ?_)
  rintro e a w ⟨hq, hk⟩
  cases e with
  | normal => obtain ⟨ρ, ha, hm, hq⟩ := hq; exact hn ρ w a ha hm hq
  | panic c => obtain ⟨ρ, ha, hm, hq⟩ := hq; exact ⟨by rw [ha, hm]; rfl, hp c w a.tmps hk hq⟩
  | ret => obtain ⟨ρ, ha, hq⟩ := hq; exact hq.elim
  | outgrown => exact hq.elim
  | exit id => obtain ⟨ρ, ha, hq⟩ := hq; exact hq.elim
  | goto l => obtain ⟨ρ, ha, hq⟩ := hq; exact hq.elim
theorem Tr.introD {f : FuncId} {fn : Func} {c0 rest : Code} {id : Nat} {l : List Oper} {args : List Value} {A : World → Prop} {τ : Type} {val : τ → Value} {B : τ → World → Prop} {N : Nat} {δ : Type} (d : δ → Deferred) (K0 K1 : δ → Env → World → Prop) (Qr : δ → Array Value → World → Prop) (Qp : δ → List PanicEntry → Array Value → World → Prop)
    (hf : P.funcs[f]? = some fn) (hb : fn.body = some (c0.seq ((Code.region id l.toArray false).seq rest))) (hn : fn.ntmps = N) (hle : Nat.ble args.length N = true)
    (h0 : WPA none P N c0 (fun e ρ w => e = .normal ∧ ρ.ms = [] ∧ ∃ z, K0 z ρ w) (envOf args) A)
    (h1 : ∀ z ρ w a, Agree N ρ a [] → ρ.ms = [] → K0 z ρ w → ∀ Q : Exit → Act → World → Prop, (∀ ρ' a' w', Agree N ρ' a' [d z] → ρ'.ms = [] → K1 z ρ' w' → Q .normal a' w') → wpListIn (FR none) 0 P l.toArray Q l a w)
    (h2 : ∀ z ρ w a, Agree N ρ a [d z] → ρ.ms = [] → K1 z ρ w → rest.wpIn (FR none) 0 P (dfP (d z) (Qr z) (Qp z)) a w)
    (hr : ∀ z w (tmps : Array Value), Qr z tmps w → LeavesInM Fence.wide 0 P fn tmps (fun e w' => ∃ x, e = .returned (val x) ∧ B x w') [d z] .returning w)
    (hp : ∀ z c w (tmps : Array Value), Qp z c tmps w → LeavesInM Fence.wide 0 P fn tmps (fun e w' => ∃ x, e = .returned (val x) ∧ B x w') [d z] (.panicking c) w) : Tr P f args.toArray A val B := by
  intro w hA
  subst hn
  have leave : ∀ (z : δ) (e : Exit) (a : Act) (w : World), dfP (d z) (Qr z) (Qp z) e a w → bodyPostM (FR none) 0 P fn (fun e w' => ∃ x, e = .returned (val x) ∧ B x w') e a w := by
    intro z e a w hq
    cases e with
    | ret => show LeavesInM _ _ _ _ _ _ a.defers _ _; rw [hq.1]; exact hr z w a.tmps hq.2
    | panic c => show LeavesInM _ _ _ _ _ _ a.defers _ _; rw [hq.1]; exact hp z c w a.tmps hq.2
    | normal => exact hq.elim
    | outgrown => exact hq.elim
    | exit id => exact hq.elim
    | goto l => exact hq.elim
  refine callsIn_wide.1 (callsIn_of_wp_marks (n := 0) hf hb trivial (wpIn_seq (wpIn_mono (h0 (0, []) _ w ⟨?_, ?_, rfl⟩ hA) ?_)))
  · have : args.length ≤ fn.ntmps := Nat.le_of_ble_eq_true hle
    simp; omega
  · intro i
    simp only [envOf, Array.getD_eq_getD_getElem?, List.getD_eq_getElem?_getD]
    rw [Array.getElem?_append]
    split
    · rename_i hi; simp
    · rename_i hi
      have : args[i]? = none := by simp at hi; simp [hi]
      rw [this]
      rw [Array.getElem?_replicate]
      split <;> rfl
  · intro e a w1 hq
    cases e with
    | normal =>
      obtain ⟨ρ, ha, _, hm, z, hk⟩ := hq
      show ((Code.region id l.toArray false).seq rest).wpIn _ _ _ _ a w1
      refine wpIn_seq (wpIn_region_lit (h1 z ρ w1 a ha hm hk _ ?_))
      intro ρ' a' w' ha' hm' hk'
      exact wpIn_mono (h2 z ρ' w' a' ha' hm' hk') (leave z)
    | panic c => obtain ⟨ρ, _, he, _⟩ := hq; cases he
    | outgrown => exact hq.elim
    | ret => obtain ⟨ρ, _, he, _⟩ := hq; cases he
    | exit id => obtain ⟨ρ, _, he, _⟩ := hq; cases he
    | goto l => obtain ⟨ρ, _, he, _⟩ := hq; cases he
theorem wpS_walk {N : Nat} {c : Code} {ρ : Env} {fn : Func} {c₀ : Frame} {cs : List Frame} {U : FrameMode} {a : Act} {w : World} {R : World → Prop} (ha : Agree N ρ a []) (hres : fn.results = #[])
    (h : WPA none P N c (fun e ρ w => (e = .normal ∨ e = .ret) ∧ ρ.ms = [] ∧ R w) ρ (fun u => u = w)) :
    c.wpSIn Fence.wide 0 P (bodyPostS P fn c₀ cs fun e u' w' => e = .returned (.tuple #[]) ∧ u' = U ∧ R w') a ({ c₀ with mode := U } :: cs) w := by
  refine wpSIn_of_wpIn rfl (wpIn_mono (h (0, []) a w ha rfl) ?_)
  intro e a' w' hq
  have fin : ∀ ρ' : Env, Agree N ρ' a' [] → ρ'.ms = [] → R w' → a'.defers = [] ∧ ∃ u', ({ c₀ with mode := U } :: cs : List Frame) = { c₀ with mode := u' } :: cs ∧ ∃ v, (results fn a'.tmps).run P w' = .ok v w' ∧ (Ending.returned v = .returned (.tuple #[]) ∧ u' = U ∧ R w') := fun ρ' ha' hm hR =>
    ⟨by rw [ha'.df, hm]; rfl, U, rfl, _, results_none (by rw [hres]) _ _ _, rfl, rfl, hR⟩
  cases e with
  | normal => obtain ⟨ρ', ha', _, hm, hR⟩ := hq; exact fin ρ' ha' hm hR
  | ret => obtain ⟨ρ', ha', _, hm, hR⟩ := hq; exact fin ρ' ha' hm hR
  | panic x => obtain ⟨ρ', _, h1, _⟩ := hq; rcases h1 with h1 | h1 <;> cases h1
  | outgrown => exact hq.elim
  | exit id => obtain ⟨ρ', _, h1, _⟩ := hq; rcases h1 with h1 | h1 <;> cases h1
  | goto l => obtain ⟨ρ', _, h1, _⟩ := hq; rcases h1 with h1 | h1 <;> cases h1
theorem wpS_walkL {N : Nat} {c : Code} {fn : Func} {c₀ : Frame} {cs : List Frame} {U : FrameMode} {a : Act} {w : World} {R : World → Prop} (l : List (Nat × Value)) (hsz : a.tmps.size = N) (hdf : a.defers = []) (hl : Has ⟨fun i => a.tmps.getD i undef, []⟩ l) (hres : fn.results = #[])
    (h : ∀ f, WPA none P N c (fun e ρ w => (e = .normal ∨ e = .ret) ∧ ρ.ms = [] ∧ R w) (envM [] (envL l ⟨f, []⟩)) (fun u => u = w)) :
    c.wpSIn Fence.wide 0 P (bodyPostS P fn c₀ cs fun e u' w' => e = .returned (.tuple #[]) ∧ u' = U ∧ R w') a ({ c₀ with mode := U } :: cs) w := by
  have hk := h fun i => a.tmps.getD i undef
  rw [envL_has hl] at hk
  exact wpS_walk (ρ := ⟨fun i => a.tmps.getD i undef, []⟩) ⟨hsz, fun i => rfl, by rw [hdf]; rfl⟩ hres hk
end
end Go.Fw
namespace Go.Proofs.YthkhneimfjaohaaGreatDoor
open Go Go.Fw Go.RowKit
set_option linter.unusedVariables false
set_option linter.unusedSimpArgs false
set_option maxRecDepth 100000
set_option maxHeartbeats 16000000
set_option synthInstance.maxHeartbeats 200000
set_option synthInstance.maxSize 100000
attribute [local irreducible] WPA WLA WDA WDQ WDE QQ seqQ blockQ loopQ fnQ OpP OpT Tr TrP SL SLd OwnS LitS Bk BkE Ob
theorem as_yes (v : Value) (w : World) : (Instr.typeAssert (.iface 60 v) 20 60 true).run Tryz.prog w = .ok (.tuple #[v, .bool true]) w := by kernel_rfl
theorem as_nil (w : World) : (Instr.typeAssert .nilIface 20 60 true).run Tryz.prog w = .ok (.tuple #[.agg #[.int .i64 0, .int .i64 0], .bool false]) w := by kernel_rfl
theorem bk_self (b : Nat) (t : TypeId) (cs : List Value) : Bk b t cs [(b, .cells cs.toArray t (0, 0))] := by
  unfold Bk; rfl
section
variable {w0 : World} {I : Foot} {L : List HP}
theorem clo_idle {p q r : Nat} {w : World} (hw : SL w0 I L w) : CallsDIn Fence.wide 0 Tryz.prog 24 #[.pointer (some ⟨p, 0, none⟩), .pointer (some ⟨q, 0, none⟩), .pointer (some ⟨r, 0, none⟩)] .returning w fun e u' w' => e = .returned (.tuple #[]) ∧ u' = .returning ∧ SL w0 I L w' := by
  refine callsDIn_of_wpSIn Tryz.func24 rfl (by simp [Fence.wide]) fun c₀ cs hu => ?_
  have hc : c₀ = { c₀ with mode := .returning } := by cases c₀; simp_all
  rw [hc]
  clear hc
  apply wpSIn_seq
  apply wpSIn_region
  simp [wpOpsSIn, go_sem, recoverD, Tryz.ntmps24, Exit.thenS, as_nil]
  refine wpS_walkL (N := 16) [(0, .pointer (some ⟨p, 0, none⟩)), (4, .bool false)] ?_ ?_ ?_ rfl fun f => ?_
  · simp
  · rfl
  · refine ⟨?_, ?_, trivial⟩
    · simp
    · simp
  refine WPA.mono (B := SL w0 I (Bk w.heap.size 60 [.int .i64 0, .int .i64 0] :: L)) (fun u hu => by subst hu; exact hw.push _ _ (bk_self _ _ _)) ?_
  repeat' (first | ((first | refine WLA.m rfl rfl ?_ ?_ | refine WLA.st rfl ?_ ?_ | refine WLA.x rfl rfl ?_ (fun x => ?_) | refine WLA.x0 rfl ?_ (fun x => ?_)); first | exact trivial | exact rfl | assumption | omega | (refine ⟨?_, ?_⟩ <;> omega) | (simp only [Room, lenS]; omega) | decide | skip) | (refine Stp.go ?_) | (refine WPA.ifT ?_) | (refine WPA.ifF ?_) | ((first | refine WPA.dec ?_); first | refine .inl ⟨by first | assumption | omega | with_reducible rfl | (refine fun h => h ?_; first | assumption | with_reducible rfl) | (simp only [lenS] <;> omega) | decide, ?_⟩ | refine .inr ⟨by first | assumption | omega | with_reducible rfl | (refine fun h => h ?_; first | assumption | with_reducible rfl) | (simp only [lenS] <;> omega) | decide, ?_⟩) | ((first | refine WPA.ifBt ?_ ?_ | refine WPA.ifBnf ?_ ?_); assumption) | ((first | refine WPA.ifBnt ?_ ?_ | refine WPA.ifBf ?_ ?_); assumption) | ((first | refine WPA.ifs ?_ ?_ | refine WPA.ifB ?_ ?_) <;> intro hc))
  unfold QQ
  exact fun w h => ⟨.inl rfl, rfl, Ent.drop1.sl h⟩
theorem clo_caught {p q r : Nat} {w : World} {y : Int × Int} {a0 b0 c0 : Value} {l0 e0 : Int} (hw : SL w0 I (Bk p 25 [a0, b0, c0] :: Bk q 3 [.int .i64 l0] :: Bk r 28 [.int .i64 e0] :: L) w) :
    CallsDIn Fence.wide 0 Tryz.prog 24 #[.pointer (some ⟨p, 0, none⟩), .pointer (some ⟨q, 0, none⟩), .pointer (some ⟨r, 0, none⟩)] (.panicking (pan1 (wrV y))) w fun e u' w' => e = .returned (.tuple #[]) ∧ u' = .panicking [{ v := wrV y, recovered := true }] ∧ SL w0 I (Bk p 25 [.int .i64 0, .slice none 0 0, .slice none 0 0] :: Bk q 3 [.int .i64 y.1] :: Bk r 28 [.int .i64 y.2] :: L) w' := by
  refine callsDIn_of_wpSIn Tryz.func24 rfl (by simp [Fence.wide]) fun c₀ cs hu => ?_
  unfold pan1 at hu
  apply wpSIn_seq
  apply wpSIn_region
  simp [wpOpsSIn, go_sem, recoverD, hu, Tryz.ntmps24, Exit.thenS, as_yes, wrV]
  refine wpS_walkL (N := 16) [(0, .pointer (some ⟨p, 0, none⟩)), (1, .pointer (some ⟨q, 0, none⟩)), (2, .pointer (some ⟨r, 0, none⟩)), (3, .pointer (some ⟨w.heap.size, 0, none⟩)), (4, .bool true)] ?_ ?_ ?_ rfl fun f => ?_
  · simp
  · rfl
  · refine ⟨?_, ?_, ?_, ?_, ?_, trivial⟩ <;> simp
  refine WPA.mono (B := SL w0 I (Bk w.heap.size 60 [.int .i64 y.1, .int .i64 y.2] :: Bk p 25 [a0, b0, c0] :: Bk q 3 [.int .i64 l0] :: Bk r 28 [.int .i64 e0] :: L)) (fun u hu => by subst hu; exact hw.push _ _ (bk_self _ _ _)) ?_
  refine WPA.freezeBk (b := w.heap.size) ?_
  repeat' (first | ((first | refine WLA.m rfl rfl ?_ ?_ | refine WDQ.m rfl rfl ?_ ?_ | refine WDP.m rfl rfl ?_ ?_ | refine WLA.st rfl ?_ ?_ | refine WLA.x rfl rfl ?_ (fun x => ?_) | refine WLA.x0 rfl ?_ (fun x => ?_) | refine WDW.x rfl rfl ?_ (fun x => ?_) | refine WDW.st rfl ?_ ?_); first | exact trivial | exact rfl | assumption | omega | (refine ⟨?_, ?_⟩ <;> omega) | (simp only [Room, lenS]; omega) | decide | skip) | (refine Stp.go ?_) | (refine WPA.ifT ?_) | (refine WPA.ifF ?_) | ((first | refine WPA.dec ?_); first | refine .inl ⟨by first | assumption | omega | with_reducible rfl | (refine fun h => h ?_; first | assumption | with_reducible rfl) | (simp only [lenS] <;> omega) | decide, ?_⟩ | refine .inr ⟨by first | assumption | omega | with_reducible rfl | (refine fun h => h ?_; first | assumption | with_reducible rfl) | (simp only [lenS] <;> omega) | decide, ?_⟩) | ((first | refine WPA.ifBt ?_ ?_ | refine WPA.ifBnf ?_ ?_); assumption) | ((first | refine WPA.ifBnt ?_ ?_ | refine WPA.ifBf ?_ ?_); assumption) | ((first | refine WPA.ifs ?_ ?_ | refine WPA.ifB ?_ ?_) <;> intro hc) | (guard_target =~ WPA _ _ _ (.region 2 _ true) _ _ _; refine WPA.drawT 7 (.p 0 (.p 1 (.p 2 (.p 3 (.p 4 (.w 5 (.w 6 .fin))))))) mixed ?_ ?_; kernel_rfl) | (refine WDA.finish (tl := [⟨_, _, _, _, _, _⟩]) rfl ?_) | (refine WDQ.see rfl ?_) | (refine WDP.see rfl ?_) | (refine WDW.see rfl ?_))
  unfold QQ
  exact fun w h => ⟨.inl rfl, rfl, h.unI.to⟩
end
end Go.Proofs.YthkhneimfjaohaaGreatDoor
namespace Go.Proofs.YthkhneimfjaohaaGreatDoor
open Go Go.Fw Go.RowKit
set_option linter.unusedVariables false
set_option linter.unusedSimpArgs false
set_option maxRecDepth 100000
set_option maxHeartbeats 16000000
set_option synthInstance.maxHeartbeats 200000
set_option synthInstance.maxSize 100000
attribute [local irreducible] WPA WLA WDA WDQ WDE QQ seqQ blockQ loopQ fnQ OpP OpT Tr TrP SL SLd OwnS LitS Bk BkE Ob
attribute [local irreducible] fnX TrX TblH VocH EntOk
abbrev Res3 (z : Nat × Nat × Nat) (m : List Value) (l e : Int) (L : List HP) : List HP := Bk z.1 25 m :: Bk z.2.1 3 [.int .i64 l] :: Bk z.2.2 28 [.int .i64 e] :: L
section
variable {L : List HP} {w0 : World} {I : Foot}
theorem all_trS {P : Nat} {s : ByteArray} {n : Int} {L' : List HP} {cv : SV} {cs : List Int} [h : FindK L PsH P (s, n) L'] [hcs : SlI I cv Int inferInstance cs] (hsz : 0 ≤ n ∧ n + s.size ≤ 999990) (hc : cs.length ≤ 8) (hc0 : ∀ c ∈ cs, 0 ≤ c) :
    TrX Tryz.prog 27 #[.pointer (some ⟨P, 0, none⟩), .slice cv.a cv.n cv.cap] (SL w0 I L)
      (fun x : { x : SV × List SV × List (List GrL) × (ByteArray × Int) × Foot // (allF cs.length cs 0 s n = .ok (x.2.2.1, x.2.2.2.1) ∧ x.2.1.length = x.2.2.1.length ∧ ∀ j : Nat, j < x.2.2.1.length → RowG (x.2.2.2.2 ++ I) (at_ x.2.1 (j : Int)) (x.2.2.1.getD j [])) ∧ SlI (x.2.2.2.2 ++ I) x.1 SV inferInstance x.2.1 } => .slice x.1.1.a x.1.1.n x.1.1.cap)
      (fun x => SL w0 (x.1.2.2.2.2 ++ I) (PsH P x.1.2.2.2.1 :: L'))
      (fun y : { y : Int × Int // allF cs.length cs 0 s n = .error y } => wrV y.1) (fun _ => SL w0 I L') := by
  refine (all_trX hsz hc hc0).conv (fun w hw => hw) (fun x w hw => ?_) (fun y w hw => ⟨y, rfl, hw⟩)
  obtain ⟨⟨h1, h2, h3, h4⟩, h5⟩ := hw
  obtain ⟨R, hR, h6⟩ := h5.freeze
  have q := SlI.ofOwn hR
  have s1 : SubI ((R ++ x.2.2.2.2) ++ I) x.2.2.2.2 := ⟨fun z hz => List.mem_append_left _ (List.mem_append_right _ hz)⟩
  have s2 : SubI ((R ++ x.2.2.2.2) ++ I) R := ⟨fun z hz => List.mem_append_left _ (List.mem_append_left _ hz)⟩
  exact ⟨⟨⟨x.1, x.2.1, x.2.2.1, x.2.2.2.1, R ++ x.2.2.2.2⟩, ⟨h1, h3, fun j hj => (h4 j hj).sub s1⟩, q.sub (hs := s2)⟩, rfl, h6.sub fun z hz => by
    rcases List.mem_append.1 hz with hz | hz
    · exact hz
    · exact List.mem_append_right _ (h2.out hz)⟩
theorem told_trS {av : SV} {vs : List SV} {gss : List (List GrL)} {fr : Int} [hav : SlI I av SV inferInstance vs] (hvl : vs.length = gss.length) (hpos : 0 < gss.length) (hrow : ∀ j : Nat, j < gss.length → RowG I (at_ vs (j : Int)) (gss.getD j [])) (hgl : gss.length ≤ 8) (hwl0 : ∀ r ∈ gss, ∀ g ∈ r, g.words.length ≤ 1000001) (hlen : ∀ r ∈ gss, r.length ≤ 1000000) (hw1 : ∀ g ∈ gss.getD 0 [], 0 < g.words.length) :
    TrX Tryz.prog 26 #[.int .i64 fr, .slice av.a av.n av.cap] (SL w0 I L)
      (fun x : { x : SV × SV × List (List EnL) × Foot // rowsF (idF (gss.getD 0 [])) gss = .ok x.2.2.1 ∧ MdL (x.2.2.2 ++ I) x.1 x.2.1 (wdsF (gss.getD 0 [])) (evs x.2.2.1) } => .agg #[.int .i64 fr, .slice x.1.1.a x.1.1.n x.1.1.cap, .slice x.1.2.1.a x.1.2.1.n x.1.2.1.cap])
      (fun x => SL w0 (x.1.2.2.2 ++ I) L)
      (fun y : { y : Int × Int // rowsF (idF (gss.getD 0 [])) gss = .error y } => wrV y.1) (fun _ => SL w0 I L) := by
  refine (told_trX hvl hpos hrow hgl hwl0 hlen hw1).conv (fun w hw => hw) (fun x w hw => ?_) (fun y w hw => ⟨y, rfl, hw⟩)
  obtain ⟨⟨h1, h2, h3, h3a, h4⟩, h5⟩ := hw
  obtain ⟨R, hR, h6⟩ := h5.freeze
  have q := SlI.ofOwn hR
  have s1 : SubI ((R ++ x.2.2.2.2) ++ I) x.2.2.2.2 := ⟨fun z hz => List.mem_append_left _ (List.mem_append_right _ hz)⟩
  have s2 : SubI ((R ++ x.2.2.2.2) ++ I) R := ⟨fun z hz => List.mem_append_left _ (List.mem_append_left _ hz)⟩
  refine ⟨⟨⟨x.1, x.2.1, x.2.2.2.1, R ++ x.2.2.2.2⟩, h1, h3.sub (hs := s1), x.2.2.1, q.sub (hs := s2), by unfold evs; rw [List.length_map, h3a], fun k hk => ?_⟩, rfl, h6.sub fun z hz => by
    rcases List.mem_append.1 hz with hz | hz
    · exact hz
    · exact List.mem_append_right _ (h2.out hz)⟩
  unfold evs at hk ⊢
  rw [List.length_map] at hk
  have := (h4 k hk).lst.sub s1
  rw [List.getD_eq_getElem?_getD, List.getElem?_eq_getElem hk] at this
  rw [List.getD_eq_getElem?_getD, List.getElem?_map, List.getElem?_eq_getElem hk]
  exact this
theorem MdL.nil : MdL I SV.nil SV.nil [] [] := ⟨SlI.nil, [], SlI.nil, rfl, fun k hk => absurd hk (Nat.not_lt_zero k)⟩
theorem clo_invoke {p q r : Nat} {w : World} : (invoke (dfc 24 [.pointer (some ⟨p, 0, none⟩), .pointer (some ⟨q, 0, none⟩), .pointer (some ⟨r, 0, none⟩)]).target (dfc 24 [.pointer (some ⟨p, 0, none⟩), .pointer (some ⟨q, 0, none⟩), .pointer (some ⟨r, 0, none⟩)]).args).run Tryz.prog w = .ok (.enter 24 #[.pointer (some ⟨p, 0, none⟩), .pointer (some ⟨q, 0, none⟩), .pointer (some ⟨r, 0, none⟩)]) w := by
  have h : Callb Tryz.prog 24 := inferInstance
  simp [dfc, invoke, run_callFunc h.out, go_sem]
theorem leave3 {p q r : Nat} {tmps : Array Value} {w : World} {J : Foot} {a b c : Value} {l e : Int} (hH : HasT tmps [(2, .pointer (some ⟨p, 0, none⟩)), (3, .pointer (some ⟨q, 0, none⟩)), (4, .pointer (some ⟨r, 0, none⟩))])
    (hw : SL w0 J (Res3 (p, q, r) [a, b, c] l e L) w) : (results Tryz.f10 tmps).run Tryz.prog w = .ok (.tuple #[.agg #[a, b, c], .int .i64 l, .int .i64 e]) w := by
  have hr : EvC Tryz.prog (envL [(2, .pointer (some ⟨p, 0, none⟩)), (3, .pointer (some ⟨q, 0, none⟩)), (4, .pointer (some ⟨r, 0, none⟩))] ⟨fun i => tmps.getD i undef, []⟩) (Bk p 25 [a, b, c] :: Bk q 3 [.int .i64 l] :: Bk r 28 [.int .i64 e] :: L) [.cell 2 25, .cell 3 3, .cell 4 28] [.agg #[a, b, c], .int .i64 l, .int .i64 e] := inferInstance
  exact hr.results (v := .tuple #[.agg #[a, b, c], .int .i64 l, .int .i64 e]) inferInstance rfl hw tmps (by rw [envL_has hH.env]; exact fun i => rfl)
theorem env_has {f : Nat → Value} {ms : List Nat} {l : List (Nat × Value)} (hm : ms = []) (h : Has ⟨f, ms⟩ l) : (⟨f, ms⟩ : Env) = envM [] (envL l ⟨f, []⟩) := by subst hm; rw [envL_has h]; rfl
abbrev Slt3 (z : Nat × Nat × Nat) (l : List (Nat × Value)) : List (Nat × Value) := (2, .pointer (some ⟨z.1, 0, none⟩)) :: (3, .pointer (some ⟨z.2.1, 0, none⟩)) :: (4, .pointer (some ⟨z.2.2, 0, none⟩)) :: l
theorem Parse_tr {s : ByteArray} (hs : s.size ≤ 999990) : Tr Tryz.prog 10 #[.string s] (SL w0 I L)
    (fun x : SV × SV × Foot => .tuple #[.agg #[.int .i64 (prF (parseF s)), .slice x.1.a x.1.n x.1.cap, .slice x.2.1.a x.2.1.n x.2.1.cap], .int .i64 (prY (parseF s)).1, .int .i64 (prY (parseF s)).2])
    (fun x w => (SubI x.2.2 I ∧ MdL x.2.2 x.1 x.2.1 (prW (parseF s)) (prA (parseF s))) ∧ SL w0 x.2.2 L w) := by
  refine Tr.introD (P := Tryz.prog) (δ := Nat × Nat × Nat) (args := [.string s]) (fun z => dfc 24 [.pointer (some ⟨z.1, 0, none⟩), .pointer (some ⟨z.2.1, 0, none⟩), .pointer (some ⟨z.2.2, 0, none⟩)])
    (fun z ρ w => Has ρ (Slt3 z [(0, .string s)]) ∧ SL w0 I (Res3 z [.int .i64 0, .slice none 0 0, .slice none 0 0] 0 0 L) w)
    (fun z ρ w => Has ρ (Slt3 z [(0, .string s)]) ∧ SL w0 I (Res3 z [.int .i64 0, .slice none 0 0, .slice none 0 0] 0 0 L) w)
    (fun z t w => HasT t (Slt3 z []) ∧ ∃ x : SV × SV × Foot, (SubI x.2.2 I ∧ MdL x.2.2 x.1 x.2.1 (prW (parseF s)) (prA (parseF s))) ∧ SL w0 x.2.2 (Res3 z [.int .i64 (prF (parseF s)), .slice x.1.a x.1.n x.1.cap, .slice x.2.1.a x.2.1.n x.2.1.cap] (prY (parseF s)).1 (prY (parseF s)).2 L) w)
    (fun z c t w => HasT t (Slt3 z []) ∧ ∃ y : { y : Int × Int // parseF s = .error y }, c = pan1 (wrV y.1) ∧ SL w0 I (Res3 z [.int .i64 0, .slice none 0 0, .slice none 0 0] 0 0 L) w)
    Tryz.func10 rfl Tryz.ntmps10 rfl ?_ ?_ ?_ ?_ ?_
  · skip
    repeat' (first | ((first | refine WLA.m rfl rfl ?_ ?_ | refine WLA.st rfl ?_ ?_ | refine WLA.x rfl rfl ?_ (fun x => ?_) | refine WLA.x0 rfl ?_ (fun x => ?_)); first | exact trivial | exact rfl | assumption | omega | (refine ⟨?_, ?_⟩ <;> omega) | (simp only [Room, lenS]; omega) | decide | skip) | (refine Stp.go ?_) | (refine WPA.ifT ?_) | (refine WPA.ifF ?_) | ((first | refine WPA.dec ?_); first | refine .inl ⟨by first | assumption | omega | with_reducible rfl | (refine fun h => h ?_; first | assumption | with_reducible rfl) | (simp only [lenS] <;> omega) | decide, ?_⟩ | refine .inr ⟨by first | assumption | omega | with_reducible rfl | (refine fun h => h ?_; first | assumption | with_reducible rfl) | (simp only [lenS] <;> omega) | decide, ?_⟩) | ((first | refine WPA.ifBt ?_ ?_ | refine WPA.ifBnf ?_ ?_); assumption) | ((first | refine WPA.ifBnt ?_ ?_ | refine WPA.ifBf ?_ ?_); assumption) | ((first | refine WPA.ifs ?_ ?_ | refine WPA.ifB ?_ ?_) <;> intro hc))
    revert x; intro r; revert x; intro q; revert x; intro p
    unfold QQ
    exact fun w h => ⟨rfl, rfl, (p, q, r), ⟨rfl, rfl, rfl, rfl, trivial⟩, h.to⟩
  · rintro z ρ w a ha hm ⟨hH, hw⟩ Q hQ
    rw [← envL_has hH] at ha hm
    exact wl_mkdefer ha hm rfl fun a' ha' => hQ _ a' w ha' hm ⟨⟨rfl, rfl, rfl, rfl, trivial⟩, hw⟩
  · rintro ⟨p, q, r⟩ ⟨f, ms⟩ w a ha hm ⟨hH, hw⟩
    rw [env_has hm hH] at ha
    clear hm hH
    refine wp_rgX (Slt3 (p, q, r) []) rfl ha ⟨rfl, rfl, rfl, trivial⟩ hw (Qn := fun ρ w => ∃ t, Has ρ (Slt3 (p, q, r) [(5, .pointer (some ⟨t, 0, none⟩))]) ∧ SL w0 I (PsH t (s, 0) :: Res3 (p, q, r) [.int .i64 0, .slice none 0 0, .slice none 0 0] 0 0 L) w) (Qp' := fun c w => ∃ y : { y : Int × Int // parseF s = .error y }, c = pan1 (wrV y.1) ∧ SL w0 I (Res3 (p, q, r) [.int .i64 0, .slice none 0 0, .slice none 0 0] 0 0 L) w) ?_ ?_ (fun c w t h1 h2 => ⟨h1, h2⟩)
    · unfold Res3 Slt3
      dsimp only
      repeat' (first | ((first | refine WLA.m rfl rfl ?_ ?_ | refine WLA.st rfl ?_ ?_ | refine WLA.x rfl rfl ?_ (fun x => ?_) | refine WLA.x0 rfl ?_ (fun x => ?_)); first | exact trivial | exact rfl | assumption | omega | (refine ⟨?_, ?_⟩ <;> omega) | (simp only [Room, lenS]; omega) | decide | skip) | (refine Stp.go ?_) | (refine WPA.ifT ?_) | (refine WPA.ifF ?_) | ((first | refine WPA.dec ?_); first | refine .inl ⟨by first | assumption | omega | with_reducible rfl | (refine fun h => h ?_; first | assumption | with_reducible rfl) | (simp only [lenS] <;> omega) | decide, ?_⟩ | refine .inr ⟨by first | assumption | omega | with_reducible rfl | (refine fun h => h ?_; first | assumption | with_reducible rfl) | (simp only [lenS] <;> omega) | decide, ?_⟩) | ((first | refine WPA.ifBt ?_ ?_ | refine WPA.ifBnf ?_ ?_); assumption) | ((first | refine WPA.ifBnt ?_ ?_ | refine WPA.ifBf ?_ ?_); assumption) | ((first | refine WPA.ifs ?_ ?_ | refine WPA.ifB ?_ ?_) <;> intro hc))
      revert x; intro t
      exact QQ.rend fun w h => ⟨t, ⟨rfl, rfl, rfl, rfl, trivial⟩, h⟩
    clear ha hw
    rintro ⟨f, ms⟩ w a ha hm ⟨t, hH, hw⟩
    rw [env_has hm hH] at ha
    clear hm hH
    refine wp_rgX (Slt3 (p, q, r) []) rfl ha ⟨rfl, rfl, rfl, trivial⟩ hw (Qn := fun ρ w => ∃ (fr : Int) (cs : List Int) (cv : SV) (s1 : ByteArray) (n1 : Int) (R : Foot), headF s 0 = .ok ((fr, cs), s1, n1) ∧ SlI (R ++ I) cv Int inferInstance cs ∧ Has ρ (Slt3 (p, q, r) [(5, .pointer (some ⟨t, 0, none⟩)), (6, .int .i64 fr), (7, .slice cv.a cv.n cv.cap)]) ∧ SL w0 (R ++ I) (PsH t (s1, n1) :: Res3 (p, q, r) [.int .i64 0, .slice none 0 0, .slice none 0 0] 0 0 L) w) (Qp' := fun c w => ∃ y : { y : Int × Int // parseF s = .error y }, c = pan1 (wrV y.1) ∧ SL w0 I (Res3 (p, q, r) [.int .i64 0, .slice none 0 0, .slice none 0 0] 0 0 L) w) ?_ ?_ (fun c w t h1 h2 => ⟨h1, h2⟩)
    · unfold Res3 Slt3
      dsimp only
      repeat' (first | ((first | refine WLA.m rfl rfl ?_ ?_ | refine WLA.st rfl ?_ ?_ | refine WLA.x rfl rfl ?_ (fun x => ?_) | refine WLA.x0 rfl ?_ (fun x => ?_)); first | exact trivial | exact rfl | assumption | omega | (refine ⟨?_, ?_⟩ <;> omega) | (simp only [Room, lenS]; omega) | decide | skip) | (refine Stp.go ?_) | (guard_target =~ WLA _ _ _ _ _ (⟨_, .call ⟨.value (.func 25), _, _⟩, _, _, _, _⟩ :: _) _ _; first | (refine WLA.callX rfl rfl (head_trX ⟨by omega, by omega⟩) (by intro y; refine QQ.thrw ?_; exact QQ.rthrown ⟨y.1, by unfold parseF; simp only [y.2]⟩ rfl fun w h => h.to) ?_; rintro ⟨⟨⟨fr, cs⟩, cv, s1, n1⟩, hh⟩) | (refine WLA.callX0 rfl (head_trX ⟨by omega, by omega⟩) (by intro y; refine QQ.thrw ?_; exact QQ.rthrown ⟨y.1, by unfold parseF; simp only [y.2]⟩ rfl fun w h => h.to) ?_; rintro ⟨⟨⟨fr, cs⟩, cv, s1, n1⟩, hh⟩)) | (refine WPA.ifT ?_) | (refine WPA.ifF ?_) | ((first | refine WPA.dec ?_); first | refine .inl ⟨by first | assumption | omega | with_reducible rfl | (refine fun h => h ?_; first | assumption | with_reducible rfl) | (simp only [lenS] <;> omega) | decide, ?_⟩ | refine .inr ⟨by first | assumption | omega | with_reducible rfl | (refine fun h => h ?_; first | assumption | with_reducible rfl) | (simp only [lenS] <;> omega) | decide, ?_⟩) | ((first | refine WPA.ifBt ?_ ?_ | refine WPA.ifBnf ?_ ?_); assumption) | ((first | refine WPA.ifBnt ?_ ?_ | refine WPA.ifBf ?_ ?_); assumption) | ((first | refine WPA.ifs ?_ ?_ | refine WPA.ifB ?_ ?_) <;> intro hc))
      dsimp only at hh ⊢
      refine QQ.freeze fun R hR => ?_
      exact QQ.rend fun w h => ⟨fr, cs, cv, s1, n1, R, hh, by have := SlI.ofOwn hR; infer_instance, ⟨rfl, rfl, rfl, rfl, rfl, rfl, trivial⟩, h⟩
    clear ha hw
    rintro ⟨f, ms⟩ w a ha hm ⟨fr, cs, cv, s1, n1, R, hh, hcv, hH, hw⟩
    rw [env_has hm hH] at ha
    clear hm hH
    obtain ⟨⟨c1, c2, c3⟩, c4, c5⟩ := headF_ok hh
    dsimp only at c1 c2 c3
    refine wp_rgX (Slt3 (p, q, r) []) rfl ha ⟨rfl, rfl, rfl, trivial⟩ hw (Qn := fun ρ w => ∃ (gss : List (List GrL)) (s2 : ByteArray) (n2 : Int) (wv gv : SV) (rows : List (List EnL)) (R3 : Foot), allF cs.length cs 0 s1 n1 = .ok (gss, s2, n2) ∧ rowsF (idF (gss.getD 0 [])) gss = .ok rows ∧ MdL (R3 ++ I) wv gv (wdsF (gss.getD 0 [])) (evs rows) ∧ Has ρ (Slt3 (p, q, r) []) ∧ SL w0 (R3 ++ I) (Res3 (p, q, r) [.int .i64 fr, .slice wv.a wv.n wv.cap, .slice gv.a gv.n gv.cap] 0 0 L) w) (Qp' := fun c w => ∃ y : { y : Int × Int // parseF s = .error y }, c = pan1 (wrV y.1) ∧ SL w0 I (Res3 (p, q, r) [.int .i64 0, .slice none 0 0, .slice none 0 0] 0 0 L) w) ?_ ?_ (fun c w t h1 h2 => ⟨h1, h2⟩)
    · unfold Res3 Slt3
      dsimp only
      repeat' (first | ((first | refine WLA.m rfl rfl ?_ ?_ | refine WLA.st rfl ?_ ?_ | refine WLA.x rfl rfl ?_ (fun x => ?_) | refine WLA.x0 rfl ?_ (fun x => ?_)); first | exact trivial | exact rfl | assumption | omega | (refine ⟨?_, ?_⟩ <;> omega) | (simp only [Room, lenS]; omega) | decide | skip) | (refine Stp.go ?_) | (guard_target =~ WLA _ _ _ _ _ (⟨_, .call ⟨.value (.func 27), _, _⟩, _, _, _, _⟩ :: _) _ _; first | (refine WLA.callX rfl rfl (all_trS ⟨by omega, by omega⟩ c2 c3) (by intro y; refine QQ.thrw ?_; exact QQ.rthrown ⟨y.1, by unfold parseF; simp only [hh, y.2]⟩ rfl fun w h => (SL.unI h).to) ?_; rintro ⟨⟨av, vs, gss, ⟨s2, n2⟩, R2⟩, ⟨ha1, ha2, ha3⟩, hav⟩) | (refine WLA.callX0 rfl (all_trS ⟨by omega, by omega⟩ c2 c3) (by intro y; refine QQ.thrw ?_; exact QQ.rthrown ⟨y.1, by unfold parseF; simp only [hh, y.2]⟩ rfl fun w h => (SL.unI h).to) ?_; rintro ⟨⟨av, vs, gss, ⟨s2, n2⟩, R2⟩, ⟨ha1, ha2, ha3⟩, hav⟩)) | (refine WPA.ifT ?_) | (refine WPA.ifF ?_) | ((first | refine WPA.dec ?_); first | refine .inl ⟨by first | assumption | omega | with_reducible rfl | (refine fun h => h ?_; first | assumption | with_reducible rfl) | (simp only [lenS] <;> omega) | decide, ?_⟩ | refine .inr ⟨by first | assumption | omega | with_reducible rfl | (refine fun h => h ?_; first | assumption | with_reducible rfl) | (simp only [lenS] <;> omega) | decide, ?_⟩) | ((first | refine WPA.ifBt ?_ ?_ | refine WPA.ifBnf ?_ ?_); assumption) | ((first | refine WPA.ifBnt ?_ ?_ | refine WPA.ifBf ?_ ?_); assumption) | ((first | refine WPA.ifs ?_ ?_ | refine WPA.ifB ?_ ?_) <;> intro hc))
      dsimp only at ha1 ha2 ha3 hav ⊢
      obtain ⟨b1, b2⟩ := allF_ok _ _ _ _ _ _ _ _ ha1
      have hpos : 0 < gss.length := by rw [b1]; exact List.length_pos_iff.2 c1
      have hm : gss.getD 0 [] ∈ gss := by rw [List.getD_eq_getElem?_getD, List.getElem?_eq_getElem hpos]; exact List.getElem_mem _
      have htold := fun {L : List HP} => told_trS (w0 := w0) (I := R2 ++ (R ++ I)) (L := L) (av := av) (vs := vs) (gss := gss) (fr := fr) ha2 hpos ha3 (by omega) (fun r hr g hg => by have := ((b2 r hr).2 g hg).top; omega) (fun r hr => by have := (b2 r hr).1; omega) (fun g hg => ((b2 _ hm).2 g hg).low)
      repeat' (first | ((first | refine WLA.m rfl rfl ?_ ?_ | refine WLA.st rfl ?_ ?_ | refine WLA.x rfl rfl ?_ (fun x => ?_) | refine WLA.x0 rfl ?_ (fun x => ?_)); first | exact trivial | exact rfl | assumption | omega | (refine ⟨?_, ?_⟩ <;> omega) | (simp only [Room, lenS]; omega) | decide | skip) | (refine Stp.go ?_) | (guard_target =~ WLA _ _ _ _ _ (⟨_, .call ⟨.value (.func 26), _, _⟩, _, _, _, _⟩ :: _) _ _; first | (refine WLA.callX rfl rfl (htold) (by intro y; refine QQ.thrw ?_; exact QQ.rthrown ⟨y.1, by unfold parseF; simp only [hh, ha1, y.2]⟩ rfl fun w h => (SL.unI (SL.unI h)).to) ?_; rintro ⟨⟨wv, gv, rows, R3⟩, hr1, hM⟩) | (refine WLA.callX0 rfl (htold) (by intro y; refine QQ.thrw ?_; exact QQ.rthrown ⟨y.1, by unfold parseF; simp only [hh, ha1, y.2]⟩ rfl fun w h => (SL.unI (SL.unI h)).to) ?_; rintro ⟨⟨wv, gv, rows, R3⟩, hr1, hM⟩)) | (refine WPA.ifT ?_) | (refine WPA.ifF ?_) | ((first | refine WPA.dec ?_); first | refine .inl ⟨by first | assumption | omega | with_reducible rfl | (refine fun h => h ?_; first | assumption | with_reducible rfl) | (simp only [lenS] <;> omega) | decide, ?_⟩ | refine .inr ⟨by first | assumption | omega | with_reducible rfl | (refine fun h => h ?_; first | assumption | with_reducible rfl) | (simp only [lenS] <;> omega) | decide, ?_⟩) | ((first | refine WPA.ifBt ?_ ?_ | refine WPA.ifBnf ?_ ?_); assumption) | ((first | refine WPA.ifBnt ?_ ?_ | refine WPA.ifBf ?_ ?_); assumption) | ((first | refine WPA.ifs ?_ ?_ | refine WPA.ifB ?_ ?_) <;> intro hc))
      dsimp only at hr1 hM ⊢
      refine QQ.rend fun w h => ⟨gss, s2, n2, wv, gv, rows, R3 ++ (R2 ++ R), ha1, hr1, hM.sub ⟨fun z hz => ?_⟩, ⟨rfl, rfl, rfl, trivial⟩, (h.sub fun z hz => ?_).to⟩
      · simpa [List.append_assoc] using hz
      · simpa [List.append_assoc] using hz
    clear ha hw
    rintro ⟨f, ms⟩ w a ha hm ⟨gss, s2, n2, wv, gv, rows, R3, ha1, hr1, hM, hH, hw⟩
    rw [env_has hm hH] at ha
    clear hm hH
    obtain ⟨d1, d2, d3, d4⟩ := told_few (by omega) hh ha1 hr1
    have hp : parseF s = if chkA fr (wdsF (gss.getD 0 [])) (evs rows) ≠ 0 then .error (0, chkA fr (wdsF (gss.getD 0 [])) (evs rows)) else .ok (fr, wdsF (gss.getD 0 []), evs rows) := by unfold parseF; simp only [hh, ha1, hr1]
    have hchk := fun {L : List HP} => CheckA_tr (w0 := w0) (L := L) (fr := fr) hM d1 d2 d3 d4
    have hsub : SubI (R3 ++ I) I := inferInstance
    generalize chkA fr (wdsF (gss.getD 0 [])) (evs rows) = e at hp hchk
    refine wp_dfR (Qr' := fun ρ w => Has ρ (Slt3 (p, q, r) []) ∧ ∃ x : SV × SV × Foot, (SubI x.2.2 I ∧ MdL x.2.2 x.1 x.2.1 (prW (parseF s)) (prA (parseF s))) ∧ SL w0 x.2.2 (Res3 (p, q, r) [.int .i64 (prF (parseF s)), .slice x.1.a x.1.n x.1.cap, .slice x.2.1.a x.2.1.n x.2.1.cap] (prY (parseF s)).1 (prY (parseF s)).2 L) w) ha hw ?_ (fun ρ w t h1 h2 => ⟨HasT.of h1 h2.1, h2.2⟩)
    unfold Res3 Slt3
    dsimp only
    repeat' ((fail_if_success (guard_target =~ WPA _ _ _ (.region 6 _ _) _ _ _)); first | ((first | refine WLA.m rfl rfl ?_ ?_ | refine WLA.st rfl ?_ ?_ | refine WLA.x rfl rfl ?_ (fun x => ?_) | refine WLA.x0 rfl ?_ (fun x => ?_)); first | exact trivial | exact rfl | assumption | omega | (refine ⟨?_, ?_⟩ <;> omega) | (simp only [Room, lenS]; omega) | decide | skip) | (refine Stp.go ?_) | (guard_target =~ WLA _ _ _ _ _ (⟨_, .call ⟨.value (.func 15), _, _⟩, _, _, _, _⟩ :: _) _ _; refine WLA.call rfl rfl (hchk) ?_; rintro ⟨⟩) | (refine WPA.ifT ?_) | (refine WPA.ifF ?_) | ((first | refine WPA.dec ?_); first | refine .inl ⟨by first | assumption | omega | with_reducible rfl | (refine fun h => h ?_; first | assumption | with_reducible rfl) | (simp only [lenS] <;> omega) | decide, ?_⟩ | refine .inr ⟨by first | assumption | omega | with_reducible rfl | (refine fun h => h ?_; first | assumption | with_reducible rfl) | (simp only [lenS] <;> omega) | decide, ?_⟩) | ((first | refine WPA.ifBt ?_ ?_ | refine WPA.ifBnf ?_ ?_); assumption) | ((first | refine WPA.ifBnt ?_ ?_ | refine WPA.ifBf ?_ ?_); assumption) | ((first | refine WPA.ifs ?_ ?_ | refine WPA.ifB ?_ ?_) <;> intro hc))
    by_cases he : e = 0
    · rw [if_neg (fun k => k he)] at hp
      rw [hp]
      repeat' (first | ((first | refine WLA.m rfl rfl ?_ ?_ | refine WLA.st rfl ?_ ?_ | refine WLA.x rfl rfl ?_ (fun x => ?_) | refine WLA.x0 rfl ?_ (fun x => ?_)); first | exact trivial | exact rfl | assumption | omega | (refine ⟨?_, ?_⟩ <;> omega) | (simp only [Room, lenS]; omega) | decide | skip) | (refine Stp.go ?_) | (refine WPA.ifT ?_) | (refine WPA.ifF ?_) | ((first | refine WPA.dec ?_); first | refine .inl ⟨by first | assumption | omega | with_reducible rfl | (refine fun h => h ?_; first | assumption | with_reducible rfl) | (simp only [lenS] <;> omega) | decide, ?_⟩ | refine .inr ⟨by first | assumption | omega | with_reducible rfl | (refine fun h => h ?_; first | assumption | with_reducible rfl) | (simp only [lenS] <;> omega) | decide, ?_⟩) | ((first | refine WPA.ifBt ?_ ?_ | refine WPA.ifBnf ?_ ?_); assumption) | ((first | refine WPA.ifBnt ?_ ?_ | refine WPA.ifBf ?_ ?_); assumption) | ((first | refine WPA.ifs ?_ ?_ | refine WPA.ifB ?_ ?_) <;> intro hc))
      exact QQ.dret (fun w h => ⟨⟨rfl, rfl, rfl, trivial⟩, (wv, gv, R3 ++ I), ⟨hsub, hM⟩, by
        show SL w0 (R3 ++ I) (Bk p 25 [.int .i64 fr, .slice wv.a wv.n wv.cap, .slice gv.a gv.n gv.cap] :: Bk q 3 [.int .i64 0] :: Bk r 28 [.int .i64 0] :: L) w
        exact h.to⟩)
    · rw [if_pos he] at hp
      rw [hp]
      repeat' (first | ((first | refine WLA.m rfl rfl ?_ ?_ | refine WLA.st rfl ?_ ?_ | refine WLA.x rfl rfl ?_ (fun x => ?_) | refine WLA.x0 rfl ?_ (fun x => ?_)); first | exact trivial | exact rfl | assumption | omega | (refine ⟨?_, ?_⟩ <;> omega) | (simp only [Room, lenS]; omega) | decide | skip) | (refine Stp.go ?_) | (refine WPA.ifT ?_) | (refine WPA.ifF ?_) | ((first | refine WPA.dec ?_); first | refine .inl ⟨by first | assumption | omega | with_reducible rfl | (refine fun h => h ?_; first | assumption | with_reducible rfl) | (simp only [lenS] <;> omega) | decide, ?_⟩ | refine .inr ⟨by first | assumption | omega | with_reducible rfl | (refine fun h => h ?_; first | assumption | with_reducible rfl) | (simp only [lenS] <;> omega) | decide, ?_⟩) | ((first | refine WPA.ifBt ?_ ?_ | refine WPA.ifBnf ?_ ?_); assumption) | ((first | refine WPA.ifBnt ?_ ?_ | refine WPA.ifBf ?_ ?_); assumption) | ((first | refine WPA.ifs ?_ ?_ | refine WPA.ifB ?_ ?_) <;> intro hc))
      exact QQ.dret (fun w h => ⟨⟨rfl, rfl, rfl, trivial⟩, (SV.nil, SV.nil, I), ⟨inferInstance, MdL.nil⟩, by
        show SL w0 I (Bk p 25 [.int .i64 0, .slice none 0 0, .slice none 0 0] :: Bk q 3 [.int .i64 0] :: Bk r 28 [.int .i64 e] :: L) w
        exact (h.sub hsub.out).to⟩)
  · rintro ⟨p, q, r⟩ w tmps ⟨hH, x, hx, hw⟩
    refine ⟨by simp, .inr ⟨by simp [Fence.wide], _, _, 24, _, rfl, clo_invoke, fun _ _ => trivial, (clo_idle hw).mono ?_⟩⟩
    rintro e u' w' ⟨rfl, rfl, hw'⟩
    exact ⟨_, leave3 hH hw', x, rfl, hx, (Ent.drop1.trans (Ent.drop1.trans Ent.drop1)).sl hw'⟩
  · rintro ⟨p, q, r⟩ c w tmps ⟨hH, ⟨y, hy⟩, rfl, hw⟩
    refine ⟨by simp, .inr ⟨by simp [Fence.wide], _, _, 24, _, rfl, clo_invoke, fun _ _ => trivial, (clo_caught hw).mono ?_⟩⟩
    rintro e u' w' ⟨rfl, rfl, hw'⟩
    have k := leave3 (J := I) (L := L) (a := .int .i64 0) (b := .slice none 0 0) (c := .slice none 0 0) (l := y.1) (e := y.2) hH hw'
    show LeavesInM Fence.wide 0 Tryz.prog Tryz.f10 tmps _ [] .returning w'
    refine ⟨_, k, (SV.nil, SV.nil, I), ?_⟩
    dsimp only
    rw [hy]
    exact ⟨rfl, ⟨inferInstance, MdL.nil⟩, (Ent.drop1.trans (Ent.drop1.trans Ent.drop1)).sl hw'⟩
end
end Go.Proofs.YthkhneimfjaohaaGreatDoor
namespace Go.Proofs.YthkhneimfjaohaaGreatDoor
open Go Go.Fw Go.RowKit
set_option linter.unusedVariables false
set_option linter.unusedSimpArgs false
set_option maxRecDepth 100000
set_option maxHeartbeats 16000000
set_option synthInstance.maxHeartbeats 200000
set_option synthInstance.maxSize 100000
attribute [local irreducible] WPA WLA WDA WDQ WDE QQ seqQ blockQ loopQ fnQ OpP OpT Tr TrP SL SLd OwnS LitS Bk BkE Ob
attribute [local irreducible] fnX TrX TblH VocH EntOk TabP PrnR parseF printB chkA
section
variable {L : List HP} {w0 : World} {I : Foot}
theorem PrintA_tr {fr : Int} {w g : SV} {ws : List ByteArray} {A : List (List EV)} (hT : TabP w0) (h0 : w0.drawn = 0) (hM : MdL I w g ws A) (h1 : ∀ s ∈ ws, s.size ≤ 140737488351232) (h2 : ws.length ≤ 1000000) (h3 : A.length ≤ 1000000) (h4 : ∀ es ∈ A, es.length ≤ 1000000 ∧ ∀ e ∈ es, e.2.length ≤ 1000000) (hz : chkA fr ws A = 0 → (printB fr ws A).size ≤ 900000000) :
    Tr Tryz.prog 8 #[.agg #[.int .i64 fr, .slice w.a w.n w.cap, .slice g.a g.n g.cap]] (SL w0 I L) (fun _ : Unit => .tuple #[.string (if chkA fr ws A = 0 then printB fr ws A else ⟨#[]⟩), .int .i64 (chkA fr ws A)]) (fun _ => SL w0 I L) := by
  unfold Tr
  intro u hu
  obtain ⟨gr, hQ⟩ := hM.nst hu
  have := Print_trK (L := L) (w0 := w0) (fr := fr) hT h0 (hQ.mdI h1 h2 h3 h4) hQ.cont hz
  unfold Tr at this
  exact this u hu
theorem known_tr : TrP Tryz.prog 14 #[] (SL w0 I L) (.string kn0) := by
  refine TrP.ofD fun u => Tr.intro Tryz.func14 rfl Tryz.ntmps14 rfl ?_
  repeat' (first | ((first | refine WLA.m rfl rfl ?_ ?_ | refine WLA.st rfl ?_ ?_ | refine WLA.x rfl rfl ?_ (fun x => ?_) | refine WLA.x0 rfl ?_ (fun x => ?_)); first | exact trivial | exact rfl | assumption | omega | (refine ⟨?_, ?_⟩ <;> omega) | (simp only [Room, lenS]; omega) | decide | skip) | (refine Stp.go ?_) | (refine WPA.ifT ?_) | (refine WPA.ifF ?_) | ((first | refine WPA.dec ?_); first | refine .inl ⟨by first | assumption | omega | with_reducible rfl | (refine fun h => h ?_; first | assumption | with_reducible rfl) | (simp only [lenS] <;> omega) | decide, ?_⟩ | refine .inr ⟨by first | assumption | omega | with_reducible rfl | (refine fun h => h ?_; first | assumption | with_reducible rfl) | (simp only [lenS] <;> omega) | decide, ?_⟩) | ((first | refine WPA.ifBt ?_ ?_ | refine WPA.ifBnf ?_ ?_); assumption) | ((first | refine WPA.ifBnt ?_ ?_ | refine WPA.ifBf ?_ ?_); assumption) | ((first | refine WPA.ifs ?_ ?_ | refine WPA.ifB ?_ ?_) <;> intro hc))
  exact QQ.end_ rfl () rfl fun w h => h
theorem Parse_trS {s : ByteArray} (hs : s.size ≤ 999990) : Tr Tryz.prog 10 #[.string s] (SL w0 I L)
    (fun x : { x : SV × SV × Foot // MdL (x.2.2 ++ I) x.1 x.2.1 (prW (parseF s)) (prA (parseF s)) } => .tuple #[.agg #[.int .i64 (prF (parseF s)), .slice x.1.1.a x.1.1.n x.1.1.cap, .slice x.1.2.1.a x.1.2.1.n x.1.2.1.cap], .int .i64 (prY (parseF s)).1, .int .i64 (prY (parseF s)).2])
    (fun x => SL w0 (x.1.2.2 ++ I) L) := by
  have h := Parse_tr (w0 := w0) (I := I) (L := L) hs
  unfold Tr at h ⊢
  intro w hw
  refine (h w hw).mono ?_
  rintro e w' ⟨x, he, ⟨h1, h2⟩, h3⟩
  exact ⟨⟨x, h2.sub ⟨fun z hz => List.mem_append_left _ hz⟩⟩, he, h3.sub fun z hz => by
    rcases List.mem_append.1 hz with hz | hz
    · exact hz
    · exact h1.out hz⟩
theorem live_tr39 (hT : TabP w0) (h0 : w0.drawn = 0) : Tr Tryz.prog 7 #[] (SL w0 I L) (fun _ : Unit => .bool true) (fun _ => SL w0 I L) := by
  refine Tr.intro Tryz.func7 rfl Tryz.ntmps7 rfl ?_
  have hk := fun {I : Foot} {L : List HP} => known_tr (w0 := w0) (I := I) (L := L)
  have hp1 : ∀ {L : List HP}, Tr Tryz.prog 10 #[.string kn0] (SL w0 I L)
      (fun x : { x : SV × SV × Foot // MdL (x.2.2 ++ I) x.1 x.2.1 [kw0, kw1, kw2] kA } => .tuple #[.agg #[.int .i64 4, .slice x.1.1.a x.1.1.n x.1.1.cap, .slice x.1.2.1.a x.1.2.1.n x.1.2.1.cap], .int .i64 0, .int .i64 0]) (fun x => SL w0 (x.1.2.2 ++ I) L) := fun {L} => by
    have := Parse_trS (w0 := w0) (I := I) (L := L) (s := kn0) (by decide +kernel)
    rw [kparse] at this
    exact this
  repeat' ((fail_if_success (guard_target =~ WPA _ _ _ (.region 2 _ _) _ _ _)); first | ((first | refine WLA.m rfl rfl ?_ ?_ | refine WLA.st rfl ?_ ?_ | refine WLA.x rfl rfl ?_ (fun x => ?_) | refine WLA.x0 rfl ?_ (fun x => ?_)); first | exact trivial | exact rfl | assumption | omega | (refine ⟨?_, ?_⟩ <;> omega) | (simp only [Room, lenS]; omega) | decide | skip) | (refine Stp.go ?_) | (guard_target =~ WLA _ _ _ _ _ (⟨_, .call ⟨.value (.func 14), _, _⟩, _, _, _, _⟩ :: _) _ _; refine WLA.cq rfl rfl (hk) ?_) | (guard_target =~ WLA _ _ _ _ _ (⟨_, .call ⟨.value (.func 10), _, _⟩, _, _, _, _⟩ :: _) _ _; refine WLA.call rfl rfl (hp1) ?_; rintro ⟨⟨wv, gv, R⟩, hM⟩) | (refine WPA.ifT ?_) | (refine WPA.ifF ?_) | ((first | refine WPA.dec ?_); first | refine .inl ⟨by first | assumption | omega | with_reducible rfl | (refine fun h => h ?_; first | assumption | with_reducible rfl) | (simp only [lenS] <;> omega) | decide, ?_⟩ | refine .inr ⟨by first | assumption | omega | with_reducible rfl | (refine fun h => h ?_; first | assumption | with_reducible rfl) | (simp only [lenS] <;> omega) | decide, ?_⟩) | ((first | refine WPA.ifBt ?_ ?_ | refine WPA.ifBnf ?_ ?_); assumption) | ((first | refine WPA.ifBnt ?_ ?_ | refine WPA.ifBf ?_ ?_); assumption) | ((first | refine WPA.ifs ?_ ?_ | refine WPA.ifB ?_ ?_) <;> intro hc))
  dsimp only at hM ⊢
  revert x; intro t1
  have hp2 : ∀ {L : List HP}, Tr Tryz.prog 10 #[.string ⟨#[92, 100, 97, 116, 97, 92, 10, 102, 114, 97, 99, 61, 48, 52, 10]⟩] (SL w0 (R ++ I) L)
      (fun x : { x : SV × SV × Foot // MdL (x.2.2 ++ (R ++ I)) x.1 x.2.1 [] [] } => .tuple #[.agg #[.int .i64 0, .slice x.1.1.a x.1.1.n x.1.1.cap, .slice x.1.2.1.a x.1.2.1.n x.1.2.1.cap], .int .i64 2, .int .i64 3]) (fun x => SL w0 (x.1.2.2 ++ (R ++ I)) L) := fun {L} => by
    have := Parse_trS (w0 := w0) (I := R ++ I) (L := L) (s := kz0) (by decide +kernel)
    rw [kzparse] at this
    exact this
  have hpr : ∀ {L : List HP}, Tr Tryz.prog 8 #[.agg #[.int .i64 4, .slice wv.a wv.n wv.cap, .slice gv.a gv.n gv.cap]] (SL w0 (R ++ I) L) (fun _ : Unit => .tuple #[.string kn0, .int .i64 0]) (fun _ => SL w0 (R ++ I) L) := fun {L} => by
    have := PrintA_tr (w0 := w0) (L := L) (fr := 4) hT h0 hM (by decide +kernel) (by decide) (by decide) (by decide) (fun _ => by rw [kprint]; decide +kernel)
    rw [kchk, if_pos rfl, kprint] at this
    exact this
  have hwv : SlI (R ++ I) wv ByteArray inferInstance [kw0, kw1, kw2] := hM.1
  repeat' ((fail_if_success (guard_target =~ WPA _ _ _ (.region 4 _ _) _ _ _)); first | ((first | refine WLA.m rfl rfl ?_ ?_ | refine WLA.st rfl ?_ ?_ | refine WLA.x rfl rfl ?_ (fun x => ?_) | refine WLA.x0 rfl ?_ (fun x => ?_)); first | exact trivial | exact rfl | assumption | omega | (refine ⟨?_, ?_⟩ <;> omega) | (simp only [Room, lenS]; omega) | decide | skip) | (refine Stp.go ?_) | (guard_target =~ WLA _ _ _ _ _ (⟨_, .call ⟨.value (.func 8), _, _⟩, _, _, _, _⟩ :: _) _ _; refine WLA.call rfl rfl (hpr) ?_; rintro ⟨⟩) | (guard_target =~ WLA _ _ _ _ _ (⟨_, .call ⟨.value (.func 10), _, _⟩, _, _, _, _⟩ :: _) _ _; refine WLA.call rfl rfl (hp2) ?_; rintro ⟨⟨wv2, gv2, R2⟩, hM2⟩) | (refine WPA.ifT ?_) | (refine WPA.ifF ?_) | ((first | refine WPA.dec ?_); first | refine .inl ⟨by first | assumption | omega | with_reducible rfl | (refine fun h => h ?_; first | assumption | with_reducible rfl) | (simp only [lenS] <;> omega) | decide, ?_⟩ | refine .inr ⟨by first | assumption | omega | with_reducible rfl | (refine fun h => h ?_; first | assumption | with_reducible rfl) | (simp only [lenS] <;> omega) | decide, ?_⟩) | ((first | refine WPA.ifBt ?_ ?_ | refine WPA.ifBnf ?_ ?_); assumption) | ((first | refine WPA.ifBnt ?_ ?_ | refine WPA.ifBf ?_ ?_); assumption) | ((first | refine WPA.ifs ?_ ?_ | refine WPA.ifB ?_ ?_) <;> intro hc))
  dsimp only at hM2 ⊢
  have hwv2 : SlI (R2 ++ (R ++ I)) wv ByteArray inferInstance [kw0, kw1, kw2] := hwv.sub
  have d0 : decide ((0 : Int) = 0) = true := rfl
  have d3 : decide (((([kw0, kw1, kw2] : List ByteArray).length : Nat) : Int) = 3) = true := rfl
  have d4 : decide ((4 : Int) = 4) = true := rfl
  have dk : decide (kn0 = kn0) = true := decide_eq_true rfl
  have d2 : decide ((2 : Int) = 2) = true := rfl
  have d33 : decide ((3 : Int) = 3) = true := rfl
  repeat' (first | ((rw [d0])) | ((rw [d3])) | ((rw [d4])) | ((rw [dk])) | ((rw [d2])) | ((rw [d33])) | ((first | refine WLA.m rfl rfl ?_ ?_ | refine WLA.st rfl ?_ ?_ | refine WLA.x rfl rfl ?_ (fun x => ?_) | refine WLA.x0 rfl ?_ (fun x => ?_)); first | exact trivial | exact rfl | assumption | omega | (refine ⟨?_, ?_⟩ <;> omega) | (simp only [Room, lenS]; omega) | decide | skip) | (refine Stp.go ?_) | (guard_target =~ WLA _ _ _ _ _ (⟨_, .call ⟨.value (.func 14), _, _⟩, _, _, _, _⟩ :: _) _ _; refine WLA.cq rfl rfl (hk) ?_) | (refine WPA.ifT ?_) | (refine WPA.ifF ?_) | (refine WLA.no rfl rfl ?_) | ((first | refine WPA.dec ?_ | ((fail_if_success (guard_target =~ WLA _ _ _ _ _ _ (put1 _ _ (.bool true)) _)); (fail_if_success (guard_target =~ WLA _ _ _ _ _ _ (put1 _ _ (.bool false)) _)); refine WLA.dec rfl rfl ?_) | refine WLA.pk ?_); first | refine .inl ⟨by first | assumption | omega | with_reducible rfl | (refine fun h => h ?_; first | assumption | with_reducible rfl) | (simp only [lenS] <;> omega) | decide, ?_⟩ | refine .inr ⟨by first | assumption | omega | with_reducible rfl | (refine fun h => h ?_; first | assumption | with_reducible rfl) | (simp only [lenS] <;> omega) | decide, ?_⟩) | ((first | refine WPA.ifBt ?_ ?_ | refine WPA.ifBnf ?_ ?_); assumption) | ((first | refine WPA.ifBnt ?_ ?_ | refine WPA.ifBf ?_ ?_); assumption) | ((first | refine WPA.ifs ?_ ?_ | refine WPA.ifB ?_ ?_) <;> intro hc) | ((fail_if_success (guard_target =~ WLA _ _ _ _ _ _ (put1 _ _ (.bool true)) _)); (fail_if_success (guard_target =~ WLA _ _ _ _ _ _ (put1 _ _ (.bool false)) _)); (first | refine WLA.both rfl rfl ?_ ?_ | refine WLA.bothB rfl rfl ?_ ?_) <;> intro hg))
  exact QQ.end_ rfl () rfl fun w h => (SL.unI (SL.unI h)).to
end
end Go.Proofs.YthkhneimfjaohaaGreatDoor
