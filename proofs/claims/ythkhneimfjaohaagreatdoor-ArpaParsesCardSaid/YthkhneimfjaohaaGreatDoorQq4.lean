/- Texts that ArpaParses_law leans on, part 4. Conditions: none. -/
import Derived.Test.YthkhneimfjaohaaGreatDoorProg
import Derived.Test.YthkhneimfjaohaaGreatDoorQq3
namespace Go.Proofs.YthkhneimfjaohaaGreatDoor
open Go Go.Fw
set_option linter.unusedSimpArgs false
theorem mixed : Tryz.prog.follows .mixedOrders = true := by kernel_rfl
instance : Callb Tryz.prog 7 := ⟨by kernel_rfl⟩
instance : Callb Tryz.prog 8 := ⟨by kernel_rfl⟩
instance : Callb Tryz.prog 9 := ⟨by kernel_rfl⟩
instance : Callb Tryz.prog 10 := ⟨by kernel_rfl⟩
instance : Callb Tryz.prog 12 := ⟨by kernel_rfl⟩
instance : Callb Tryz.prog 13 := ⟨by kernel_rfl⟩
instance : Callb Tryz.prog 14 := ⟨by kernel_rfl⟩
instance : Callb Tryz.prog 15 := ⟨by kernel_rfl⟩
instance : Callb Tryz.prog 16 := ⟨by kernel_rfl⟩
instance : Callb Tryz.prog 17 := ⟨by kernel_rfl⟩
instance : Callb Tryz.prog 18 := ⟨by kernel_rfl⟩
instance : Callb Tryz.prog 19 := ⟨by kernel_rfl⟩
instance : Callb Tryz.prog 20 := ⟨by kernel_rfl⟩
instance : Callb Tryz.prog 21 := ⟨by kernel_rfl⟩
instance : Callb Tryz.prog 22 := ⟨by kernel_rfl⟩
instance : Callb Tryz.prog 23 := ⟨by kernel_rfl⟩
instance : Callb Tryz.prog 24 := ⟨by kernel_rfl⟩
instance : Callb Tryz.prog 25 := ⟨by kernel_rfl⟩
instance : Callb Tryz.prog 26 := ⟨by kernel_rfl⟩
instance : Callb Tryz.prog 27 := ⟨by kernel_rfl⟩
instance : Callb Tryz.prog 28 := ⟨by kernel_rfl⟩
instance : Callb Tryz.prog 30 := ⟨by kernel_rfl⟩
instance : Callb Tryz.prog 31 := ⟨by kernel_rfl⟩
instance : Callb Tryz.prog 32 := ⟨by kernel_rfl⟩
instance : Callb Tryz.prog 33 := ⟨by kernel_rfl⟩
instance : Callb Tryz.prog 34 := ⟨by kernel_rfl⟩
instance : Callb Tryz.prog 35 := ⟨by kernel_rfl⟩
instance : Callb Tryz.prog 36 := ⟨by kernel_rfl⟩
instance : Callb Tryz.prog 37 := ⟨by kernel_rfl⟩
instance : Callb Tryz.prog 38 := ⟨by kernel_rfl⟩
instance : Callb Tryz.prog 39 := ⟨by kernel_rfl⟩
instance : Callb Tryz.prog 40 := ⟨by kernel_rfl⟩
instance : Callb Tryz.prog 41 := ⟨by kernel_rfl⟩
instance : Callb Tryz.prog 42 := ⟨by kernel_rfl⟩
instance : Callb Tryz.prog 43 := ⟨by kernel_rfl⟩
instance : Callb Tryz.prog 44 := ⟨by kernel_rfl⟩
instance : Callb Tryz.prog 45 := ⟨by kernel_rfl⟩
instance : Callb Tryz.prog 46 := ⟨by kernel_rfl⟩
instance : Callb Tryz.prog 47 := ⟨by kernel_rfl⟩
instance : Callb Tryz.prog 48 := ⟨by kernel_rfl⟩
instance : Callb Tryz.prog 49 := ⟨by kernel_rfl⟩
instance : Callb Tryz.prog 50 := ⟨by kernel_rfl⟩
instance : Callb Tryz.prog 51 := ⟨by kernel_rfl⟩
instance : Callb Tryz.prog 52 := ⟨by kernel_rfl⟩
instance : Callb Tryz.prog 53 := ⟨by kernel_rfl⟩
instance : Callb Tryz.prog 54 := ⟨by kernel_rfl⟩
instance : Callb Tryz.prog 55 := ⟨by kernel_rfl⟩
instance : Callb Tryz.prog 56 := ⟨by kernel_rfl⟩
instance : Callb Tryz.prog 57 := ⟨by kernel_rfl⟩
instance : Callb Tryz.prog 58 := ⟨by kernel_rfl⟩
instance : Callb Tryz.prog 59 := ⟨by kernel_rfl⟩
instance : Callb Tryz.prog 60 := ⟨by kernel_rfl⟩
instance : Callb Tryz.prog 61 := ⟨by kernel_rfl⟩
instance : Callb Tryz.prog 62 := ⟨by kernel_rfl⟩
instance : Callb Tryz.prog 63 := ⟨by kernel_rfl⟩
instance : Callb Tryz.prog 64 := ⟨by kernel_rfl⟩
instance : Callb Tryz.prog 65 := ⟨by kernel_rfl⟩
instance : Callb Tryz.prog 66 := ⟨by kernel_rfl⟩
instance : Callb Tryz.prog 67 := ⟨by kernel_rfl⟩
instance : Callb Tryz.prog 68 := ⟨by kernel_rfl⟩
instance : Callb Tryz.prog 69 := ⟨by kernel_rfl⟩
instance : Callb Tryz.prog 71 := ⟨by kernel_rfl⟩
instance : Callb Tryz.prog 72 := ⟨by kernel_rfl⟩
instance : Callb Tryz.prog 73 := ⟨by kernel_rfl⟩
instance : Callb Tryz.prog 74 := ⟨by kernel_rfl⟩
instance : Callb Tryz.prog 75 := ⟨by kernel_rfl⟩
instance : Callb Tryz.prog 76 := ⟨by kernel_rfl⟩
instance : Callb Tryz.prog 77 := ⟨by kernel_rfl⟩
instance : Callb Tryz.prog 78 := ⟨by kernel_rfl⟩
instance : Callb Tryz.prog 79 := ⟨by kernel_rfl⟩
instance : Callb Tryz.prog 80 := ⟨by kernel_rfl⟩
instance : Callb Tryz.prog 81 := ⟨by kernel_rfl⟩
instance : Callb Tryz.prog 82 := ⟨by kernel_rfl⟩
instance : Callb Tryz.prog 83 := ⟨by kernel_rfl⟩
instance : Callb Tryz.prog 84 := ⟨by kernel_rfl⟩
instance : Callb Tryz.prog 85 := ⟨by kernel_rfl⟩
instance : Callb Tryz.prog 87 := ⟨by kernel_rfl⟩
instance : Callb Tryz.prog 92 := ⟨by kernel_rfl⟩
instance : Callb Tryz.prog 93 := ⟨by kernel_rfl⟩
instance : Callb Tryz.prog 94 := ⟨by kernel_rfl⟩
instance : Callb Tryz.prog 95 := ⟨by kernel_rfl⟩
instance : Callb Tryz.prog 96 := ⟨by kernel_rfl⟩
instance : Callb Tryz.prog 97 := ⟨by kernel_rfl⟩
instance : Callb Tryz.prog 98 := ⟨by kernel_rfl⟩
instance : Callb Tryz.prog 99 := ⟨by kernel_rfl⟩
instance : Callb Tryz.prog 106 := ⟨by kernel_rfl⟩
instance : Callb Tryz.prog 107 := ⟨by kernel_rfl⟩
instance : Callb Tryz.prog 108 := ⟨by kernel_rfl⟩
instance : Callb Tryz.prog 110 := ⟨by kernel_rfl⟩
instance : Callb Tryz.prog 111 := ⟨by kernel_rfl⟩
instance : Callb Tryz.prog 114 := ⟨by kernel_rfl⟩
instance : Und Tryz.prog 3 (.int .i64) := ⟨Tryz.underlying3⟩
instance : Inf Tryz.prog 3 [.int .i64 0] 1 8 := ⟨by kernel_rfl⟩
instance : One Tryz.prog 3 := ⟨by kernel_rfl⟩
instance : Phys Tryz.prog 3 Int inferInstance := ⟨trivial⟩
instance : Und Tryz.prog 5 (.int .u8) := ⟨Tryz.underlying5⟩
instance : Inf Tryz.prog 5 [.int .u8 0] 1 1 := ⟨by kernel_rfl⟩
instance : Phys Tryz.prog 5 (KInt .u8) inferInstance := ⟨trivial⟩
instance : Und Tryz.prog 9 (.string) := ⟨Tryz.underlying9⟩
instance : Inf Tryz.prog 9 [.string ⟨#[]⟩] 1 16 := ⟨by kernel_rfl⟩
instance : One Tryz.prog 9 := ⟨by kernel_rfl⟩
instance : Phys Tryz.prog 9 ByteArray inferInstance := ⟨trivial⟩
instance : Und Tryz.prog 21 (.int .i32) := ⟨Tryz.underlying21⟩
instance : Inf Tryz.prog 21 [.int .i32 0] 1 4 := ⟨by kernel_rfl⟩
instance : One Tryz.prog 21 := ⟨by kernel_rfl⟩
instance : Phys Tryz.prog 21 (KInt .i32) inferInstance := ⟨trivial⟩
instance : Und Tryz.prog 22 (.slice 9) := ⟨Tryz.underlying22⟩
instance : Inf Tryz.prog 22 [.slice none 0 0] 1 24 := ⟨by kernel_rfl⟩
instance : One Tryz.prog 22 := ⟨by kernel_rfl⟩
instance : Und Tryz.prog 23 (.slice 39) := ⟨Tryz.underlying23⟩
instance : Inf Tryz.prog 23 [.slice none 0 0] 1 24 := ⟨by kernel_rfl⟩
instance : One Tryz.prog 23 := ⟨by kernel_rfl⟩
instance : Inf Tryz.prog 25 [.int .i64 0, .slice none 0 0, .slice none 0 0] 3 56 := ⟨by kernel_rfl⟩
instance : Agg Tryz.prog 25 3 := ⟨by kernel_rfl⟩
instance : Inf Tryz.prog 28 [.int .i64 0] 1 8 := ⟨by kernel_rfl⟩
instance : One Tryz.prog 28 := ⟨by kernel_rfl⟩
instance : Und Tryz.prog 39 (.slice 42) := ⟨Tryz.underlying39⟩
instance : Inf Tryz.prog 39 [.slice none 0 0] 1 24 := ⟨by kernel_rfl⟩
instance : One Tryz.prog 39 := ⟨by kernel_rfl⟩
instance : Phys Tryz.prog 39 SV inferInstance := ⟨trivial⟩
instance : Und Tryz.prog 40 (.slice 3) := ⟨Tryz.underlying40⟩
instance : Inf Tryz.prog 40 [.slice none 0 0] 1 24 := ⟨by kernel_rfl⟩
instance : One Tryz.prog 40 := ⟨by kernel_rfl⟩
instance : Inf Tryz.prog 42 [.slice none 0 0, .int .i64 0, .int .i64 0] 3 40 := ⟨by kernel_rfl⟩
instance : Agg Tryz.prog 42 3 := ⟨by kernel_rfl⟩
instance : Phys Tryz.prog 42 (SV × Int × Int) inferInstance := ⟨trivial⟩
instance : Und Tryz.prog 46 (.pointer 49) := ⟨Tryz.underlying46⟩
instance : Inf Tryz.prog 46 [.pointer none] 1 8 := ⟨by kernel_rfl⟩
instance : One Tryz.prog 46 := ⟨by kernel_rfl⟩
instance : Und Tryz.prog 47 (.slice 5) := ⟨Tryz.underlying47⟩
instance : Inf Tryz.prog 47 [.slice none 0 0] 1 24 := ⟨by kernel_rfl⟩
instance : One Tryz.prog 47 := ⟨by kernel_rfl⟩
instance : Inf Tryz.prog 49 [.pointer none, .slice none 0 0] 2 32 := ⟨by kernel_rfl⟩
instance : One Tryz.prog 53 := ⟨by kernel_rfl⟩
instance : Und Tryz.prog 68 (.slice 105) := ⟨Tryz.underlying68⟩
instance : Und Tryz.prog 77 (.slice 79) := ⟨Tryz.underlying77⟩
instance : Und Tryz.prog 79 (.slice 83) := ⟨Tryz.underlying79⟩
instance : Inf Tryz.prog 79 [.slice none 0 0] 1 24 := ⟨by kernel_rfl⟩
instance : One Tryz.prog 79 := ⟨by kernel_rfl⟩
instance : Phys Tryz.prog 79 SV inferInstance := ⟨trivial⟩
instance : Inf Tryz.prog 83 [.int .i64 0, .slice none 0 0, .slice none 0 0, .int .i64 0, .int .i64 0] 5 72 := ⟨by kernel_rfl⟩
instance : Agg Tryz.prog 83 5 := ⟨by kernel_rfl⟩
instance : Phys Tryz.prog 83 (Int × SV × (SV × Int × Int)) inferInstance := ⟨trivial⟩
instance : Und Tryz.prog 87 (.pointer 116) := ⟨Tryz.underlying87⟩
instance : Und Tryz.prog 98 (.pointer 5) := ⟨Tryz.underlying98⟩
instance : Und Tryz.prog 104 (.map 9 3) := ⟨Tryz.underlying104⟩
instance : Und Tryz.prog 105 (.slice 107) := ⟨Tryz.underlying105⟩
instance : Inf Tryz.prog 105 [.slice none 0 0] 1 24 := ⟨by kernel_rfl⟩
instance : One Tryz.prog 105 := ⟨by kernel_rfl⟩
instance : Phys Tryz.prog 105 SV inferInstance := ⟨trivial⟩
instance : Inf Tryz.prog 107 [.int .i64 0, .slice none 0 0, .int .i64 0, .int .i64 0] 4 48 := ⟨by kernel_rfl⟩
instance : Agg Tryz.prog 107 4 := ⟨by kernel_rfl⟩
instance : Phys Tryz.prog 107 (Int × SV × Int × Int) inferInstance := ⟨trivial⟩
instance : Und Tryz.prog 110 (.int .u64) := ⟨Tryz.underlying110⟩
instance : Und Tryz.prog 114 (.pointer 137) := ⟨Tryz.underlying114⟩
instance : Inf Tryz.prog 114 [.pointer none] 1 8 := ⟨by kernel_rfl⟩
instance : One Tryz.prog 114 := ⟨by kernel_rfl⟩
instance : Und Tryz.prog 132 (.slice 21) := ⟨Tryz.underlying132⟩
instance : Inf Tryz.prog 132 [.slice none 0 0] 1 24 := ⟨by kernel_rfl⟩
instance : One Tryz.prog 132 := ⟨by kernel_rfl⟩
instance : One Tryz.prog 133 := ⟨by kernel_rfl⟩
instance : Inf Tryz.prog 135 [.slice none 0 0, .nilFunc, .nilFunc] 3 40 := ⟨by kernel_rfl⟩
instance : Und Tryz.prog 141 (.int .u64) := ⟨Tryz.underlying141⟩
instance : MkI Tryz.prog 60 := ⟨fun _ _ => by kernel_rfl⟩
instance : FieldO Tryz.prog 25 0 0 := ⟨by kernel_rfl⟩
instance : FieldO Tryz.prog 25 1 1 := ⟨by kernel_rfl⟩
instance : FieldO Tryz.prog 25 2 2 := ⟨by kernel_rfl⟩
instance : FieldO Tryz.prog 42 0 0 := ⟨by kernel_rfl⟩
instance : FieldO Tryz.prog 42 1 1 := ⟨by kernel_rfl⟩
instance : FieldO Tryz.prog 42 2 2 := ⟨by kernel_rfl⟩
instance : FieldO Tryz.prog 49 0 0 := ⟨by kernel_rfl⟩
instance : FieldO Tryz.prog 49 1 1 := ⟨by kernel_rfl⟩
instance : FieldO Tryz.prog 51 0 0 := ⟨by kernel_rfl⟩
instance : FieldO Tryz.prog 60 0 0 := ⟨by kernel_rfl⟩
instance : FieldO Tryz.prog 60 1 1 := ⟨by kernel_rfl⟩
instance : FieldO Tryz.prog 64 0 0 := ⟨by kernel_rfl⟩
instance : FieldO Tryz.prog 64 1 1 := ⟨by kernel_rfl⟩
instance : FieldO Tryz.prog 76 0 0 := ⟨by kernel_rfl⟩
instance : FieldO Tryz.prog 76 1 1 := ⟨by kernel_rfl⟩
instance : FieldO Tryz.prog 76 2 2 := ⟨by kernel_rfl⟩
instance : FieldO Tryz.prog 83 0 0 := ⟨by kernel_rfl⟩
instance : FieldO Tryz.prog 83 1 1 := ⟨by kernel_rfl⟩
instance : FieldO Tryz.prog 83 2 2 := ⟨by kernel_rfl⟩
instance : FieldO Tryz.prog 107 0 0 := ⟨by kernel_rfl⟩
instance : FieldO Tryz.prog 107 1 1 := ⟨by kernel_rfl⟩
instance : FieldO Tryz.prog 107 2 2 := ⟨by kernel_rfl⟩
instance : FieldO Tryz.prog 107 3 3 := ⟨by kernel_rfl⟩
instance : FieldO Tryz.prog 116 0 0 := ⟨by kernel_rfl⟩
instance : FieldO Tryz.prog 135 0 0 := ⟨by kernel_rfl⟩
instance : FieldO Tryz.prog 135 1 1 := ⟨by kernel_rfl⟩
instance : FieldO Tryz.prog 135 2 2 := ⟨by kernel_rfl⟩
instance : FieldO Tryz.prog 137 0 0 := ⟨by kernel_rfl⟩
instance : FieldO Tryz.prog 137 1 1 := ⟨by kernel_rfl⟩
instance : BInfo Tryz.prog 25 [.int .i64 0, .slice none 0 0, .slice none 0 0] [(0, 1), (1, 1), (2, 1)] := ⟨by kernel_rfl⟩
instance : BInfo Tryz.prog 42 [.slice none 0 0, .int .i64 0, .int .i64 0] [(0, 1), (1, 1), (2, 1)] := ⟨by kernel_rfl⟩
instance : BInfo Tryz.prog 51 [.pointer none, .slice none 0 0] [(0, 2)] := ⟨by kernel_rfl⟩
instance : BInfo Tryz.prog 60 [.int .i64 0, .int .i64 0] [(0, 1), (1, 1)] := ⟨by kernel_rfl⟩
instance : BInfo Tryz.prog 64 [.string ⟨#[]⟩, .int .i64 0] [(0, 1), (1, 1)] := ⟨by kernel_rfl⟩
instance : BInfo Tryz.prog 76 [.slice none 0 0, .int .i64 0, .int .i64 0] [(0, 1), (1, 1), (2, 1)] := ⟨by kernel_rfl⟩
instance : BInfo Tryz.prog 83 [.int .i64 0, .slice none 0 0, .slice none 0 0, .int .i64 0, .int .i64 0] [(0, 1), (1, 1), (2, 3)] := ⟨by kernel_rfl⟩
instance : BInfo Tryz.prog 107 [.int .i64 0, .slice none 0 0, .int .i64 0, .int .i64 0] [(0, 1), (1, 1), (2, 1), (3, 1)] := ⟨by kernel_rfl⟩
instance : BInfo Tryz.prog 116 [.pointer none] [(0, 1)] := ⟨by kernel_rfl⟩
instance : BInfo Tryz.prog 135 [.slice none 0 0, .nilFunc, .nilFunc] [(0, 1), (1, 1), (2, 1)] := ⟨by kernel_rfl⟩
instance : BInfo Tryz.prog 137 [.slice none 0 0, .slice none 0 0, .nilFunc, .nilFunc] [(0, 1), (1, 3)] := ⟨by kernel_rfl⟩
end Go.Proofs.YthkhneimfjaohaaGreatDoor
namespace Go.Proofs.YthkhneimfjaohaaGreatDoor
open Go Go.Fw Go.RowKit
set_option linter.unusedVariables false
set_option linter.unusedSimpArgs false
set_option maxRecDepth 100000
set_option maxHeartbeats 16000000
set_option synthInstance.maxHeartbeats 200000
set_option synthInstance.maxSize 100000
attribute [local irreducible] WPA WLA WDA WDQ WDE QQ seqQ blockQ loopQ fnQ OpP OpT Tr TrP SL SLd OwnS LitS Bk BkE Ob
section
variable {L : List HP} {w0 : World} {I : Foot}
theorem Ints_tr {a b : SV} {xs ys : List Int} [ha : RdS I L a Int inferInstance xs] [hb : RdS I L b Int inferInstance ys] (hn : xs.length ≤ 1000000000) : TrP Tryz.prog 49 #[.slice a.a a.n a.cap, .slice b.a b.n b.cap] (SL w0 I L) (.bool (decide (xs = ys))) := by
  refine TrP.ofD fun u => Tr.intro Tryz.func49 rfl Tryz.ntmps49 rfl ?_
  by_cases hl : xs.length = ys.length
  · have hl' : ¬ (xs.length : Int) ≠ ys.length := by omega
    repeat' (first | ((first | refine WLA.m rfl rfl ?_ ?_ | refine WLA.st rfl ?_ ?_ | refine WLA.x rfl rfl ?_ (fun x => ?_) | refine WLA.x0 rfl ?_ (fun x => ?_)); first | exact sdT | skip) | (refine Stp.go ?_) | (refine WPA.ifT ?_) | (refine WPA.ifF ?_) | ((first | refine WPA.dec ?_); first | refine orL ?_ | refine orR ?_) | ((first | refine WPA.ifBt ?_ ?_ | refine WPA.ifBnf ?_ ?_); assumption) | ((first | refine WPA.ifBnt ?_ ?_ | refine WPA.ifBf ?_ ?_); assumption) | ((first | refine WPA.ifs ?_ ?_ | refine WPA.ifB ?_ ?_) <;> intro hc))
    refine WPA.loopS (σ := Nat) (fun i => [(0, .slice a.a a.n a.cap), (1, .slice b.a b.n b.cap), (5, .int .i64 i)]) (fun i => i ≤ xs.length ∧ xs.take i = ys.take i)
      (fun i => SLd w0 I L u) (fun i => xs.length - i) 0 ⟨rfl, rfl, rfl, trivial⟩ ⟨Nat.zero_le _, by simp⟩ (fun w h => h) ?_
    rintro i ρ ⟨hi, he⟩
    by_cases hlt : i < xs.length
    · have hlt' : (i : Int) < xs.length := by omega
      have hx := at_nat xs i hlt
      have hy := at_nat ys i (by omega)
      by_cases hxy : at_ xs (i : Int) = at_ ys (i : Int)
      · have hxy' : ¬ at_ xs (i : Int) ≠ at_ ys (i : Int) := fun h => h hxy
        repeat' (first | ((first | refine WLA.m rfl rfl ?_ ?_ | refine WDQ.m rfl rfl ?_ ?_ | refine WLA.st rfl ?_ ?_ | refine WLA.x rfl rfl ?_ (fun x => ?_) | refine WLA.x0 rfl ?_ (fun x => ?_)); first | exact sdT | skip) | (refine Stp.go ?_) | (refine WPA.ifT ?_) | (refine WPA.ifF ?_) | ((first | refine WPA.dec ?_); first | refine orL ?_ | refine orR ?_) | ((first | refine WPA.ifBt ?_ ?_ | refine WPA.ifBnf ?_ ?_); assumption) | ((first | refine WPA.ifBnt ?_ ?_ | refine WPA.ifBf ?_ ?_); assumption) | ((first | refine WPA.ifs ?_ ?_ | refine WPA.ifB ?_ ?_) <;> intro hc) | (guard_target =~ WPA _ _ _ (.region 6 _ true) _ _ _; refine WPA.drawT 8 (.q 0 (.q 1 (.q 2 (.q 3 (.q 4 (.q 5 (.q 6 (.q 7 .fin)))))))) mixed ?_ ?_; kernel_rfl) | (refine WDA.finish (tl := [⟨_, _, _, _, _, _⟩]) rfl ?_) | (refine WDQ.see rfl ?_))
        refine QQ.loopS (i + 1) ⟨rfl, rfl, rfl, trivial⟩ ⟨hlt, ?_⟩ (by omega) (fun w h => h)
        rw [List.take_add_one, List.take_add_one, he, List.getElem?_eq_getElem hlt, List.getElem?_eq_getElem (by omega), ← hx, ← hy, hxy]
      · have hxy' : at_ xs (i : Int) ≠ at_ ys (i : Int) := hxy
        repeat' (first | ((first | refine WLA.m rfl rfl ?_ ?_ | refine WDQ.m rfl rfl ?_ ?_ | refine WLA.st rfl ?_ ?_ | refine WLA.x rfl rfl ?_ (fun x => ?_) | refine WLA.x0 rfl ?_ (fun x => ?_)); first | exact sdT | skip) | (refine Stp.go ?_) | (refine WPA.ifT ?_) | (refine WPA.ifF ?_) | ((first | refine WPA.dec ?_); first | refine orL ?_ | refine orR ?_) | ((first | refine WPA.ifBt ?_ ?_ | refine WPA.ifBnf ?_ ?_); assumption) | ((first | refine WPA.ifBnt ?_ ?_ | refine WPA.ifBf ?_ ?_); assumption) | ((first | refine WPA.ifs ?_ ?_ | refine WPA.ifB ?_ ?_) <;> intro hc) | (guard_target =~ WPA _ _ _ (.region 6 _ true) _ _ _; refine WPA.drawT 8 (.q 0 (.q 1 (.q 2 (.q 3 (.q 4 (.q 5 (.q 6 (.q 7 .fin)))))))) mixed ?_ ?_; kernel_rfl) | (refine WDA.finish (tl := [⟨_, _, _, _, _, _⟩]) rfl ?_) | (refine WDQ.see rfl ?_))
        refine QQ.end_ rfl () (congrArg Value.bool (decide_eq_false fun e => hxy ?_).symm) fun w h => h
        subst e; rfl
    · have hlt' : ¬ (i : Int) < xs.length := by omega
      repeat' (first | ((first | refine WLA.m rfl rfl ?_ ?_ | refine WDQ.m rfl rfl ?_ ?_ | refine WLA.st rfl ?_ ?_ | refine WLA.x rfl rfl ?_ (fun x => ?_) | refine WLA.x0 rfl ?_ (fun x => ?_)); first | exact sdT | skip) | (refine Stp.go ?_) | (refine WPA.ifT ?_) | (refine WPA.ifF ?_) | ((first | refine WPA.dec ?_); first | refine orL ?_ | refine orR ?_) | ((first | refine WPA.ifBt ?_ ?_ | refine WPA.ifBnf ?_ ?_); assumption) | ((first | refine WPA.ifBnt ?_ ?_ | refine WPA.ifBf ?_ ?_); assumption) | ((first | refine WPA.ifs ?_ ?_ | refine WPA.ifB ?_ ?_) <;> intro hc) | (guard_target =~ WPA _ _ _ (.region 6 _ true) _ _ _; refine WPA.drawT 8 (.q 0 (.q 1 (.q 2 (.q 3 (.q 4 (.q 5 (.q 6 (.q 7 .fin)))))))) mixed ?_ ?_; kernel_rfl) | (refine WDA.finish (tl := [⟨_, _, _, _, _, _⟩]) rfl ?_) | (refine WDQ.see rfl ?_))
      refine QQ.end_ rfl () (congrArg Value.bool (decide_eq_true ?_).symm) fun w h => h
      rw [List.take_of_length_le (by omega), List.take_of_length_le (by omega)] at he
      exact he
  · have hl' : (xs.length : Int) ≠ ys.length := by omega
    repeat' (first | ((first | refine WLA.m rfl rfl ?_ ?_ | refine WLA.st rfl ?_ ?_ | refine WLA.x rfl rfl ?_ (fun x => ?_) | refine WLA.x0 rfl ?_ (fun x => ?_)); first | exact sdT | skip) | (refine Stp.go ?_) | (refine WPA.ifT ?_) | (refine WPA.ifF ?_) | ((first | refine WPA.dec ?_); first | refine orL ?_ | refine orR ?_) | ((first | refine WPA.ifBt ?_ ?_ | refine WPA.ifBnf ?_ ?_); assumption) | ((first | refine WPA.ifBnt ?_ ?_ | refine WPA.ifBf ?_ ?_); assumption) | ((first | refine WPA.ifs ?_ ?_ | refine WPA.ifB ?_ ?_) <;> intro hc))
    exact QQ.end_ rfl () (congrArg Value.bool (decide_eq_false fun e => hl (by rw [e])).symm) fun w h => h
end
end Go.Proofs.YthkhneimfjaohaaGreatDoor
namespace Go.Proofs.YthkhneimfjaohaaGreatDoor
open Go Go.Fw Go.RowKit
set_option linter.unusedVariables false
set_option linter.unusedSimpArgs false
set_option maxRecDepth 100000
set_option maxHeartbeats 16000000
set_option synthInstance.maxHeartbeats 200000
set_option synthInstance.maxSize 100000
attribute [local irreducible] WPA WLA WDA WDQ WDE QQ seqQ blockQ loopQ fnQ OpP OpT Tr TrP SL SLd OwnS LitS Bk BkE Ob
def cmpL : List Int → List Int → Int
  | [], [] => 0
  | [], _ :: _ => -1
  | _ :: _, [] => 1
  | a :: l, b :: m => if a < b then -1 else if b < a then 1 else cmpL l m
theorem Compare_tr {a b : SV} {xs ys : List Int} {L : List HP} {w0 : World} {I : Foot} [ha : RdS I L a Int inferInstance xs] [hb : RdS I L b Int inferInstance ys] (hn : xs.length ≤ 1000000000) (hm : ys.length ≤ 1000000000) : TrP Tryz.prog 22 #[.slice a.a a.n a.cap, .slice b.a b.n b.cap] (SL w0 I L) (.int .i64 (cmpL xs ys)) := by
  refine TrP.ofD fun u => Tr.intro Tryz.func22 rfl Tryz.ntmps22 rfl ?_
  repeat' (first | ((first | refine WLA.m rfl rfl ?_ ?_ | refine WLA.st rfl ?_ ?_ | refine WLA.x rfl rfl ?_ (fun x => ?_) | refine WLA.x0 rfl ?_ (fun x => ?_)); first | exact sdT | skip) | (refine Stp.go ?_) | (refine WPA.ifT ?_) | (refine WPA.ifF ?_) | ((first | refine WPA.dec ?_); first | refine orL ?_ | refine orR ?_) | ((first | refine WPA.ifBt ?_ ?_ | refine WPA.ifBnf ?_ ?_); assumption) | ((first | refine WPA.ifBnt ?_ ?_ | refine WPA.ifBf ?_ ?_); assumption) | ((first | refine WPA.ifs ?_ ?_ | refine WPA.ifB ?_ ?_) <;> intro hc))
  refine WPA.loopS (σ := Nat) (fun i => [(0, .slice a.a a.n a.cap), (1, .slice b.a b.n b.cap), (5, .int .i64 i)]) (fun i => (i ≤ xs.length ∧ i ≤ ys.length) ∧ cmpL (xs.drop i) (ys.drop i) = cmpL xs ys)
    (fun i => SLd w0 I L u) (fun i => xs.length - i) 0 ⟨rfl, rfl, rfl, trivial⟩ ⟨⟨Nat.zero_le _, Nat.zero_le _⟩, rfl⟩ (fun w h => h) ?_
  rintro i ρ ⟨⟨hi, hj⟩, he⟩
  by_cases hx : i < xs.length
  · have hx' : (i : Int) < xs.length := by omega
    by_cases hy : i < ys.length
    · have hy' : (i : Int) < ys.length := by omega
      rw [List.drop_eq_getElem_cons hx, List.drop_eq_getElem_cons hy, cmpL, ← at_nat xs i hx, ← at_nat ys i hy] at he
      by_cases h1 : at_ xs (i : Int) < at_ ys (i : Int)
      · rw [if_pos h1] at he
        repeat' (first | ((first | refine WLA.m rfl rfl ?_ ?_ | refine WDQ.m rfl rfl ?_ ?_ | refine WLA.st rfl ?_ ?_ | refine WLA.x rfl rfl ?_ (fun x => ?_) | refine WLA.x0 rfl ?_ (fun x => ?_)); first | exact sdT | skip) | (refine Stp.go ?_) | (refine WPA.ifT ?_) | (refine WPA.ifF ?_) | (refine WLA.no rfl rfl ?_) | ((first | refine WPA.dec ?_ | ((fail_if_success (guard_target =~ WLA _ _ _ _ _ _ (put1 _ _ (.bool true)) _)); (fail_if_success (guard_target =~ WLA _ _ _ _ _ _ (put1 _ _ (.bool false)) _)); refine WLA.dec rfl rfl ?_) | refine WLA.pk ?_); first | refine orL ?_ | refine orR ?_) | ((first | refine WPA.ifBt ?_ ?_ | refine WPA.ifBnf ?_ ?_); assumption) | ((first | refine WPA.ifBnt ?_ ?_ | refine WPA.ifBf ?_ ?_); assumption) | ((first | refine WPA.ifs ?_ ?_ | refine WPA.ifB ?_ ?_) <;> intro hc) | ((fail_if_success (guard_target =~ WLA _ _ _ _ _ _ (put1 _ _ (.bool true)) _)); (fail_if_success (guard_target =~ WLA _ _ _ _ _ _ (put1 _ _ (.bool false)) _)); (first | refine WLA.both rfl rfl ?_ ?_ | refine WLA.bothB rfl rfl ?_ ?_) <;> intro hg) | (guard_target =~ WPA _ _ _ (.region 4 _ true) _ _ _; refine WPA.drawT 8 (.q 0 (.q 1 (.q 2 (.q 3 (.q 4 (.q 5 (.q 6 (.q 7 .fin)))))))) mixed ?_ ?_; kernel_rfl) | (refine WDA.finish (tl := [⟨_, _, _, _, _, _⟩]) rfl ?_) | (refine WDQ.see rfl ?_))
        rw [← he]
        exact QQ.end_ rfl () rfl fun w h => h
      · rw [if_neg h1] at he
        by_cases h2 : at_ ys (i : Int) < at_ xs (i : Int)
        · rw [if_pos h2] at he
          repeat' (first | ((first | refine WLA.m rfl rfl ?_ ?_ | refine WDQ.m rfl rfl ?_ ?_ | refine WLA.st rfl ?_ ?_ | refine WLA.x rfl rfl ?_ (fun x => ?_) | refine WLA.x0 rfl ?_ (fun x => ?_)); first | exact sdT | skip) | (refine Stp.go ?_) | (refine WPA.ifT ?_) | (refine WPA.ifF ?_) | (refine WLA.no rfl rfl ?_) | ((first | refine WPA.dec ?_ | ((fail_if_success (guard_target =~ WLA _ _ _ _ _ _ (put1 _ _ (.bool true)) _)); (fail_if_success (guard_target =~ WLA _ _ _ _ _ _ (put1 _ _ (.bool false)) _)); refine WLA.dec rfl rfl ?_) | refine WLA.pk ?_); first | refine orL ?_ | refine orR ?_) | ((first | refine WPA.ifBt ?_ ?_ | refine WPA.ifBnf ?_ ?_); assumption) | ((first | refine WPA.ifBnt ?_ ?_ | refine WPA.ifBf ?_ ?_); assumption) | ((first | refine WPA.ifs ?_ ?_ | refine WPA.ifB ?_ ?_) <;> intro hc) | ((fail_if_success (guard_target =~ WLA _ _ _ _ _ _ (put1 _ _ (.bool true)) _)); (fail_if_success (guard_target =~ WLA _ _ _ _ _ _ (put1 _ _ (.bool false)) _)); (first | refine WLA.both rfl rfl ?_ ?_ | refine WLA.bothB rfl rfl ?_ ?_) <;> intro hg) | (guard_target =~ WPA _ _ _ (.region 4 _ true) _ _ _; refine WPA.drawT 8 (.q 0 (.q 1 (.q 2 (.q 3 (.q 4 (.q 5 (.q 6 (.q 7 .fin)))))))) mixed ?_ ?_; kernel_rfl) | (guard_target =~ WPA _ _ _ (.region 6 _ true) _ _ _; refine WPA.drawT 8 (.q 0 (.q 1 (.q 2 (.q 3 (.q 4 (.q 5 (.q 6 (.q 7 .fin)))))))) mixed ?_ ?_; kernel_rfl) | (refine WDA.finish (tl := [⟨_, _, _, _, _, _⟩]) rfl ?_) | (refine WDQ.see rfl ?_))
          rw [← he]
          exact QQ.end_ rfl () rfl fun w h => h
        · rw [if_neg h2] at he
          repeat' (first | ((first | refine WLA.m rfl rfl ?_ ?_ | refine WDQ.m rfl rfl ?_ ?_ | refine WLA.st rfl ?_ ?_ | refine WLA.x rfl rfl ?_ (fun x => ?_) | refine WLA.x0 rfl ?_ (fun x => ?_)); first | exact sdT | skip) | (refine Stp.go ?_) | (refine WPA.ifT ?_) | (refine WPA.ifF ?_) | (refine WLA.no rfl rfl ?_) | ((first | refine WPA.dec ?_ | ((fail_if_success (guard_target =~ WLA _ _ _ _ _ _ (put1 _ _ (.bool true)) _)); (fail_if_success (guard_target =~ WLA _ _ _ _ _ _ (put1 _ _ (.bool false)) _)); refine WLA.dec rfl rfl ?_) | refine WLA.pk ?_); first | refine orL ?_ | refine orR ?_) | ((first | refine WPA.ifBt ?_ ?_ | refine WPA.ifBnf ?_ ?_); assumption) | ((first | refine WPA.ifBnt ?_ ?_ | refine WPA.ifBf ?_ ?_); assumption) | ((first | refine WPA.ifs ?_ ?_ | refine WPA.ifB ?_ ?_) <;> intro hc) | ((fail_if_success (guard_target =~ WLA _ _ _ _ _ _ (put1 _ _ (.bool true)) _)); (fail_if_success (guard_target =~ WLA _ _ _ _ _ _ (put1 _ _ (.bool false)) _)); (first | refine WLA.both rfl rfl ?_ ?_ | refine WLA.bothB rfl rfl ?_ ?_) <;> intro hg) | (guard_target =~ WPA _ _ _ (.region 4 _ true) _ _ _; refine WPA.drawT 8 (.q 0 (.q 1 (.q 2 (.q 3 (.q 4 (.q 5 (.q 6 (.q 7 .fin)))))))) mixed ?_ ?_; kernel_rfl) | (guard_target =~ WPA _ _ _ (.region 6 _ true) _ _ _; refine WPA.drawT 8 (.q 0 (.q 1 (.q 2 (.q 3 (.q 4 (.q 5 (.q 6 (.q 7 .fin)))))))) mixed ?_ ?_; kernel_rfl) | (refine WDA.finish (tl := [⟨_, _, _, _, _, _⟩]) rfl ?_) | (refine WDQ.see rfl ?_))
          exact QQ.loopS (i + 1) ⟨rfl, rfl, rfl, trivial⟩ ⟨⟨hx, hy⟩, he⟩ (by omega) (fun w h => h)
    · have hy' : ¬ (i : Int) < ys.length := by omega
      have hl : ¬ (xs.length : Int) < ys.length := by omega
      have hl2 : (ys.length : Int) < xs.length := by omega
      rw [List.drop_eq_getElem_cons hx, List.drop_of_length_le (by omega : ys.length ≤ i), cmpL] at he
      repeat' (first | ((first | refine WLA.m rfl rfl ?_ ?_ | refine WDQ.m rfl rfl ?_ ?_ | refine WLA.st rfl ?_ ?_ | refine WLA.x rfl rfl ?_ (fun x => ?_) | refine WLA.x0 rfl ?_ (fun x => ?_)); first | exact sdT | skip) | (refine Stp.go ?_) | (refine WPA.ifT ?_) | (refine WPA.ifF ?_) | (refine WLA.no rfl rfl ?_) | ((first | refine WPA.dec ?_ | ((fail_if_success (guard_target =~ WLA _ _ _ _ _ _ (put1 _ _ (.bool true)) _)); (fail_if_success (guard_target =~ WLA _ _ _ _ _ _ (put1 _ _ (.bool false)) _)); refine WLA.dec rfl rfl ?_) | refine WLA.pk ?_); first | refine orL ?_ | refine orR ?_) | ((first | refine WPA.ifBt ?_ ?_ | refine WPA.ifBnf ?_ ?_); assumption) | ((first | refine WPA.ifBnt ?_ ?_ | refine WPA.ifBf ?_ ?_); assumption) | ((first | refine WPA.ifs ?_ ?_ | refine WPA.ifB ?_ ?_) <;> intro hc) | ((fail_if_success (guard_target =~ WLA _ _ _ _ _ _ (put1 _ _ (.bool true)) _)); (fail_if_success (guard_target =~ WLA _ _ _ _ _ _ (put1 _ _ (.bool false)) _)); (first | refine WLA.both rfl rfl ?_ ?_ | refine WLA.bothB rfl rfl ?_ ?_) <;> intro hg) | (guard_target =~ WPA _ _ _ (.region 4 _ true) _ _ _; refine WPA.drawT 8 (.q 0 (.q 1 (.q 2 (.q 3 (.q 4 (.q 5 (.q 6 (.q 7 .fin)))))))) mixed ?_ ?_; kernel_rfl) | (guard_target =~ WPA _ _ _ (.region 6 _ true) _ _ _; refine WPA.drawT 8 (.q 0 (.q 1 (.q 2 (.q 3 (.q 4 (.q 5 (.q 6 (.q 7 .fin)))))))) mixed ?_ ?_; kernel_rfl) | (refine WDA.finish (tl := [⟨_, _, _, _, _, _⟩]) rfl ?_) | (refine WDQ.see rfl ?_))
      rw [← he]
      exact QQ.end_ rfl () rfl fun w h => h
  · have hx' : ¬ (i : Int) < xs.length := by omega
    have hl2 : ¬ (ys.length : Int) < xs.length := by omega
    rw [List.drop_of_length_le (by omega : xs.length ≤ i)] at he
    by_cases hy : i < ys.length
    · have hl : (xs.length : Int) < ys.length := by omega
      rw [List.drop_eq_getElem_cons hy, cmpL] at he
      repeat' (first | ((first | refine WLA.m rfl rfl ?_ ?_ | refine WDQ.m rfl rfl ?_ ?_ | refine WLA.st rfl ?_ ?_ | refine WLA.x rfl rfl ?_ (fun x => ?_) | refine WLA.x0 rfl ?_ (fun x => ?_)); first | exact sdT | skip) | (refine Stp.go ?_) | (refine WPA.ifT ?_) | (refine WPA.ifF ?_) | (refine WLA.no rfl rfl ?_) | ((first | refine WPA.dec ?_ | ((fail_if_success (guard_target =~ WLA _ _ _ _ _ _ (put1 _ _ (.bool true)) _)); (fail_if_success (guard_target =~ WLA _ _ _ _ _ _ (put1 _ _ (.bool false)) _)); refine WLA.dec rfl rfl ?_) | refine WLA.pk ?_); first | refine orL ?_ | refine orR ?_) | ((first | refine WPA.ifBt ?_ ?_ | refine WPA.ifBnf ?_ ?_); assumption) | ((first | refine WPA.ifBnt ?_ ?_ | refine WPA.ifBf ?_ ?_); assumption) | ((first | refine WPA.ifs ?_ ?_ | refine WPA.ifB ?_ ?_) <;> intro hc) | ((fail_if_success (guard_target =~ WLA _ _ _ _ _ _ (put1 _ _ (.bool true)) _)); (fail_if_success (guard_target =~ WLA _ _ _ _ _ _ (put1 _ _ (.bool false)) _)); (first | refine WLA.both rfl rfl ?_ ?_ | refine WLA.bothB rfl rfl ?_ ?_) <;> intro hg) | (guard_target =~ WPA _ _ _ (.region 4 _ true) _ _ _; refine WPA.drawT 8 (.q 0 (.q 1 (.q 2 (.q 3 (.q 4 (.q 5 (.q 6 (.q 7 .fin)))))))) mixed ?_ ?_; kernel_rfl) | (guard_target =~ WPA _ _ _ (.region 6 _ true) _ _ _; refine WPA.drawT 8 (.q 0 (.q 1 (.q 2 (.q 3 (.q 4 (.q 5 (.q 6 (.q 7 .fin)))))))) mixed ?_ ?_; kernel_rfl) | (refine WDA.finish (tl := [⟨_, _, _, _, _, _⟩]) rfl ?_) | (refine WDQ.see rfl ?_))
      rw [← he]
      exact QQ.end_ rfl () rfl fun w h => h
    · have hl : ¬ (xs.length : Int) < ys.length := by omega
      rw [List.drop_of_length_le (by omega : ys.length ≤ i), cmpL] at he
      repeat' (first | ((first | refine WLA.m rfl rfl ?_ ?_ | refine WDQ.m rfl rfl ?_ ?_ | refine WLA.st rfl ?_ ?_ | refine WLA.x rfl rfl ?_ (fun x => ?_) | refine WLA.x0 rfl ?_ (fun x => ?_)); first | exact sdT | skip) | (refine Stp.go ?_) | (refine WPA.ifT ?_) | (refine WPA.ifF ?_) | (refine WLA.no rfl rfl ?_) | ((first | refine WPA.dec ?_ | ((fail_if_success (guard_target =~ WLA _ _ _ _ _ _ (put1 _ _ (.bool true)) _)); (fail_if_success (guard_target =~ WLA _ _ _ _ _ _ (put1 _ _ (.bool false)) _)); refine WLA.dec rfl rfl ?_) | refine WLA.pk ?_); first | refine orL ?_ | refine orR ?_) | ((first | refine WPA.ifBt ?_ ?_ | refine WPA.ifBnf ?_ ?_); assumption) | ((first | refine WPA.ifBnt ?_ ?_ | refine WPA.ifBf ?_ ?_); assumption) | ((first | refine WPA.ifs ?_ ?_ | refine WPA.ifB ?_ ?_) <;> intro hc) | ((fail_if_success (guard_target =~ WLA _ _ _ _ _ _ (put1 _ _ (.bool true)) _)); (fail_if_success (guard_target =~ WLA _ _ _ _ _ _ (put1 _ _ (.bool false)) _)); (first | refine WLA.both rfl rfl ?_ ?_ | refine WLA.bothB rfl rfl ?_ ?_) <;> intro hg) | (guard_target =~ WPA _ _ _ (.region 4 _ true) _ _ _; refine WPA.drawT 8 (.q 0 (.q 1 (.q 2 (.q 3 (.q 4 (.q 5 (.q 6 (.q 7 .fin)))))))) mixed ?_ ?_; kernel_rfl) | (guard_target =~ WPA _ _ _ (.region 6 _ true) _ _ _; refine WPA.drawT 8 (.q 0 (.q 1 (.q 2 (.q 3 (.q 4 (.q 5 (.q 6 (.q 7 .fin)))))))) mixed ?_ ?_; kernel_rfl) | (refine WDA.finish (tl := [⟨_, _, _, _, _, _⟩]) rfl ?_) | (refine WDQ.see rfl ?_))
      rw [← he]
      exact QQ.end_ rfl () rfl fun w h => h
end Go.Proofs.YthkhneimfjaohaaGreatDoor
namespace Go.Proofs.YthkhneimfjaohaaGreatDoor
open Go Go.Fw
set_option linter.unusedVariables false
set_option linter.unusedSimpArgs false
theorem cmpL_refl : ∀ a : List Int, cmpL a a = 0
  | [] => rfl
  | x :: a => by rw [cmpL, if_neg (by omega), if_neg (by omega)]; exact cmpL_refl a
theorem cmpL_eq : ∀ {a b : List Int}, cmpL a b = 0 → a = b
  | [], [], _ => rfl
  | [], _ :: _, h => by simp [cmpL] at h
  | _ :: _, [], h => by simp [cmpL] at h
  | x :: a, y :: b, h => by
    rw [cmpL] at h
    split at h
    · omega
    · split at h
      · omega
      · rw [cmpL_eq h, show x = y by omega]
theorem cmpL_swap : ∀ a b : List Int, cmpL b a = - cmpL a b
  | [], [] => rfl
  | [], _ :: _ => rfl
  | _ :: _, [] => rfl
  | x :: a, y :: b => by
    rw [cmpL, cmpL]
    by_cases h1 : x < y
    · rw [if_neg (by omega), if_pos h1, if_pos h1]; rfl
    · by_cases h2 : y < x
      · rw [if_pos h2, if_neg h1, if_pos h2]
      · rw [if_neg h2, if_neg h1, if_neg h1, if_neg h2]; exact cmpL_swap a b
theorem cmpL_tt : ∀ {a b c : List Int}, cmpL a b < 0 → cmpL b c < 0 → cmpL a c < 0
  | [], [], _, h, _ => by simp [cmpL] at h
  | [], _ :: _, [], _, h => by simp [cmpL] at h
  | [], _ :: _, _ :: _, _, _ => by simp [cmpL]
  | _ :: _, [], _, h, _ => by simp [cmpL] at h
  | _ :: _, _ :: _, [], _, h => by simp [cmpL] at h
  | x :: a, y :: b, z :: c, h, k => by
    rw [cmpL] at h k ⊢
    by_cases h1 : x < y
    · by_cases h2 : y < z
      · rw [if_pos (by omega)]; omega
      · rw [if_neg h2] at k
        by_cases h3 : z < y
        · rw [if_pos h3] at k; omega
        · rw [if_pos (by omega)]; omega
    · rw [if_neg h1] at h
      by_cases h2 : y < x
      · rw [if_pos h2] at h; omega
      · rw [if_neg h2] at h
        by_cases h3 : y < z
        · rw [if_pos (by omega)]; omega
        · rw [if_neg h3] at k
          by_cases h4 : z < y
          · rw [if_pos h4] at k; omega
          · rw [if_neg h4] at k
            rw [if_neg (by omega), if_neg (by omega)]
            exact cmpL_tt h k
def ltL (a b : List Int) : Prop := cmpL a b < 0
theorem ltL_irr (a : List Int) : ¬ ltL a a := by unfold ltL; rw [cmpL_refl]; omega
theorem ltL_tt {a b c : List Int} (h : ltL a b) (k : ltL b c) : ltL a c := cmpL_tt h k
theorem ltL_as {a b : List Int} (h : ltL a b) : ¬ ltL b a := fun k => ltL_irr a (ltL_tt h k)
theorem cmp_pos {a b : List Int} : 0 < cmpL a b ↔ ltL b a := by unfold ltL; rw [cmpL_swap a b]; omega
theorem cmp_zero {a b : List Int} : cmpL a b = 0 ↔ a = b := ⟨cmpL_eq, fun h => by rw [h, cmpL_refl]⟩
section
variable {κ : Type} (f : κ → List Int)
abbrev addN (a b : Int) : Int := IntKind.i64.wrap (a + b)
def putL : List (κ × Int) → κ × Int → List (κ × Int)
  | [], x => [x]
  | y :: l, x => if 0 < cmpL (f y.1) (f x.1) then x :: y :: l else if cmpL (f y.1) (f x.1) = 0 then (y.1, addN y.2 x.2) :: l else y :: putL l x
def Ris (l : List (κ × Int)) : Prop := l.Pairwise fun a b => ltL (f a.1) (f b.1)
variable {f}
theorem putL_mem {x : κ × Int} : ∀ {l : List (κ × Int)}, ∀ z ∈ putL f l x, f z.1 = f x.1 ∨ ∃ y ∈ l, z.1 = y.1
  | [], z, h => by simp only [putL, List.mem_singleton] at h; subst h; exact .inl rfl
  | y :: l, z, h => by
    unfold putL at h
    split at h
    · rcases List.mem_cons.1 h with rfl | h
      · exact .inl rfl
      · exact .inr ⟨z, h, rfl⟩
    · split at h
      · rcases List.mem_cons.1 h with rfl | h
        · exact .inr ⟨y, List.mem_cons_self .., rfl⟩
        · exact .inr ⟨z, List.mem_cons_of_mem _ h, rfl⟩
      · rcases List.mem_cons.1 h with rfl | h
        · exact .inr ⟨z, List.mem_cons_self .., rfl⟩
        · rcases putL_mem z h with h | ⟨w, hw, e⟩
          · exact .inl h
          · exact .inr ⟨w, List.mem_cons_of_mem _ hw, e⟩
theorem putL_ris {x : κ × Int} : ∀ {l : List (κ × Int)}, Ris f l → Ris f (putL f l x)
  | [], _ => List.pairwise_singleton ..
  | y :: l, h => by
    obtain ⟨h1, h2⟩ := List.pairwise_cons.1 h
    unfold putL
    split
    · rename_i hp
      refine List.pairwise_cons.2 ⟨fun z hz => ?_, h⟩
      rcases List.mem_cons.1 hz with rfl | hz
      · exact cmp_pos.1 hp
      · exact ltL_tt (cmp_pos.1 hp) (h1 z hz)
    · rename_i hp
      split
      · rename_i hz
        exact List.pairwise_cons.2 ⟨h1, h2⟩
      · rename_i hz
        refine List.pairwise_cons.2 ⟨fun z hz' => ?_, putL_ris h2⟩
        rcases putL_mem z hz' with e | ⟨w, hw, e⟩
        · rw [e]; unfold ltL; omega
        · rw [e]; exact h1 w hw
theorem addN_mod (a b : Int) : ∃ k : Int, addN a b = a + b + k * 18446744073709551616 ∧ -9223372036854775808 ≤ addN a b ∧ addN a b ≤ 9223372036854775807 := by
  have e : addN a b = if 9223372036854775808 ≤ (a + b) % 18446744073709551616 then (a + b) % 18446744073709551616 - 18446744073709551616 else (a + b) % 18446744073709551616 := by
    simp [addN, IntKind.wrap, IntKind.bits, IntKind.signed]
  rw [e]
  split
  · exact ⟨-((a + b) / 18446744073709551616) - 1, by omega, by omega, by omega⟩
  · exact ⟨-((a + b) / 18446744073709551616), by omega, by omega, by omega⟩
theorem addN_rot (a b c : Int) : addN (addN a b) c = addN (addN a c) b := by
  obtain ⟨k1, h1, h2, h3⟩ := addN_mod a b
  obtain ⟨k2, h4, h5, h6⟩ := addN_mod (addN a b) c
  obtain ⟨k3, h7, h8, h9⟩ := addN_mod a c
  obtain ⟨k4, h10, h11, h12⟩ := addN_mod (addN a c) b
  omega
theorem addN_comm (a b : Int) : addN a b = addN b a := by unfold addN; rw [Int.add_comm]
end
abbrev Ct := List Int × Int
abbrev putM (l : List Ct) (x : Ct) : List Ct := putL id l x
def lk (g : List Int) : List Ct → Option Int
  | [] => none
  | y :: l => if y.1 = g then some y.2 else lk g l
theorem lk_none {g : List Int} : ∀ {l : List Ct}, (∀ y ∈ l, y.1 ≠ g) → lk g l = none
  | [], _ => rfl
  | y :: l, h => by rw [lk, if_neg (h y (List.mem_cons_self ..))]; exact lk_none fun z hz => h z (List.mem_cons_of_mem _ hz)
theorem lk_mem {g : List Int} {n : Int} : ∀ {l : List Ct}, lk g l = some n → ∃ y ∈ l, y.1 = g
  | [], h => by simp [lk] at h
  | y :: l, h => by
    rw [lk] at h
    split at h
    · rename_i e; exact ⟨y, List.mem_cons_self .., e⟩
    · obtain ⟨z, hz, e⟩ := lk_mem h; exact ⟨z, List.mem_cons_of_mem _ hz, e⟩
theorem lk_put {g : List Int} {x : Ct} : ∀ {l : List Ct}, Ris id l → lk g (putM l x) = if x.1 = g then some (match lk g l with | none => x.2 | some n => addN n x.2) else lk g l
  | [], _ => by simp [putM, putL, lk]
  | y :: l, h => by
    obtain ⟨h1, h2⟩ := List.pairwise_cons.1 h
    simp only [putM, putL, id]
    by_cases hp : 0 < cmpL y.1 x.1
    · rw [if_pos hp]
      have hn : lk x.1 (y :: l) = none := lk_none fun z hz e => by
        rcases List.mem_cons.1 hz with rfl | hz
        · have := cmp_pos.1 hp; rw [e] at this; exact ltL_irr x.1 this
        · have := ltL_tt (cmp_pos.1 hp) (h1 z hz); unfold id at this; rw [e] at this; exact ltL_irr x.1 this
      rw [lk]
      by_cases hg : x.1 = g
      · subst hg; rw [if_pos rfl, if_pos rfl, hn]
      · rw [if_neg hg, if_neg hg]
    · rw [if_neg hp]
      by_cases hz : cmpL y.1 x.1 = 0
      · have e := cmp_zero.1 hz
        rw [if_pos hz, lk, lk]
        simp only [e]
        by_cases hg : x.1 = g
        · simp [hg]
        · simp [hg]
      · rw [if_neg hz, lk]
        have hne : y.1 ≠ x.1 := fun e => hz (cmp_zero.2 e)
        have ih := lk_put (g := g) (x := x) h2
        unfold putM at ih
        rw [ih, lk]
        by_cases hg : x.1 = g
        · rw [if_pos hg, if_pos hg, if_neg (fun e => hne (e.trans hg.symm)), if_neg (fun e => hne (e.trans hg.symm))]
        · rw [if_neg hg, if_neg hg]
theorem lk_ext : ∀ {a b : List Ct}, Ris id a → Ris id b → (∀ g, lk g a = lk g b) → a = b
  | [], [], _, _, _ => rfl
  | [], q :: b, _, _, h => by have := h q.1; simp [lk] at this
  | p :: a, [], _, _, h => by have := h p.1; simp [lk] at this
  | p :: a, q :: b, ha, hb, h => by
    obtain ⟨a1, a2⟩ := List.pairwise_cons.1 ha
    obtain ⟨b1, b2⟩ := List.pairwise_cons.1 hb
    have e1 : p.1 = q.1 := by
      have h1 := h p.1
      have h2 := h q.1
      rw [lk, if_pos rfl] at h1
      rw [lk, lk, if_pos rfl] at h2
      obtain ⟨y, hy, ey⟩ := lk_mem h1.symm
      rcases List.mem_cons.1 hy with rfl | hy
      · exact ey.symm
      · have l1 : ltL q.1 p.1 := by have := b1 y hy; unfold id at this; rw [ey] at this; exact this
        rw [if_neg (show ¬ p.1 = q.1 from fun e => by rw [e] at l1; exact ltL_irr q.1 l1)] at h2
        obtain ⟨z, hz, ez⟩ := lk_mem h2
        have l2 : ltL p.1 q.1 := by have := a1 z hz; unfold id at this; rw [ez] at this; exact this
        exact absurd l2 (ltL_as l1)
    have e2 : p.2 = q.2 := by
      have h1 := h p.1
      rw [lk, if_pos rfl, lk, if_pos e1.symm] at h1
      injection h1
    have e3 : a = b := lk_ext a2 b2 fun g => by
      by_cases hg : p.1 = g
      · rw [lk_none fun z hz e => ltL_irr p.1 (by have := a1 z hz; unfold id at this; rw [e, ← hg] at this; exact this), lk_none fun z hz e => ltL_irr q.1 (by have := b1 z hz; unfold id at this; rw [e, ← hg, e1] at this; exact this)]
      · have := h g
        rwa [lk, lk, if_neg hg, if_neg (e1 ▸ hg)] at this
    rw [e3, Prod.ext e1 e2]
theorem put_comm {l : List Ct} {x y : Ct} (h : Ris id l) : putM (putM l x) y = putM (putM l y) x := by
  refine lk_ext (putL_ris (putL_ris h)) (putL_ris (putL_ris h)) fun g => ?_
  rw [lk_put (putL_ris h), lk_put (putL_ris h), lk_put h, lk_put h]
  by_cases h1 : x.1 = g <;> by_cases h2 : y.1 = g
  · simp only [h1, h2, if_true]
    cases lk g l with
    | none => simp only; rw [addN_comm]
    | some n => simp only; rw [addN_rot]
  · simp only [h1, h2, if_true, if_false]
  · simp only [h1, h2, if_true, if_false]
  · simp only [h1, h2, if_false]
end Go.Proofs.YthkhneimfjaohaaGreatDoor
namespace Go.Proofs.YthkhneimfjaohaaGreatDoor
open Go Go.Fw Go.RowKit
set_option linter.unusedVariables false
set_option linter.unusedSimpArgs false
set_option maxRecDepth 100000
set_option maxHeartbeats 16000000
set_option synthInstance.maxHeartbeats 200000
set_option synthInstance.maxSize 100000
attribute [local irreducible] WPA WLA WDA WDQ WDE QQ seqQ blockQ loopQ fnQ OpP OpT Tr TrP SL SLd OwnS LitS Bk BkE Ob
section
variable {L : List HP} {w0 : World} {I : Foot}
theorem isNaN_tr {x : Int} : TrP Tryz.prog 99 #[.int .i64 x] (SL w0 I L) (.bool false) := by
  refine TrP.ofD fun u => Tr.intro Tryz.func99 rfl Tryz.ntmps99 rfl ?_
  have hx : ¬ x ≠ x := fun h => h rfl
  repeat' (first | ((first | refine WLA.m rfl rfl ?_ ?_ | refine WLA.st rfl ?_ ?_ | refine WLA.x rfl rfl ?_ (fun x => ?_) | refine WLA.x0 rfl ?_ (fun x => ?_)); first | exact sdT | skip) | (refine Stp.go ?_) | (refine WPA.ifT ?_) | (refine WPA.ifF ?_) | ((first | refine WPA.dec ?_); first | refine orL ?_ | refine orR ?_) | ((first | refine WPA.ifBt ?_ ?_ | refine WPA.ifBnf ?_ ?_); assumption) | ((first | refine WPA.ifBnt ?_ ?_ | refine WPA.ifBf ?_ ?_); assumption) | ((first | refine WPA.ifs ?_ ?_ | refine WPA.ifB ?_ ?_) <;> intro hc))
  exact QQ.end_ rfl () (congrArg Value.bool (decide_eq_false hx)) fun w h => h
theorem cmpc_tr {x y : Int} : TrP Tryz.prog 85 #[.int .i64 x, .int .i64 y] (SL w0 I L) (.int .i64 (if x < y then -1 else if y < x then 1 else 0)) := by
  refine TrP.ofD fun u => Tr.intro Tryz.func85 rfl Tryz.ntmps85 rfl ?_
  by_cases h1 : x < y
  · rw [if_pos h1]
    repeat' (first | ((first | refine WLA.m rfl rfl ?_ ?_ | refine WLA.st rfl ?_ ?_ | refine WLA.x rfl rfl ?_ (fun x => ?_) | refine WLA.x0 rfl ?_ (fun x => ?_)); first | exact sdT | skip) | (refine Stp.go ?_) | (guard_target =~ WLA _ _ _ _ _ (⟨_, .call ⟨.value (.func 99), _, _⟩, _, _, _, _⟩ :: _) _ _; refine WLA.cq rfl rfl (isNaN_tr) ?_) | (refine WPA.ifT ?_) | (refine WPA.ifF ?_) | ((first | refine WPA.dec ?_); first | refine orL ?_ | refine orR ?_) | ((first | refine WPA.ifBt ?_ ?_ | refine WPA.ifBnf ?_ ?_); assumption) | ((first | refine WPA.ifBnt ?_ ?_ | refine WPA.ifBf ?_ ?_); assumption) | ((first | refine WPA.ifs ?_ ?_ | refine WPA.ifB ?_ ?_) <;> intro hc))
    exact QQ.end_ rfl () rfl fun w h => h
  · rw [if_neg h1]
    by_cases h2 : y < x
    · rw [if_pos h2]
      repeat' (first | ((first | refine WLA.m rfl rfl ?_ ?_ | refine WLA.st rfl ?_ ?_ | refine WLA.x rfl rfl ?_ (fun x => ?_) | refine WLA.x0 rfl ?_ (fun x => ?_)); first | exact sdT | skip) | (refine Stp.go ?_) | (guard_target =~ WLA _ _ _ _ _ (⟨_, .call ⟨.value (.func 99), _, _⟩, _, _, _, _⟩ :: _) _ _; refine WLA.cq rfl rfl (isNaN_tr) ?_) | (refine WPA.ifT ?_) | (refine WPA.ifF ?_) | ((first | refine WPA.dec ?_); first | refine orL ?_ | refine orR ?_) | ((first | refine WPA.ifBt ?_ ?_ | refine WPA.ifBnf ?_ ?_); assumption) | ((first | refine WPA.ifBnt ?_ ?_ | refine WPA.ifBf ?_ ?_); assumption) | ((first | refine WPA.ifs ?_ ?_ | refine WPA.ifB ?_ ?_) <;> intro hc))
      exact QQ.end_ rfl () rfl fun w h => h
    · rw [if_neg h2]
      repeat' (first | ((first | refine WLA.m rfl rfl ?_ ?_ | refine WLA.st rfl ?_ ?_ | refine WLA.x rfl rfl ?_ (fun x => ?_) | refine WLA.x0 rfl ?_ (fun x => ?_)); first | exact sdT | skip) | (refine Stp.go ?_) | (guard_target =~ WLA _ _ _ _ _ (⟨_, .call ⟨.value (.func 99), _, _⟩, _, _, _, _⟩ :: _) _ _; refine WLA.cq rfl rfl (isNaN_tr) ?_) | (refine WPA.ifT ?_) | (refine WPA.ifF ?_) | ((first | refine WPA.dec ?_); first | refine orL ?_ | refine orR ?_) | ((first | refine WPA.ifBt ?_ ?_ | refine WPA.ifBnf ?_ ?_); assumption) | ((first | refine WPA.ifBnt ?_ ?_ | refine WPA.ifBf ?_ ?_); assumption) | ((first | refine WPA.ifs ?_ ?_ | refine WPA.ifB ?_ ?_) <;> intro hc))
      exact QQ.end_ rfl () rfl fun w h => h
theorem sCompare_tr {a b : SV} {xs ys : List Int} [ha : RdS I L a Int inferInstance xs] [hb : RdS I L b Int inferInstance ys] (hn : xs.length ≤ 1000000000) (hm : ys.length ≤ 1000000000) : TrP Tryz.prog 65 #[.slice a.a a.n a.cap, .slice b.a b.n b.cap] (SL w0 I L) (.int .i64 (cmpL xs ys)) := by
  refine TrP.ofD fun u => Tr.intro Tryz.func65 rfl Tryz.ntmps65 rfl ?_
  repeat' (first | ((first | refine WLA.m rfl rfl ?_ ?_ | refine WLA.st rfl ?_ ?_ | refine WLA.x rfl rfl ?_ (fun x => ?_) | refine WLA.x0 rfl ?_ (fun x => ?_)); first | exact sdT | skip) | (refine Stp.go ?_) | (refine WPA.ifT ?_) | (refine WPA.ifF ?_) | ((first | refine WPA.dec ?_); first | refine orL ?_ | refine orR ?_) | ((first | refine WPA.ifBt ?_ ?_ | refine WPA.ifBnf ?_ ?_); assumption) | ((first | refine WPA.ifBnt ?_ ?_ | refine WPA.ifBf ?_ ?_); assumption) | ((first | refine WPA.ifs ?_ ?_ | refine WPA.ifB ?_ ?_) <;> intro hc))
  refine WPA.loopS (σ := Nat) (fun i => [(0, .slice a.a a.n a.cap), (1, .slice b.a b.n b.cap), (9, .slice a.a a.n a.cap), (10, .int .i64 xs.length), (11, .int .i64 i)]) (fun i => (i ≤ xs.length ∧ i ≤ ys.length) ∧ cmpL (xs.drop i) (ys.drop i) = cmpL xs ys)
    (fun i => SLd w0 I L u) (fun i => xs.length - i) 0 ⟨rfl, rfl, rfl, rfl, rfl, trivial⟩ ⟨⟨Nat.zero_le _, Nat.zero_le _⟩, rfl⟩ (fun w h => h) ?_
  rintro i ρ ⟨⟨hi, hj⟩, he⟩
  by_cases hx : i < xs.length
  · have hx' : (i : Int) < xs.length := by omega
    by_cases hy : i < ys.length
    · have hy' : ¬ (ys.length : Int) ≤ i := by omega
      have hy2 : (i : Int) < ys.length := by omega
      rw [List.drop_eq_getElem_cons hx, List.drop_eq_getElem_cons hy, cmpL, ← at_nat xs i hx, ← at_nat ys i hy] at he
      by_cases h1 : at_ xs (i : Int) < at_ ys (i : Int)
      · rw [if_pos h1] at he
        have hcc : TrP Tryz.prog 85 #[.int .i64 (at_ xs (i : Int)), .int .i64 (at_ ys (i : Int))] (SL w0 I L) (.int .i64 (-1)) := by have := cmpc_tr (w0 := w0) (I := I) (L := L) (x := at_ xs (i : Int)) (y := at_ ys (i : Int)); rwa [if_pos h1] at this
        repeat' (first | ((first | refine WLA.m rfl rfl ?_ ?_ | refine WLA.st rfl ?_ ?_ | refine WLA.x rfl rfl ?_ (fun x => ?_) | refine WLA.x0 rfl ?_ (fun x => ?_)); first | exact sdT | skip) | (refine Stp.go ?_) | (guard_target =~ WLA _ _ _ _ _ (⟨_, .call ⟨.value (.func 85), _, _⟩, _, _, _, _⟩ :: _) _ _; refine WLA.cq rfl rfl (hcc) ?_) | (refine WPA.ifT ?_) | (refine WPA.ifF ?_) | ((first | refine WPA.dec ?_); first | refine orL ?_ | refine orR ?_) | ((first | refine WPA.ifBt ?_ ?_ | refine WPA.ifBnf ?_ ?_); assumption) | ((first | refine WPA.ifBnt ?_ ?_ | refine WPA.ifBf ?_ ?_); assumption) | ((first | refine WPA.ifs ?_ ?_ | refine WPA.ifB ?_ ?_) <;> intro hc))
        rw [← he]
        exact QQ.end_ rfl () rfl fun w h => h
      · rw [if_neg h1] at he
        by_cases h2 : at_ ys (i : Int) < at_ xs (i : Int)
        · rw [if_pos h2] at he
          have hcc : TrP Tryz.prog 85 #[.int .i64 (at_ xs (i : Int)), .int .i64 (at_ ys (i : Int))] (SL w0 I L) (.int .i64 1) := by have := cmpc_tr (w0 := w0) (I := I) (L := L) (x := at_ xs (i : Int)) (y := at_ ys (i : Int)); rwa [if_neg h1, if_pos h2] at this
          repeat' (first | ((first | refine WLA.m rfl rfl ?_ ?_ | refine WLA.st rfl ?_ ?_ | refine WLA.x rfl rfl ?_ (fun x => ?_) | refine WLA.x0 rfl ?_ (fun x => ?_)); first | exact sdT | skip) | (refine Stp.go ?_) | (guard_target =~ WLA _ _ _ _ _ (⟨_, .call ⟨.value (.func 85), _, _⟩, _, _, _, _⟩ :: _) _ _; refine WLA.cq rfl rfl (hcc) ?_) | (refine WPA.ifT ?_) | (refine WPA.ifF ?_) | ((first | refine WPA.dec ?_); first | refine orL ?_ | refine orR ?_) | ((first | refine WPA.ifBt ?_ ?_ | refine WPA.ifBnf ?_ ?_); assumption) | ((first | refine WPA.ifBnt ?_ ?_ | refine WPA.ifBf ?_ ?_); assumption) | ((first | refine WPA.ifs ?_ ?_ | refine WPA.ifB ?_ ?_) <;> intro hc))
          rw [← he]
          exact QQ.end_ rfl () rfl fun w h => h
        · rw [if_neg h2] at he
          have hcc : TrP Tryz.prog 85 #[.int .i64 (at_ xs (i : Int)), .int .i64 (at_ ys (i : Int))] (SL w0 I L) (.int .i64 0) := by have := cmpc_tr (w0 := w0) (I := I) (L := L) (x := at_ xs (i : Int)) (y := at_ ys (i : Int)); rwa [if_neg h1, if_neg h2] at this
          repeat' (first | ((first | refine WLA.m rfl rfl ?_ ?_ | refine WLA.st rfl ?_ ?_ | refine WLA.x rfl rfl ?_ (fun x => ?_) | refine WLA.x0 rfl ?_ (fun x => ?_)); first | exact sdT | skip) | (refine Stp.go ?_) | (guard_target =~ WLA _ _ _ _ _ (⟨_, .call ⟨.value (.func 85), _, _⟩, _, _, _, _⟩ :: _) _ _; refine WLA.cq rfl rfl (hcc) ?_) | (refine WPA.ifT ?_) | (refine WPA.ifF ?_) | ((first | refine WPA.dec ?_); first | refine orL ?_ | refine orR ?_) | ((first | refine WPA.ifBt ?_ ?_ | refine WPA.ifBnf ?_ ?_); assumption) | ((first | refine WPA.ifBnt ?_ ?_ | refine WPA.ifBf ?_ ?_); assumption) | ((first | refine WPA.ifs ?_ ?_ | refine WPA.ifB ?_ ?_) <;> intro hc))
          exact QQ.loopS (i + 1) ⟨rfl, rfl, rfl, rfl, rfl, trivial⟩ ⟨⟨hx, hy⟩, he⟩ (by omega) (fun w h => h)
    · have hy' : (ys.length : Int) ≤ i := by omega
      rw [List.drop_eq_getElem_cons hx, List.drop_of_length_le (by omega : ys.length ≤ i), cmpL] at he
      repeat' (first | ((first | refine WLA.m rfl rfl ?_ ?_ | refine WLA.st rfl ?_ ?_ | refine WLA.x rfl rfl ?_ (fun x => ?_) | refine WLA.x0 rfl ?_ (fun x => ?_)); first | exact sdT | skip) | (refine Stp.go ?_) | (refine WPA.ifT ?_) | (refine WPA.ifF ?_) | ((first | refine WPA.dec ?_); first | refine orL ?_ | refine orR ?_) | ((first | refine WPA.ifBt ?_ ?_ | refine WPA.ifBnf ?_ ?_); assumption) | ((first | refine WPA.ifBnt ?_ ?_ | refine WPA.ifBf ?_ ?_); assumption) | ((first | refine WPA.ifs ?_ ?_ | refine WPA.ifB ?_ ?_) <;> intro hc))
      rw [← he]
      exact QQ.end_ rfl () rfl fun w h => h
  · have hx' : ¬ (i : Int) < xs.length := by omega
    rw [List.drop_of_length_le (by omega : xs.length ≤ i)] at he
    by_cases hy : i < ys.length
    · have hl : (xs.length : Int) < ys.length := by omega
      rw [List.drop_eq_getElem_cons hy, cmpL] at he
      repeat' (first | ((first | refine WLA.m rfl rfl ?_ ?_ | refine WLA.st rfl ?_ ?_ | refine WLA.x rfl rfl ?_ (fun x => ?_) | refine WLA.x0 rfl ?_ (fun x => ?_)); first | exact sdT | skip) | (refine Stp.go ?_) | (refine WPA.ifT ?_) | (refine WPA.ifF ?_) | ((first | refine WPA.dec ?_); first | refine orL ?_ | refine orR ?_) | ((first | refine WPA.ifBt ?_ ?_ | refine WPA.ifBnf ?_ ?_); assumption) | ((first | refine WPA.ifBnt ?_ ?_ | refine WPA.ifBf ?_ ?_); assumption) | ((first | refine WPA.ifs ?_ ?_ | refine WPA.ifB ?_ ?_) <;> intro hc))
      rw [← he]
      exact QQ.end_ rfl () rfl fun w h => h
    · have hl : ¬ (xs.length : Int) < ys.length := by omega
      rw [List.drop_of_length_le (by omega : ys.length ≤ i), cmpL] at he
      repeat' (first | ((first | refine WLA.m rfl rfl ?_ ?_ | refine WLA.st rfl ?_ ?_ | refine WLA.x rfl rfl ?_ (fun x => ?_) | refine WLA.x0 rfl ?_ (fun x => ?_)); first | exact sdT | skip) | (refine Stp.go ?_) | (refine WPA.ifT ?_) | (refine WPA.ifF ?_) | ((first | refine WPA.dec ?_); first | refine orL ?_ | refine orR ?_) | ((first | refine WPA.ifBt ?_ ?_ | refine WPA.ifBnf ?_ ?_); assumption) | ((first | refine WPA.ifBnt ?_ ?_ | refine WPA.ifBf ?_ ?_); assumption) | ((first | refine WPA.ifs ?_ ?_ | refine WPA.ifB ?_ ?_) <;> intro hc))
      rw [← he]
      exact QQ.end_ rfl () rfl fun w h => h
theorem gCompare_tr {a b : SV} {xs ys : List Int} [ha : RdS I L a Int inferInstance xs] [hb : RdS I L b Int inferInstance ys] (hn : xs.length ≤ 1000000000) (hm : ys.length ≤ 1000000000) : TrP Tryz.prog 41 #[.slice a.a a.n a.cap, .slice b.a b.n b.cap] (SL w0 I L) (.int .i64 (cmpL xs ys)) := by
  refine TrP.ofD fun u => Tr.intro Tryz.func41 rfl Tryz.ntmps41 rfl ?_
  repeat' (first | ((first | refine WLA.m rfl rfl ?_ ?_ | refine WLA.st rfl ?_ ?_ | refine WLA.x rfl rfl ?_ (fun x => ?_) | refine WLA.x0 rfl ?_ (fun x => ?_)); first | exact sdT | skip) | (refine Stp.go ?_) | (guard_target =~ WLA _ _ _ _ _ (⟨_, .call ⟨.value (.func 65), _, _⟩, _, _, _, _⟩ :: _) _ _; refine WLA.cq rfl rfl (sCompare_tr hn hm) ?_) | (refine WPA.ifT ?_) | (refine WPA.ifF ?_) | ((first | refine WPA.dec ?_); first | refine orL ?_ | refine orR ?_) | ((first | refine WPA.ifBt ?_ ?_ | refine WPA.ifBnf ?_ ?_); assumption) | ((first | refine WPA.ifBnt ?_ ?_ | refine WPA.ifBf ?_ ?_); assumption) | ((first | refine WPA.ifs ?_ ?_ | refine WPA.ifB ?_ ?_) <;> intro hc))
  exact QQ.end_ rfl () rfl fun w h => h
end
end Go.Proofs.YthkhneimfjaohaaGreatDoor
