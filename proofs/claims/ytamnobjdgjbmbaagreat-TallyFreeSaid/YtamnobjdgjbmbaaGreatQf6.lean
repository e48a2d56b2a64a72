/- Texts that TallyFree_law leans on, part 6. Conditions: none. -/
import Derived.Test.YtamnobjdgjbmbaaGreatProg
import Derived.Test.YtamnobjdgjbmbaaGreatQf5
namespace Go.Proofs.YtamnobjdgjbmbaaGreat
open Go Go.Fw
set_option linter.unusedSimpArgs false
theorem mixed : Tryz.prog.follows .mixedOrders = true := by kernel_rfl
instance : Callb Tryz.prog 2 := ⟨by kernel_rfl⟩
instance : Callb Tryz.prog 3 := ⟨by kernel_rfl⟩
instance : Callb Tryz.prog 4 := ⟨by kernel_rfl⟩
instance : Callb Tryz.prog 5 := ⟨by kernel_rfl⟩
instance : Callb Tryz.prog 6 := ⟨by kernel_rfl⟩
instance : Callb Tryz.prog 7 := ⟨by kernel_rfl⟩
instance : Callb Tryz.prog 8 := ⟨by kernel_rfl⟩
instance : Callb Tryz.prog 9 := ⟨by kernel_rfl⟩
instance : Callb Tryz.prog 10 := ⟨by kernel_rfl⟩
instance : Callb Tryz.prog 11 := ⟨by kernel_rfl⟩
instance : Callb Tryz.prog 12 := ⟨by kernel_rfl⟩
instance : Callb Tryz.prog 13 := ⟨by kernel_rfl⟩
instance : Callb Tryz.prog 14 := ⟨by kernel_rfl⟩
instance : Callb Tryz.prog 15 := ⟨by kernel_rfl⟩
instance : Callb Tryz.prog 16 := ⟨by kernel_rfl⟩
instance : Callb Tryz.prog 17 := ⟨by kernel_rfl⟩
instance : Callb Tryz.prog 18 := ⟨by kernel_rfl⟩
instance : Callb Tryz.prog 19 := ⟨by kernel_rfl⟩
instance : Callb Tryz.prog 20 := ⟨by kernel_rfl⟩
instance : Callb Tryz.prog 21 := ⟨by kernel_rfl⟩
instance : Callb Tryz.prog 22 := ⟨by kernel_rfl⟩
instance : Callb Tryz.prog 23 := ⟨by kernel_rfl⟩
instance : Callb Tryz.prog 24 := ⟨by kernel_rfl⟩
instance : Callb Tryz.prog 25 := ⟨by kernel_rfl⟩
instance : Callb Tryz.prog 26 := ⟨by kernel_rfl⟩
instance : Callb Tryz.prog 27 := ⟨by kernel_rfl⟩
instance : Callb Tryz.prog 28 := ⟨by kernel_rfl⟩
instance : Callb Tryz.prog 29 := ⟨by kernel_rfl⟩
instance : Callb Tryz.prog 30 := ⟨by kernel_rfl⟩
instance : Callb Tryz.prog 31 := ⟨by kernel_rfl⟩
instance : Callb Tryz.prog 32 := ⟨by kernel_rfl⟩
instance : Callb Tryz.prog 33 := ⟨by kernel_rfl⟩
instance : Callb Tryz.prog 34 := ⟨by kernel_rfl⟩
instance : Callb Tryz.prog 35 := ⟨by kernel_rfl⟩
instance : Callb Tryz.prog 36 := ⟨by kernel_rfl⟩
instance : Callb Tryz.prog 37 := ⟨by kernel_rfl⟩
instance : Callb Tryz.prog 38 := ⟨by kernel_rfl⟩
instance : Callb Tryz.prog 39 := ⟨by kernel_rfl⟩
instance : Callb Tryz.prog 40 := ⟨by kernel_rfl⟩
instance : Callb Tryz.prog 41 := ⟨by kernel_rfl⟩
instance : Callb Tryz.prog 42 := ⟨by kernel_rfl⟩
instance : Callb Tryz.prog 43 := ⟨by kernel_rfl⟩
instance : Callb Tryz.prog 44 := ⟨by kernel_rfl⟩
instance : Callb Tryz.prog 45 := ⟨by kernel_rfl⟩
instance : Callb Tryz.prog 46 := ⟨by kernel_rfl⟩
instance : Callb Tryz.prog 47 := ⟨by kernel_rfl⟩
instance : Callb Tryz.prog 48 := ⟨by kernel_rfl⟩
instance : Callb Tryz.prog 49 := ⟨by kernel_rfl⟩
instance : Callb Tryz.prog 50 := ⟨by kernel_rfl⟩
instance : Callb Tryz.prog 51 := ⟨by kernel_rfl⟩
instance : Callb Tryz.prog 52 := ⟨by kernel_rfl⟩
instance : Callb Tryz.prog 53 := ⟨by kernel_rfl⟩
instance : Callb Tryz.prog 54 := ⟨by kernel_rfl⟩
instance : Callb Tryz.prog 55 := ⟨by kernel_rfl⟩
instance : Callb Tryz.prog 56 := ⟨by kernel_rfl⟩
instance : Callb Tryz.prog 57 := ⟨by kernel_rfl⟩
instance : Callb Tryz.prog 58 := ⟨by kernel_rfl⟩
instance : Callb Tryz.prog 59 := ⟨by kernel_rfl⟩
instance : Callb Tryz.prog 60 := ⟨by kernel_rfl⟩
instance : Callb Tryz.prog 61 := ⟨by kernel_rfl⟩
instance : Callb Tryz.prog 62 := ⟨by kernel_rfl⟩
instance : Callb Tryz.prog 63 := ⟨by kernel_rfl⟩
instance : Callb Tryz.prog 64 := ⟨by kernel_rfl⟩
instance : Callb Tryz.prog 65 := ⟨by kernel_rfl⟩
instance : Callb Tryz.prog 66 := ⟨by kernel_rfl⟩
instance : Callb Tryz.prog 67 := ⟨by kernel_rfl⟩
instance : Callb Tryz.prog 68 := ⟨by kernel_rfl⟩
instance : Callb Tryz.prog 69 := ⟨by kernel_rfl⟩
instance : Callb Tryz.prog 70 := ⟨by kernel_rfl⟩
instance : Callb Tryz.prog 71 := ⟨by kernel_rfl⟩
instance : Callb Tryz.prog 72 := ⟨by kernel_rfl⟩
instance : Callb Tryz.prog 73 := ⟨by kernel_rfl⟩
instance : Callb Tryz.prog 74 := ⟨by kernel_rfl⟩
instance : Callb Tryz.prog 75 := ⟨by kernel_rfl⟩
instance : Callb Tryz.prog 76 := ⟨by kernel_rfl⟩
instance : Callb Tryz.prog 77 := ⟨by kernel_rfl⟩
instance : Callb Tryz.prog 78 := ⟨by kernel_rfl⟩
instance : Callb Tryz.prog 79 := ⟨by kernel_rfl⟩
instance : Callb Tryz.prog 80 := ⟨by kernel_rfl⟩
instance : Callb Tryz.prog 81 := ⟨by kernel_rfl⟩
instance : Callb Tryz.prog 82 := ⟨by kernel_rfl⟩
instance : Callb Tryz.prog 83 := ⟨by kernel_rfl⟩
instance : Callb Tryz.prog 84 := ⟨by kernel_rfl⟩
instance : Callb Tryz.prog 85 := ⟨by kernel_rfl⟩
instance : Callb Tryz.prog 86 := ⟨by kernel_rfl⟩
instance : Callb Tryz.prog 87 := ⟨by kernel_rfl⟩
instance : Callb Tryz.prog 88 := ⟨by kernel_rfl⟩
instance : Callb Tryz.prog 89 := ⟨by kernel_rfl⟩
instance : Callb Tryz.prog 90 := ⟨by kernel_rfl⟩
instance : Callb Tryz.prog 91 := ⟨by kernel_rfl⟩
instance : Callb Tryz.prog 92 := ⟨by kernel_rfl⟩
instance : Callb Tryz.prog 93 := ⟨by kernel_rfl⟩
instance : Callb Tryz.prog 94 := ⟨by kernel_rfl⟩
instance : Callb Tryz.prog 95 := ⟨by kernel_rfl⟩
instance : Callb Tryz.prog 96 := ⟨by kernel_rfl⟩
instance : Callb Tryz.prog 97 := ⟨by kernel_rfl⟩
instance : Callb Tryz.prog 98 := ⟨by kernel_rfl⟩
instance : Callb Tryz.prog 99 := ⟨by kernel_rfl⟩
instance : Callb Tryz.prog 100 := ⟨by kernel_rfl⟩
instance : Callb Tryz.prog 101 := ⟨by kernel_rfl⟩
instance : Callb Tryz.prog 102 := ⟨by kernel_rfl⟩
instance : Callb Tryz.prog 103 := ⟨by kernel_rfl⟩
instance : Callb Tryz.prog 104 := ⟨by kernel_rfl⟩
instance : Callb Tryz.prog 105 := ⟨by kernel_rfl⟩
instance : Callb Tryz.prog 106 := ⟨by kernel_rfl⟩
instance : Callb Tryz.prog 107 := ⟨by kernel_rfl⟩
instance : Callb Tryz.prog 108 := ⟨by kernel_rfl⟩
instance : Callb Tryz.prog 109 := ⟨by kernel_rfl⟩
instance : Callb Tryz.prog 110 := ⟨by kernel_rfl⟩
instance : Callb Tryz.prog 111 := ⟨by kernel_rfl⟩
instance : Callb Tryz.prog 112 := ⟨by kernel_rfl⟩
instance : Callb Tryz.prog 113 := ⟨by kernel_rfl⟩
instance : Callb Tryz.prog 114 := ⟨by kernel_rfl⟩
instance : Callb Tryz.prog 115 := ⟨by kernel_rfl⟩
instance : Callb Tryz.prog 116 := ⟨by kernel_rfl⟩
instance : Callb Tryz.prog 117 := ⟨by kernel_rfl⟩
instance : Callb Tryz.prog 119 := ⟨by kernel_rfl⟩
instance : Callb Tryz.prog 120 := ⟨by kernel_rfl⟩
instance : Callb Tryz.prog 121 := ⟨by kernel_rfl⟩
instance : Callb Tryz.prog 122 := ⟨by kernel_rfl⟩
instance : Callb Tryz.prog 123 := ⟨by kernel_rfl⟩
instance : Callb Tryz.prog 124 := ⟨by kernel_rfl⟩
instance : Callb Tryz.prog 125 := ⟨by kernel_rfl⟩
instance : Callb Tryz.prog 126 := ⟨by kernel_rfl⟩
instance : Callb Tryz.prog 127 := ⟨by kernel_rfl⟩
instance : Callb Tryz.prog 128 := ⟨by kernel_rfl⟩
instance : Callb Tryz.prog 129 := ⟨by kernel_rfl⟩
instance : Callb Tryz.prog 130 := ⟨by kernel_rfl⟩
instance : Callb Tryz.prog 131 := ⟨by kernel_rfl⟩
instance : Callb Tryz.prog 132 := ⟨by kernel_rfl⟩
instance : Callb Tryz.prog 133 := ⟨by kernel_rfl⟩
instance : Callb Tryz.prog 134 := ⟨by kernel_rfl⟩
instance : Callb Tryz.prog 135 := ⟨by kernel_rfl⟩
instance : Callb Tryz.prog 136 := ⟨by kernel_rfl⟩
instance : Callb Tryz.prog 137 := ⟨by kernel_rfl⟩
instance : Callb Tryz.prog 138 := ⟨by kernel_rfl⟩
instance : Callb Tryz.prog 139 := ⟨by kernel_rfl⟩
instance : Callb Tryz.prog 140 := ⟨by kernel_rfl⟩
instance : Callb Tryz.prog 141 := ⟨by kernel_rfl⟩
instance : Callb Tryz.prog 142 := ⟨by kernel_rfl⟩
instance : Callb Tryz.prog 143 := ⟨by kernel_rfl⟩
instance : Callb Tryz.prog 144 := ⟨by kernel_rfl⟩
instance : Callb Tryz.prog 145 := ⟨by kernel_rfl⟩
instance : Callb Tryz.prog 146 := ⟨by kernel_rfl⟩
instance : Callb Tryz.prog 147 := ⟨by kernel_rfl⟩
instance : Callb Tryz.prog 148 := ⟨by kernel_rfl⟩
instance : Callb Tryz.prog 149 := ⟨by kernel_rfl⟩
instance : Callb Tryz.prog 150 := ⟨by kernel_rfl⟩
instance : Callb Tryz.prog 151 := ⟨by kernel_rfl⟩
instance : Callb Tryz.prog 152 := ⟨by kernel_rfl⟩
instance : Callb Tryz.prog 153 := ⟨by kernel_rfl⟩
instance : Callb Tryz.prog 154 := ⟨by kernel_rfl⟩
instance : Callb Tryz.prog 171 := ⟨by kernel_rfl⟩
instance : Und Tryz.prog 3 (.int .i64) := ⟨Tryz.underlying3⟩
instance : Inf Tryz.prog 3 [.int .i64 0] 1 8 := ⟨by kernel_rfl⟩
instance : One Tryz.prog 3 := ⟨by kernel_rfl⟩
instance : Phys Tryz.prog 3 Int inferInstance := ⟨trivial⟩
instance : Und Tryz.prog 4 (.bool) := ⟨Tryz.underlying4⟩
instance : Inf Tryz.prog 4 [.bool false] 1 1 := ⟨by kernel_rfl⟩
instance : One Tryz.prog 4 := ⟨by kernel_rfl⟩
instance : Phys Tryz.prog 4 Bool inferInstance := ⟨trivial⟩
instance : Und Tryz.prog 5 (.int .u8) := ⟨Tryz.underlying5⟩
instance : Inf Tryz.prog 5 [.int .u8 0] 1 1 := ⟨by kernel_rfl⟩
instance : One Tryz.prog 5 := ⟨by kernel_rfl⟩
instance : Phys Tryz.prog 5 (KInt .u8) inferInstance := ⟨trivial⟩
instance : Und Tryz.prog 9 (.string) := ⟨Tryz.underlying9⟩
instance : Inf Tryz.prog 9 [.string ⟨#[]⟩] 1 16 := ⟨by kernel_rfl⟩
instance : One Tryz.prog 9 := ⟨by kernel_rfl⟩
instance : Phys Tryz.prog 9 ByteArray inferInstance := ⟨trivial⟩
instance : Inf Tryz.prog 22 [.int .i64 0, .int .i64 0, .int .i64 0] 3 24 := ⟨by kernel_rfl⟩
instance : Agg Tryz.prog 22 3 := ⟨by kernel_rfl⟩
instance : Und Tryz.prog 23 (.slice 27) := ⟨Tryz.underlying23⟩
instance : Inf Tryz.prog 23 [.slice none 0 0] 1 24 := ⟨by kernel_rfl⟩
instance : One Tryz.prog 23 := ⟨by kernel_rfl⟩
instance : Phys Tryz.prog 23 SV inferInstance := ⟨trivial⟩
instance : Und Tryz.prog 27 (.slice 84) := ⟨Tryz.underlying27⟩
instance : Inf Tryz.prog 27 [.slice none 0 0] 1 24 := ⟨by kernel_rfl⟩
instance : One Tryz.prog 27 := ⟨by kernel_rfl⟩
instance : Phys Tryz.prog 27 SV inferInstance := ⟨trivial⟩
instance : Und Tryz.prog 29 (.pointer 93) := ⟨Tryz.underlying29⟩
instance : Inf Tryz.prog 29 [.pointer none] 1 8 := ⟨by kernel_rfl⟩
instance : One Tryz.prog 29 := ⟨by kernel_rfl⟩
instance : Phys Tryz.prog 29 (Option Addr) inferInstance := ⟨trivial⟩
instance : Und Tryz.prog 30 (.int .i64) := ⟨Tryz.underlying30⟩
instance : Inf Tryz.prog 30 [.int .i64 0] 1 8 := ⟨by kernel_rfl⟩
instance : One Tryz.prog 30 := ⟨by kernel_rfl⟩
instance : Phys Tryz.prog 30 Int inferInstance := ⟨trivial⟩
instance : Und Tryz.prog 33 (.pointer 37) := ⟨Tryz.underlying33⟩
instance : Inf Tryz.prog 33 [.pointer none] 1 8 := ⟨by kernel_rfl⟩
instance : One Tryz.prog 33 := ⟨by kernel_rfl⟩
instance : Phys Tryz.prog 33 (Option Addr) inferInstance := ⟨trivial⟩
instance : Und Tryz.prog 34 (.slice 9) := ⟨Tryz.underlying34⟩
instance : Inf Tryz.prog 34 [.slice none 0 0] 1 24 := ⟨by kernel_rfl⟩
instance : One Tryz.prog 34 := ⟨by kernel_rfl⟩
instance : Phys Tryz.prog 34 SV inferInstance := ⟨trivial⟩
instance : Und Tryz.prog 35 (.slice 4) := ⟨Tryz.underlying35⟩
instance : Inf Tryz.prog 35 [.slice none 0 0] 1 24 := ⟨by kernel_rfl⟩
instance : One Tryz.prog 35 := ⟨by kernel_rfl⟩
instance : Phys Tryz.prog 35 SV inferInstance := ⟨trivial⟩
instance : Inf Tryz.prog 37 [.int .i64 0, .int .i64 0, .slice none 0 0, .slice none 0 0, .int .i64 0] 5 72 := ⟨by kernel_rfl⟩
instance : Agg Tryz.prog 37 5 := ⟨by kernel_rfl⟩
instance : Phys Tryz.prog 37 (Int × Int × SV × SV × Int) inferInstance := ⟨trivial⟩
instance : Und Tryz.prog 38 (.slice 44) := ⟨Tryz.underlying38⟩
instance : Inf Tryz.prog 38 [.slice none 0 0] 1 24 := ⟨by kernel_rfl⟩
instance : One Tryz.prog 38 := ⟨by kernel_rfl⟩
instance : Phys Tryz.prog 38 SV inferInstance := ⟨trivial⟩
instance : Und Tryz.prog 39 (.slice 49) := ⟨Tryz.underlying39⟩
instance : Inf Tryz.prog 39 [.slice none 0 0] 1 24 := ⟨by kernel_rfl⟩
instance : One Tryz.prog 39 := ⟨by kernel_rfl⟩
instance : Phys Tryz.prog 39 SV inferInstance := ⟨trivial⟩
instance : Und Tryz.prog 42 (.slice 3) := ⟨Tryz.underlying42⟩
instance : Inf Tryz.prog 42 [.slice none 0 0] 1 24 := ⟨by kernel_rfl⟩
instance : One Tryz.prog 42 := ⟨by kernel_rfl⟩
instance : Phys Tryz.prog 42 SV inferInstance := ⟨trivial⟩
instance : Inf Tryz.prog 44 [.int .i64 0, .int .i64 0, .slice none 0 0] 3 40 := ⟨by kernel_rfl⟩
instance : Agg Tryz.prog 44 3 := ⟨by kernel_rfl⟩
instance : Phys Tryz.prog 44 (Int × Int × SV) inferInstance := ⟨trivial⟩
instance : Inf Tryz.prog 49 [.slice none 0 0, .slice none 0 0] 2 48 := ⟨by kernel_rfl⟩
instance : Agg Tryz.prog 49 2 := ⟨by kernel_rfl⟩
instance : Phys Tryz.prog 49 (SV × SV) inferInstance := ⟨trivial⟩
instance : Und Tryz.prog 61 (.slice 42) := ⟨Tryz.underlying61⟩
instance : Inf Tryz.prog 61 [.slice none 0 0] 1 24 := ⟨by kernel_rfl⟩
instance : One Tryz.prog 61 := ⟨by kernel_rfl⟩
instance : Phys Tryz.prog 61 SV inferInstance := ⟨trivial⟩
instance : Inf Tryz.prog 63 [.int .i64 0, .int .i64 0, .int .i64 0] 3 24 := ⟨by kernel_rfl⟩
instance : Agg Tryz.prog 63 3 := ⟨by kernel_rfl⟩
instance : Phys Tryz.prog 63 (Int × Int × Int) inferInstance := ⟨trivial⟩
instance : Inf Tryz.prog 66 [.int .i64 0, .int .i64 0, .int .i64 0, .int .i64 0] 4 32 := ⟨by kernel_rfl⟩
instance : Agg Tryz.prog 66 4 := ⟨by kernel_rfl⟩
instance : Phys Tryz.prog 66 (Int × Int × Int × Int) inferInstance := ⟨trivial⟩
instance : Inf Tryz.prog 73 [.int .i64 0, .int .i64 0, .int .i64 0, .int .i64 0] 4 32 := ⟨by kernel_rfl⟩
instance : Agg Tryz.prog 73 4 := ⟨by kernel_rfl⟩
instance : Inf Tryz.prog 75 [.int .i64 0, .int .i64 0, .int .i64 0, .int .i64 0, .int .i64 0, .int .i64 0] 6 48 := ⟨by kernel_rfl⟩
instance : Agg Tryz.prog 75 6 := ⟨by kernel_rfl⟩
instance : Und Tryz.prog 76 (.slice 66) := ⟨Tryz.underlying76⟩
instance : Inf Tryz.prog 76 [.slice none 0 0] 1 24 := ⟨by kernel_rfl⟩
instance : One Tryz.prog 76 := ⟨by kernel_rfl⟩
instance : Phys Tryz.prog 76 SV inferInstance := ⟨trivial⟩
instance : Inf Tryz.prog 84 [.slice none 0 0, .int .i64 0] 2 32 := ⟨by kernel_rfl⟩
instance : Agg Tryz.prog 84 2 := ⟨by kernel_rfl⟩
instance : Phys Tryz.prog 84 (SV × Int) inferInstance := ⟨trivial⟩
instance : Und Tryz.prog 90 (.int .u64) := ⟨Tryz.underlying90⟩
instance : Inf Tryz.prog 90 [.int .u64 0] 1 8 := ⟨by kernel_rfl⟩
instance : One Tryz.prog 90 := ⟨by kernel_rfl⟩
instance : Phys Tryz.prog 90 (KInt .u64) inferInstance := ⟨trivial⟩
instance : Und Tryz.prog 91 (.slice 187) := ⟨Tryz.underlying91⟩
instance : Inf Tryz.prog 91 [.slice none 0 0] 1 24 := ⟨by kernel_rfl⟩
instance : One Tryz.prog 91 := ⟨by kernel_rfl⟩
instance : Phys Tryz.prog 91 SV inferInstance := ⟨trivial⟩
instance : Inf Tryz.prog 93 [.int .i64 0, .int .i64 0, .slice none 0 0, .int .i64 0, .int .i64 0, .int .i64 0] 6 64 := ⟨by kernel_rfl⟩
instance : Agg Tryz.prog 93 6 := ⟨by kernel_rfl⟩
instance : Phys Tryz.prog 93 (Int × Int × SV × Int × Int × Int) inferInstance := ⟨trivial⟩
instance : Und Tryz.prog 108 (.pointer 158) := ⟨Tryz.underlying108⟩
instance : Inf Tryz.prog 108 [.pointer none] 1 8 := ⟨by kernel_rfl⟩
instance : One Tryz.prog 108 := ⟨by kernel_rfl⟩
instance : Phys Tryz.prog 108 (Option Addr) inferInstance := ⟨trivial⟩
instance : Und Tryz.prog 115 (.pointer 118) := ⟨Tryz.underlying115⟩
instance : Inf Tryz.prog 115 [.pointer none] 1 8 := ⟨by kernel_rfl⟩
instance : One Tryz.prog 115 := ⟨by kernel_rfl⟩
instance : Phys Tryz.prog 115 (Option Addr) inferInstance := ⟨trivial⟩
instance : Und Tryz.prog 116 (.slice 5) := ⟨Tryz.underlying116⟩
instance : Inf Tryz.prog 116 [.slice none 0 0] 1 24 := ⟨by kernel_rfl⟩
instance : One Tryz.prog 116 := ⟨by kernel_rfl⟩
instance : Phys Tryz.prog 116 SV inferInstance := ⟨trivial⟩
instance : Inf Tryz.prog 118 [.slice none 0 0] 1 24 := ⟨by kernel_rfl⟩
instance : Agg Tryz.prog 118 1 := ⟨by kernel_rfl⟩
instance : Phys Tryz.prog 118 (SV) inferInstance := ⟨trivial⟩
instance : Und Tryz.prog 125 (.pointer 127) := ⟨Tryz.underlying125⟩
instance : Inf Tryz.prog 125 [.pointer none] 1 8 := ⟨by kernel_rfl⟩
instance : One Tryz.prog 125 := ⟨by kernel_rfl⟩
instance : Phys Tryz.prog 125 (Option Addr) inferInstance := ⟨trivial⟩
instance : Inf Tryz.prog 127 [.pointer none, .int .i64 0, .slice none 0 0, .slice none 0 0, .int .i64 0] 5 72 := ⟨by kernel_rfl⟩
instance : Agg Tryz.prog 127 5 := ⟨by kernel_rfl⟩
instance : Phys Tryz.prog 127 ((Option Addr) × Int × SV × SV × Int) inferInstance := ⟨trivial⟩
instance : Und Tryz.prog 133 (.pointer 174) := ⟨Tryz.underlying133⟩
instance : Inf Tryz.prog 133 [.pointer none] 1 8 := ⟨by kernel_rfl⟩
instance : One Tryz.prog 133 := ⟨by kernel_rfl⟩
instance : Phys Tryz.prog 133 (Option Addr) inferInstance := ⟨trivial⟩
instance : Inf Tryz.prog 136 [.slice none 0 0, .int .i64 0] 2 32 := ⟨by kernel_rfl⟩
instance : Agg Tryz.prog 136 2 := ⟨by kernel_rfl⟩
instance : Phys Tryz.prog 136 (SV × Int) inferInstance := ⟨trivial⟩
instance : Und Tryz.prog 145 (.map 3 3) := ⟨Tryz.underlying145⟩
instance : Inf Tryz.prog 145 [.map none] 1 8 := ⟨by kernel_rfl⟩
instance : One Tryz.prog 145 := ⟨by kernel_rfl⟩
instance : Phys Tryz.prog 145 Any inferInstance := ⟨trivial⟩
instance : Und Tryz.prog 149 (.pointer 151) := ⟨Tryz.underlying149⟩
instance : Inf Tryz.prog 149 [.pointer none] 1 8 := ⟨by kernel_rfl⟩
instance : One Tryz.prog 149 := ⟨by kernel_rfl⟩
instance : Phys Tryz.prog 149 (Option Addr) inferInstance := ⟨trivial⟩
instance : Inf Tryz.prog 151 [.pointer none, .slice none 0 0] 2 32 := ⟨by kernel_rfl⟩
instance : Agg Tryz.prog 151 2 := ⟨by kernel_rfl⟩
instance : Phys Tryz.prog 151 ((Option Addr) × SV) inferInstance := ⟨trivial⟩
instance : Inf Tryz.prog 158 [.string ⟨#[]⟩, .int .i64 0, .int .i64 0] 3 32 := ⟨by kernel_rfl⟩
instance : Agg Tryz.prog 158 3 := ⟨by kernel_rfl⟩
instance : Phys Tryz.prog 158 (ByteArray × Int × Int) inferInstance := ⟨trivial⟩
instance : Und Tryz.prog 163 (.int .u64) := ⟨Tryz.underlying163⟩
instance : Inf Tryz.prog 163 [.int .u64 0] 1 8 := ⟨by kernel_rfl⟩
instance : One Tryz.prog 163 := ⟨by kernel_rfl⟩
instance : Phys Tryz.prog 163 (KInt .u64) inferInstance := ⟨trivial⟩
instance : Und Tryz.prog 167 (.slice 169) := ⟨Tryz.underlying167⟩
instance : Inf Tryz.prog 167 [.slice none 0 0] 1 24 := ⟨by kernel_rfl⟩
instance : One Tryz.prog 167 := ⟨by kernel_rfl⟩
instance : Phys Tryz.prog 167 SV inferInstance := ⟨trivial⟩
instance : Und Tryz.prog 169 (.func #[194] #[] false) := ⟨Tryz.underlying169⟩
instance : Inf Tryz.prog 169 [.nilFunc] 1 8 := ⟨by kernel_rfl⟩
instance : One Tryz.prog 169 := ⟨by kernel_rfl⟩
instance : Phys Tryz.prog 169 Any inferInstance := ⟨trivial⟩
instance : Und Tryz.prog 171 (.func #[42] #[4] false) := ⟨Tryz.underlying171⟩
instance : Inf Tryz.prog 171 [.nilFunc] 1 8 := ⟨by kernel_rfl⟩
instance : One Tryz.prog 171 := ⟨by kernel_rfl⟩
instance : Phys Tryz.prog 171 Any inferInstance := ⟨trivial⟩
instance : Und Tryz.prog 172 (.slice 176) := ⟨Tryz.underlying172⟩
instance : Inf Tryz.prog 172 [.slice none 0 0] 1 24 := ⟨by kernel_rfl⟩
instance : One Tryz.prog 172 := ⟨by kernel_rfl⟩
instance : Phys Tryz.prog 172 SV inferInstance := ⟨trivial⟩
instance : Inf Tryz.prog 174 [.slice none 0 0, .int .i64 0] 2 32 := ⟨by kernel_rfl⟩
instance : Agg Tryz.prog 174 2 := ⟨by kernel_rfl⟩
instance : Phys Tryz.prog 174 (SV × Int) inferInstance := ⟨trivial⟩
instance : Inf Tryz.prog 176 [.slice none 0 0, .int .i64 0, .int .i64 0] 3 40 := ⟨by kernel_rfl⟩
instance : Agg Tryz.prog 176 3 := ⟨by kernel_rfl⟩
instance : Phys Tryz.prog 176 ((SV × Int) × Int) inferInstance := ⟨trivial⟩
instance : Und Tryz.prog 183 (.func #[105] #[] false) := ⟨Tryz.underlying183⟩
instance : Inf Tryz.prog 183 [.nilFunc] 1 8 := ⟨by kernel_rfl⟩
instance : One Tryz.prog 183 := ⟨by kernel_rfl⟩
instance : Phys Tryz.prog 183 Any inferInstance := ⟨trivial⟩
instance : Inf Tryz.prog 187 [.slice none 0 0, .bool false] 2 32 := ⟨by kernel_rfl⟩
instance : Agg Tryz.prog 187 2 := ⟨by kernel_rfl⟩
instance : Phys Tryz.prog 187 (SV × Bool) inferInstance := ⟨trivial⟩
instance : Und Tryz.prog 188 (.pointer 5) := ⟨Tryz.underlying188⟩
instance : Inf Tryz.prog 188 [.pointer none] 1 8 := ⟨by kernel_rfl⟩
instance : One Tryz.prog 188 := ⟨by kernel_rfl⟩
instance : Phys Tryz.prog 188 (Option Addr) inferInstance := ⟨trivial⟩
instance : Und Tryz.prog 190 (.func #[9] #[3, 30] false) := ⟨Tryz.underlying190⟩
instance : Inf Tryz.prog 190 [.nilFunc] 1 8 := ⟨by kernel_rfl⟩
instance : One Tryz.prog 190 := ⟨by kernel_rfl⟩
instance : Phys Tryz.prog 190 Any inferInstance := ⟨trivial⟩
instance : Und Tryz.prog 196 (.func #[84, 84] #[3] false) := ⟨Tryz.underlying196⟩
instance : Inf Tryz.prog 196 [.nilFunc] 1 8 := ⟨by kernel_rfl⟩
instance : One Tryz.prog 196 := ⟨by kernel_rfl⟩
instance : Phys Tryz.prog 196 Any inferInstance := ⟨trivial⟩
instance : Und Tryz.prog 206 (.int .i64) := ⟨Tryz.underlying206⟩
instance : Inf Tryz.prog 206 [.int .i64 0] 1 8 := ⟨by kernel_rfl⟩
instance : One Tryz.prog 206 := ⟨by kernel_rfl⟩
instance : Phys Tryz.prog 206 Int inferInstance := ⟨trivial⟩
instance : Und Tryz.prog 214 (.int .u32) := ⟨Tryz.underlying214⟩
instance : Inf Tryz.prog 214 [.int .u32 0] 1 4 := ⟨by kernel_rfl⟩
instance : One Tryz.prog 214 := ⟨by kernel_rfl⟩
instance : Phys Tryz.prog 214 (KInt .u32) inferInstance := ⟨trivial⟩
instance : Und Tryz.prog 221 (.int .u64) := ⟨Tryz.underlying221⟩
instance : Inf Tryz.prog 221 [.int .u64 0] 1 8 := ⟨by kernel_rfl⟩
instance : One Tryz.prog 221 := ⟨by kernel_rfl⟩
instance : Phys Tryz.prog 221 (KInt .u64) inferInstance := ⟨trivial⟩
instance : Und Tryz.prog 225 (.pointer 3) := ⟨Tryz.underlying225⟩
instance : Inf Tryz.prog 225 [.pointer none] 1 8 := ⟨by kernel_rfl⟩
instance : One Tryz.prog 225 := ⟨by kernel_rfl⟩
instance : Phys Tryz.prog 225 (Option Addr) inferInstance := ⟨trivial⟩
instance : MkI Tryz.prog 9 := ⟨fun _ _ => by kernel_rfl⟩
instance : MkI Tryz.prog 136 := ⟨fun _ _ => by kernel_rfl⟩
instance : IntsT Tryz.prog 66 4 := ⟨by kernel_rfl⟩
instance : StructT Tryz.prog 37 [3, 3, 34, 35, 3] := ⟨by kernel_rfl⟩
instance : StructT Tryz.prog 44 [3, 3, 42] := ⟨by kernel_rfl⟩
instance : StructT Tryz.prog 49 [42, 27] := ⟨by kernel_rfl⟩
instance : StructT Tryz.prog 63 [3, 3, 3] := ⟨by kernel_rfl⟩
instance : StructT Tryz.prog 66 [3, 3, 3, 3] := ⟨by kernel_rfl⟩
instance : StructT Tryz.prog 84 [42, 3] := ⟨by kernel_rfl⟩
instance : StructT Tryz.prog 93 [3, 3, 91, 3, 3, 3] := ⟨by kernel_rfl⟩
instance : StructT Tryz.prog 118 [116] := ⟨by kernel_rfl⟩
instance : StructT Tryz.prog 127 [29, 3, 27, 38, 3] := ⟨by kernel_rfl⟩
instance : StructT Tryz.prog 136 [27, 3] := ⟨by kernel_rfl⟩
instance : StructT Tryz.prog 151 [149, 116] := ⟨by kernel_rfl⟩
instance : StructT Tryz.prog 158 [9, 3, 30] := ⟨by kernel_rfl⟩
instance : StructT Tryz.prog 174 [172, 3] := ⟨by kernel_rfl⟩
instance : StructT Tryz.prog 176 [136, 3] := ⟨by kernel_rfl⟩
instance : StructT Tryz.prog 187 [116, 4] := ⟨by kernel_rfl⟩
instance : FieldO Tryz.prog 37 0 0 := ⟨by kernel_rfl⟩
instance : FieldO Tryz.prog 37 1 1 := ⟨by kernel_rfl⟩
instance : FieldO Tryz.prog 37 2 2 := ⟨by kernel_rfl⟩
instance : FieldO Tryz.prog 37 3 3 := ⟨by kernel_rfl⟩
instance : FieldO Tryz.prog 37 4 4 := ⟨by kernel_rfl⟩
instance : FieldO Tryz.prog 44 0 0 := ⟨by kernel_rfl⟩
instance : FieldO Tryz.prog 44 1 1 := ⟨by kernel_rfl⟩
instance : FieldO Tryz.prog 44 2 2 := ⟨by kernel_rfl⟩
instance : FieldO Tryz.prog 49 0 0 := ⟨by kernel_rfl⟩
instance : FieldO Tryz.prog 49 1 1 := ⟨by kernel_rfl⟩
instance : FieldO Tryz.prog 63 0 0 := ⟨by kernel_rfl⟩
instance : FieldO Tryz.prog 63 1 1 := ⟨by kernel_rfl⟩
instance : FieldO Tryz.prog 63 2 2 := ⟨by kernel_rfl⟩
instance : FieldO Tryz.prog 66 0 0 := ⟨by kernel_rfl⟩
instance : FieldO Tryz.prog 66 1 1 := ⟨by kernel_rfl⟩
instance : FieldO Tryz.prog 66 2 2 := ⟨by kernel_rfl⟩
instance : FieldO Tryz.prog 66 3 3 := ⟨by kernel_rfl⟩
instance : FieldO Tryz.prog 84 0 0 := ⟨by kernel_rfl⟩
instance : FieldO Tryz.prog 84 1 1 := ⟨by kernel_rfl⟩
instance : FieldO Tryz.prog 93 0 0 := ⟨by kernel_rfl⟩
instance : FieldO Tryz.prog 93 1 1 := ⟨by kernel_rfl⟩
instance : FieldO Tryz.prog 93 2 2 := ⟨by kernel_rfl⟩
instance : FieldO Tryz.prog 93 3 3 := ⟨by kernel_rfl⟩
instance : FieldO Tryz.prog 93 4 4 := ⟨by kernel_rfl⟩
instance : FieldO Tryz.prog 93 5 5 := ⟨by kernel_rfl⟩
instance : FieldO Tryz.prog 118 0 0 := ⟨by kernel_rfl⟩
instance : FieldO Tryz.prog 127 0 0 := ⟨by kernel_rfl⟩
instance : FieldO Tryz.prog 127 1 1 := ⟨by kernel_rfl⟩
instance : FieldO Tryz.prog 127 2 2 := ⟨by kernel_rfl⟩
instance : FieldO Tryz.prog 127 3 3 := ⟨by kernel_rfl⟩
instance : FieldO Tryz.prog 127 4 4 := ⟨by kernel_rfl⟩
instance : FieldO Tryz.prog 136 0 0 := ⟨by kernel_rfl⟩
instance : FieldO Tryz.prog 136 1 1 := ⟨by kernel_rfl⟩
instance : FieldO Tryz.prog 151 0 0 := ⟨by kernel_rfl⟩
instance : FieldO Tryz.prog 151 1 1 := ⟨by kernel_rfl⟩
instance : FieldO Tryz.prog 158 0 0 := ⟨by kernel_rfl⟩
instance : FieldO Tryz.prog 158 1 1 := ⟨by kernel_rfl⟩
instance : FieldO Tryz.prog 158 2 2 := ⟨by kernel_rfl⟩
instance : FieldO Tryz.prog 174 0 0 := ⟨by kernel_rfl⟩
instance : FieldO Tryz.prog 174 1 1 := ⟨by kernel_rfl⟩
instance : FieldO Tryz.prog 176 0 0 := ⟨by kernel_rfl⟩
instance : FieldO Tryz.prog 176 1 2 := ⟨by kernel_rfl⟩
instance : FieldO Tryz.prog 187 0 0 := ⟨by kernel_rfl⟩
instance : FieldO Tryz.prog 187 1 1 := ⟨by kernel_rfl⟩
instance : FieldV Tryz.prog 84 0 0 1 true := ⟨_, _, Tryz.underlying84, rfl, rfl, by first | (show oneTy _ _ = true; kernel_rfl) | (show aggTy _ _ = some _; kernel_rfl)⟩
instance : BInfo Tryz.prog 37 [.int .i64 0, .int .i64 0, .slice none 0 0, .slice none 0 0, .int .i64 0] [(0, 1), (1, 1), (2, 1), (3, 1), (4, 1)] := ⟨by kernel_rfl⟩
instance : BInfo Tryz.prog 44 [.int .i64 0, .int .i64 0, .slice none 0 0] [(0, 1), (1, 1), (2, 1)] := ⟨by kernel_rfl⟩
instance : BInfo Tryz.prog 49 [.slice none 0 0, .slice none 0 0] [(0, 1), (1, 1)] := ⟨by kernel_rfl⟩
instance : BInfo Tryz.prog 63 [.int .i64 0, .int .i64 0, .int .i64 0] [(0, 1), (1, 1), (2, 1)] := ⟨by kernel_rfl⟩
instance : BInfo Tryz.prog 66 [.int .i64 0, .int .i64 0, .int .i64 0, .int .i64 0] [(0, 1), (1, 1), (2, 1), (3, 1)] := ⟨by kernel_rfl⟩
instance : BInfo Tryz.prog 84 [.slice none 0 0, .int .i64 0] [(0, 1), (1, 1)] := ⟨by kernel_rfl⟩
instance : BInfo Tryz.prog 93 [.int .i64 0, .int .i64 0, .slice none 0 0, .int .i64 0, .int .i64 0, .int .i64 0] [(0, 1), (1, 1), (2, 1), (3, 1), (4, 1), (5, 1)] := ⟨by kernel_rfl⟩
instance : BInfo Tryz.prog 118 [.slice none 0 0] [(0, 1)] := ⟨by kernel_rfl⟩
instance : BInfo Tryz.prog 127 [.pointer none, .int .i64 0, .slice none 0 0, .slice none 0 0, .int .i64 0] [(0, 1), (1, 1), (2, 1), (3, 1), (4, 1)] := ⟨by kernel_rfl⟩
instance : BInfo Tryz.prog 136 [.slice none 0 0, .int .i64 0] [(0, 1), (1, 1)] := ⟨by kernel_rfl⟩
instance : BInfo Tryz.prog 158 [.string ⟨#[]⟩, .int .i64 0, .int .i64 0] [(0, 1), (1, 1), (2, 1)] := ⟨by kernel_rfl⟩
instance : BInfo Tryz.prog 174 [.slice none 0 0, .int .i64 0] [(0, 1), (1, 1)] := ⟨by kernel_rfl⟩
instance : BInfo Tryz.prog 176 [.slice none 0 0, .int .i64 0, .int .i64 0] [(0, 2), (2, 1)] := ⟨by kernel_rfl⟩
instance : BInfo Tryz.prog 187 [.slice none 0 0, .bool false] [(0, 1), (1, 1)] := ⟨by kernel_rfl⟩
end Go.Proofs.YtamnobjdgjbmbaaGreat
namespace Go.Proofs.YtamnobjdgjbmbaaGreat
open Go Go.Fw Go.RowKit
set_option linter.unusedVariables false
set_option linter.unusedSimpArgs false
set_option maxRecDepth 100000
set_option maxHeartbeats 16000000
set_option synthInstance.maxHeartbeats 200000
set_option synthInstance.maxSize 100000
attribute [local irreducible] WPA WLA WDA WDQ WDE QQ seqQ blockQ loopQ fnQ OpP OpT Tr TrP SL SLd OwnS LitS Bk BkE Ob
section
variable {L : List HP} {w0 : World} {I : Foot}
theorem Equal_tr {a b : SV} {xs ys : List Int} [ha : RdS I L a Int inferInstance xs] [hb : RdS I L b Int inferInstance ys] (hn : xs.length ≤ 1000000000) : TrP Tryz.prog 68 #[.slice a.a a.n a.cap, .slice b.a b.n b.cap] (SL w0 I L) (.bool (decide (xs = ys))) := by
  refine TrP.ofD fun u => Tr.intro Tryz.func68 rfl Tryz.ntmps68 rfl ?_
  by_cases hl : xs.length = ys.length
  · have hl' : ¬ (xs.length : Int) ≠ ys.length := by omega
    repeat' (first | ((first | refine WLA.m rfl rfl ?_ ?_ | refine WLA.st rfl ?_ ?_ | refine WLA.x rfl rfl ?_ (fun x => ?_) | refine WLA.x0 rfl ?_ (fun x => ?_)); first | exact trivial | exact rfl | assumption | omega | (refine ⟨?_, ?_⟩ <;> omega) | (simp only [Room, lenS]; omega) | decide | skip) | (refine Stp.go ?_) | (refine WPA.ifT ?_) | (refine WPA.ifF ?_) | ((first | refine WPA.dec ?_); first | refine .inl ⟨by first | assumption | omega | with_reducible rfl | (refine fun h => h ?_; first | assumption | with_reducible rfl) | (simp only [lenS] <;> omega) | decide, ?_⟩ | refine .inr ⟨by first | assumption | omega | with_reducible rfl | (refine fun h => h ?_; first | assumption | with_reducible rfl) | (simp only [lenS] <;> omega) | decide, ?_⟩) | ((first | refine WPA.ifBt ?_ ?_ | refine WPA.ifBnf ?_ ?_); assumption) | ((first | refine WPA.ifBnt ?_ ?_ | refine WPA.ifBf ?_ ?_); assumption) | ((first | refine WPA.ifs ?_ ?_ | refine WPA.ifB ?_ ?_) <;> intro hc))
    refine WPA.loopS (σ := Nat) (fun i => [(0, .slice a.a a.n a.cap), (1, .slice b.a b.n b.cap), (12, .int .i64 xs.length), (13, .int .i64 i)]) (fun i => i ≤ xs.length ∧ xs.take i = ys.take i)
      (fun i => SLd w0 I L u) (fun i => xs.length - i) 0 ⟨rfl, rfl, rfl, rfl, trivial⟩ ⟨Nat.zero_le _, by simp⟩ (fun w h => h) ?_
    rintro i ρ ⟨hi, he⟩
    by_cases hlt : i < xs.length
    · have hlt' : (i : Int) < xs.length := by omega
      have hx := at_nat xs i hlt
      have hy := at_nat ys i (by omega)
      by_cases hxy : at_ xs (i : Int) = at_ ys (i : Int)
      · have hxy' : ¬ at_ xs (i : Int) ≠ at_ ys (i : Int) := fun h => h hxy
        repeat' (first | ((first | refine WLA.m rfl rfl ?_ ?_ | refine WDQ.m rfl rfl ?_ ?_ | refine WLA.st rfl ?_ ?_ | refine WLA.x rfl rfl ?_ (fun x => ?_) | refine WLA.x0 rfl ?_ (fun x => ?_)); first | exact trivial | exact rfl | assumption | omega | (refine ⟨?_, ?_⟩ <;> omega) | (simp only [Room, lenS]; omega) | decide | skip) | (refine Stp.go ?_) | (refine WPA.ifT ?_) | (refine WPA.ifF ?_) | ((first | refine WPA.dec ?_); first | refine .inl ⟨by first | assumption | omega | with_reducible rfl | (refine fun h => h ?_; first | assumption | with_reducible rfl) | (simp only [lenS] <;> omega) | decide, ?_⟩ | refine .inr ⟨by first | assumption | omega | with_reducible rfl | (refine fun h => h ?_; first | assumption | with_reducible rfl) | (simp only [lenS] <;> omega) | decide, ?_⟩) | ((first | refine WPA.ifBt ?_ ?_ | refine WPA.ifBnf ?_ ?_); assumption) | ((first | refine WPA.ifBnt ?_ ?_ | refine WPA.ifBf ?_ ?_); assumption) | ((first | refine WPA.ifs ?_ ?_ | refine WPA.ifB ?_ ?_) <;> intro hc) | (guard_target =~ WPA _ _ _ (.region 6 _ true) _ _ _; refine WPA.drawT 8 (.q 0 (.q 1 (.q 2 (.q 3 (.q 4 (.q 5 (.q 6 (.q 7 .fin)))))))) mixed ?_ ?_; kernel_rfl) | (refine WDA.finish (tl := [⟨_, _, _, _, _, _⟩]) rfl ?_) | (refine WDQ.see rfl ?_))
        refine QQ.loopS (i + 1) ⟨rfl, rfl, rfl, rfl, trivial⟩ ⟨hlt, ?_⟩ (by omega) (fun w h => h)
        rw [List.take_add_one, List.take_add_one, he, List.getElem?_eq_getElem hlt, List.getElem?_eq_getElem (by omega), ← hx, ← hy, hxy]
      · have hxy' : at_ xs (i : Int) ≠ at_ ys (i : Int) := hxy
        repeat' (first | ((first | refine WLA.m rfl rfl ?_ ?_ | refine WDQ.m rfl rfl ?_ ?_ | refine WLA.st rfl ?_ ?_ | refine WLA.x rfl rfl ?_ (fun x => ?_) | refine WLA.x0 rfl ?_ (fun x => ?_)); first | exact trivial | exact rfl | assumption | omega | (refine ⟨?_, ?_⟩ <;> omega) | (simp only [Room, lenS]; omega) | decide | skip) | (refine Stp.go ?_) | (refine WPA.ifT ?_) | (refine WPA.ifF ?_) | ((first | refine WPA.dec ?_); first | refine .inl ⟨by first | assumption | omega | with_reducible rfl | (refine fun h => h ?_; first | assumption | with_reducible rfl) | (simp only [lenS] <;> omega) | decide, ?_⟩ | refine .inr ⟨by first | assumption | omega | with_reducible rfl | (refine fun h => h ?_; first | assumption | with_reducible rfl) | (simp only [lenS] <;> omega) | decide, ?_⟩) | ((first | refine WPA.ifBt ?_ ?_ | refine WPA.ifBnf ?_ ?_); assumption) | ((first | refine WPA.ifBnt ?_ ?_ | refine WPA.ifBf ?_ ?_); assumption) | ((first | refine WPA.ifs ?_ ?_ | refine WPA.ifB ?_ ?_) <;> intro hc) | (guard_target =~ WPA _ _ _ (.region 6 _ true) _ _ _; refine WPA.drawT 8 (.q 0 (.q 1 (.q 2 (.q 3 (.q 4 (.q 5 (.q 6 (.q 7 .fin)))))))) mixed ?_ ?_; kernel_rfl) | (refine WDA.finish (tl := [⟨_, _, _, _, _, _⟩]) rfl ?_) | (refine WDQ.see rfl ?_))
        refine QQ.end_ rfl () (congrArg Value.bool (decide_eq_false fun e => hxy ?_).symm) fun w h => h
        subst e; rfl
    · have hlt' : ¬ (i : Int) < xs.length := by omega
      repeat' (first | ((first | refine WLA.m rfl rfl ?_ ?_ | refine WDQ.m rfl rfl ?_ ?_ | refine WLA.st rfl ?_ ?_ | refine WLA.x rfl rfl ?_ (fun x => ?_) | refine WLA.x0 rfl ?_ (fun x => ?_)); first | exact trivial | exact rfl | assumption | omega | (refine ⟨?_, ?_⟩ <;> omega) | (simp only [Room, lenS]; omega) | decide | skip) | (refine Stp.go ?_) | (refine WPA.ifT ?_) | (refine WPA.ifF ?_) | ((first | refine WPA.dec ?_); first | refine .inl ⟨by first | assumption | omega | with_reducible rfl | (refine fun h => h ?_; first | assumption | with_reducible rfl) | (simp only [lenS] <;> omega) | decide, ?_⟩ | refine .inr ⟨by first | assumption | omega | with_reducible rfl | (refine fun h => h ?_; first | assumption | with_reducible rfl) | (simp only [lenS] <;> omega) | decide, ?_⟩) | ((first | refine WPA.ifBt ?_ ?_ | refine WPA.ifBnf ?_ ?_); assumption) | ((first | refine WPA.ifBnt ?_ ?_ | refine WPA.ifBf ?_ ?_); assumption) | ((first | refine WPA.ifs ?_ ?_ | refine WPA.ifB ?_ ?_) <;> intro hc) | (guard_target =~ WPA _ _ _ (.region 6 _ true) _ _ _; refine WPA.drawT 8 (.q 0 (.q 1 (.q 2 (.q 3 (.q 4 (.q 5 (.q 6 (.q 7 .fin)))))))) mixed ?_ ?_; kernel_rfl) | (refine WDA.finish (tl := [⟨_, _, _, _, _, _⟩]) rfl ?_) | (refine WDQ.see rfl ?_))
      refine QQ.end_ rfl () (congrArg Value.bool (decide_eq_true ?_).symm) fun w h => h
      rw [List.take_of_length_le (by omega), List.take_of_length_le (by omega)] at he
      exact he
  · have hl' : (xs.length : Int) ≠ ys.length := by omega
    repeat' (first | ((first | refine WLA.m rfl rfl ?_ ?_ | refine WLA.st rfl ?_ ?_ | refine WLA.x rfl rfl ?_ (fun x => ?_) | refine WLA.x0 rfl ?_ (fun x => ?_)); first | exact trivial | exact rfl | assumption | omega | (refine ⟨?_, ?_⟩ <;> omega) | (simp only [Room, lenS]; omega) | decide | skip) | (refine Stp.go ?_) | (refine WPA.ifT ?_) | (refine WPA.ifF ?_) | ((first | refine WPA.dec ?_); first | refine .inl ⟨by first | assumption | omega | with_reducible rfl | (refine fun h => h ?_; first | assumption | with_reducible rfl) | (simp only [lenS] <;> omega) | decide, ?_⟩ | refine .inr ⟨by first | assumption | omega | with_reducible rfl | (refine fun h => h ?_; first | assumption | with_reducible rfl) | (simp only [lenS] <;> omega) | decide, ?_⟩) | ((first | refine WPA.ifBt ?_ ?_ | refine WPA.ifBnf ?_ ?_); assumption) | ((first | refine WPA.ifBnt ?_ ?_ | refine WPA.ifBf ?_ ?_); assumption) | ((first | refine WPA.ifs ?_ ?_ | refine WPA.ifB ?_ ?_) <;> intro hc))
    exact QQ.end_ rfl () (congrArg Value.bool (decide_eq_false fun e => hl (by rw [e])).symm) fun w h => h
theorem Ints_tr {a b : SV} {xs ys : List Int} [ha : RdS I L a Int inferInstance xs] [hb : RdS I L b Int inferInstance ys] (hn : xs.length ≤ 1000000000) : TrP Tryz.prog 21 #[.slice a.a a.n a.cap, .slice b.a b.n b.cap] (SL w0 I L) (.bool (decide (xs = ys))) := by
  refine TrP.ofD fun u => Tr.intro Tryz.func21 rfl Tryz.ntmps21 rfl ?_
  by_cases hl : xs.length = ys.length
  · have hl' : ¬ (xs.length : Int) ≠ ys.length := by omega
    repeat' (first | ((first | refine WLA.m rfl rfl ?_ ?_ | refine WLA.st rfl ?_ ?_ | refine WLA.x rfl rfl ?_ (fun x => ?_) | refine WLA.x0 rfl ?_ (fun x => ?_)); first | exact trivial | exact rfl | assumption | omega | (refine ⟨?_, ?_⟩ <;> omega) | (simp only [Room, lenS]; omega) | decide | skip) | (refine Stp.go ?_) | (refine WPA.ifT ?_) | (refine WPA.ifF ?_) | ((first | refine WPA.dec ?_); first | refine .inl ⟨by first | assumption | omega | with_reducible rfl | (refine fun h => h ?_; first | assumption | with_reducible rfl) | (simp only [lenS] <;> omega) | decide, ?_⟩ | refine .inr ⟨by first | assumption | omega | with_reducible rfl | (refine fun h => h ?_; first | assumption | with_reducible rfl) | (simp only [lenS] <;> omega) | decide, ?_⟩) | ((first | refine WPA.ifBt ?_ ?_ | refine WPA.ifBnf ?_ ?_); assumption) | ((first | refine WPA.ifBnt ?_ ?_ | refine WPA.ifBf ?_ ?_); assumption) | ((first | refine WPA.ifs ?_ ?_ | refine WPA.ifB ?_ ?_) <;> intro hc))
    refine WPA.loopS (σ := Nat) (fun i => [(0, .slice a.a a.n a.cap), (1, .slice b.a b.n b.cap), (5, .int .i64 i)]) (fun i => i ≤ xs.length ∧ xs.take i = ys.take i)
      (fun i => SLd w0 I L u) (fun i => xs.length - i) 0 ⟨rfl, rfl, rfl, trivial⟩ ⟨Nat.zero_le _, by simp⟩ (fun w h => h) ?_
    rintro i ρ ⟨hi, he⟩
    by_cases hlt : i < xs.length
    · have hlt' : (i : Int) < xs.length := by omega
      have hx := at_nat xs i hlt
      have hy := at_nat ys i (by omega)
      by_cases hxy : at_ xs (i : Int) = at_ ys (i : Int)
      · have hxy' : ¬ at_ xs (i : Int) ≠ at_ ys (i : Int) := fun h => h hxy
        repeat' (first | ((first | refine WLA.m rfl rfl ?_ ?_ | refine WDQ.m rfl rfl ?_ ?_ | refine WLA.st rfl ?_ ?_ | refine WLA.x rfl rfl ?_ (fun x => ?_) | refine WLA.x0 rfl ?_ (fun x => ?_)); first | exact trivial | exact rfl | assumption | omega | (refine ⟨?_, ?_⟩ <;> omega) | (simp only [Room, lenS]; omega) | decide | skip) | (refine Stp.go ?_) | (refine WPA.ifT ?_) | (refine WPA.ifF ?_) | ((first | refine WPA.dec ?_); first | refine .inl ⟨by first | assumption | omega | with_reducible rfl | (refine fun h => h ?_; first | assumption | with_reducible rfl) | (simp only [lenS] <;> omega) | decide, ?_⟩ | refine .inr ⟨by first | assumption | omega | with_reducible rfl | (refine fun h => h ?_; first | assumption | with_reducible rfl) | (simp only [lenS] <;> omega) | decide, ?_⟩) | ((first | refine WPA.ifBt ?_ ?_ | refine WPA.ifBnf ?_ ?_); assumption) | ((first | refine WPA.ifBnt ?_ ?_ | refine WPA.ifBf ?_ ?_); assumption) | ((first | refine WPA.ifs ?_ ?_ | refine WPA.ifB ?_ ?_) <;> intro hc) | (guard_target =~ WPA _ _ _ (.region 6 _ true) _ _ _; refine WPA.drawT 8 (.q 0 (.q 1 (.q 2 (.q 3 (.q 4 (.q 5 (.q 6 (.q 7 .fin)))))))) mixed ?_ ?_; kernel_rfl) | (refine WDA.finish (tl := [⟨_, _, _, _, _, _⟩]) rfl ?_) | (refine WDQ.see rfl ?_))
        refine QQ.loopS (i + 1) ⟨rfl, rfl, rfl, trivial⟩ ⟨hlt, ?_⟩ (by omega) (fun w h => h)
        rw [List.take_add_one, List.take_add_one, he, List.getElem?_eq_getElem hlt, List.getElem?_eq_getElem (by omega), ← hx, ← hy, hxy]
      · have hxy' : at_ xs (i : Int) ≠ at_ ys (i : Int) := hxy
        repeat' (first | ((first | refine WLA.m rfl rfl ?_ ?_ | refine WDQ.m rfl rfl ?_ ?_ | refine WLA.st rfl ?_ ?_ | refine WLA.x rfl rfl ?_ (fun x => ?_) | refine WLA.x0 rfl ?_ (fun x => ?_)); first | exact trivial | exact rfl | assumption | omega | (refine ⟨?_, ?_⟩ <;> omega) | (simp only [Room, lenS]; omega) | decide | skip) | (refine Stp.go ?_) | (refine WPA.ifT ?_) | (refine WPA.ifF ?_) | ((first | refine WPA.dec ?_); first | refine .inl ⟨by first | assumption | omega | with_reducible rfl | (refine fun h => h ?_; first | assumption | with_reducible rfl) | (simp only [lenS] <;> omega) | decide, ?_⟩ | refine .inr ⟨by first | assumption | omega | with_reducible rfl | (refine fun h => h ?_; first | assumption | with_reducible rfl) | (simp only [lenS] <;> omega) | decide, ?_⟩) | ((first | refine WPA.ifBt ?_ ?_ | refine WPA.ifBnf ?_ ?_); assumption) | ((first | refine WPA.ifBnt ?_ ?_ | refine WPA.ifBf ?_ ?_); assumption) | ((first | refine WPA.ifs ?_ ?_ | refine WPA.ifB ?_ ?_) <;> intro hc) | (guard_target =~ WPA _ _ _ (.region 6 _ true) _ _ _; refine WPA.drawT 8 (.q 0 (.q 1 (.q 2 (.q 3 (.q 4 (.q 5 (.q 6 (.q 7 .fin)))))))) mixed ?_ ?_; kernel_rfl) | (refine WDA.finish (tl := [⟨_, _, _, _, _, _⟩]) rfl ?_) | (refine WDQ.see rfl ?_))
        refine QQ.end_ rfl () (congrArg Value.bool (decide_eq_false fun e => hxy ?_).symm) fun w h => h
        subst e; rfl
    · have hlt' : ¬ (i : Int) < xs.length := by omega
      repeat' (first | ((first | refine WLA.m rfl rfl ?_ ?_ | refine WDQ.m rfl rfl ?_ ?_ | refine WLA.st rfl ?_ ?_ | refine WLA.x rfl rfl ?_ (fun x => ?_) | refine WLA.x0 rfl ?_ (fun x => ?_)); first | exact trivial | exact rfl | assumption | omega | (refine ⟨?_, ?_⟩ <;> omega) | (simp only [Room, lenS]; omega) | decide | skip) | (refine Stp.go ?_) | (refine WPA.ifT ?_) | (refine WPA.ifF ?_) | ((first | refine WPA.dec ?_); first | refine .inl ⟨by first | assumption | omega | with_reducible rfl | (refine fun h => h ?_; first | assumption | with_reducible rfl) | (simp only [lenS] <;> omega) | decide, ?_⟩ | refine .inr ⟨by first | assumption | omega | with_reducible rfl | (refine fun h => h ?_; first | assumption | with_reducible rfl) | (simp only [lenS] <;> omega) | decide, ?_⟩) | ((first | refine WPA.ifBt ?_ ?_ | refine WPA.ifBnf ?_ ?_); assumption) | ((first | refine WPA.ifBnt ?_ ?_ | refine WPA.ifBf ?_ ?_); assumption) | ((first | refine WPA.ifs ?_ ?_ | refine WPA.ifB ?_ ?_) <;> intro hc) | (guard_target =~ WPA _ _ _ (.region 6 _ true) _ _ _; refine WPA.drawT 8 (.q 0 (.q 1 (.q 2 (.q 3 (.q 4 (.q 5 (.q 6 (.q 7 .fin)))))))) mixed ?_ ?_; kernel_rfl) | (refine WDA.finish (tl := [⟨_, _, _, _, _, _⟩]) rfl ?_) | (refine WDQ.see rfl ?_))
      refine QQ.end_ rfl () (congrArg Value.bool (decide_eq_true ?_).symm) fun w h => h
      rw [List.take_of_length_le (by omega), List.take_of_length_le (by omega)] at he
      exact he
  · have hl' : (xs.length : Int) ≠ ys.length := by omega
    repeat' (first | ((first | refine WLA.m rfl rfl ?_ ?_ | refine WLA.st rfl ?_ ?_ | refine WLA.x rfl rfl ?_ (fun x => ?_) | refine WLA.x0 rfl ?_ (fun x => ?_)); first | exact trivial | exact rfl | assumption | omega | (refine ⟨?_, ?_⟩ <;> omega) | (simp only [Room, lenS]; omega) | decide | skip) | (refine Stp.go ?_) | (refine WPA.ifT ?_) | (refine WPA.ifF ?_) | ((first | refine WPA.dec ?_); first | refine .inl ⟨by first | assumption | omega | with_reducible rfl | (refine fun h => h ?_; first | assumption | with_reducible rfl) | (simp only [lenS] <;> omega) | decide, ?_⟩ | refine .inr ⟨by first | assumption | omega | with_reducible rfl | (refine fun h => h ?_; first | assumption | with_reducible rfl) | (simp only [lenS] <;> omega) | decide, ?_⟩) | ((first | refine WPA.ifBt ?_ ?_ | refine WPA.ifBnf ?_ ?_); assumption) | ((first | refine WPA.ifBnt ?_ ?_ | refine WPA.ifBf ?_ ?_); assumption) | ((first | refine WPA.ifs ?_ ?_ | refine WPA.ifB ?_ ?_) <;> intro hc))
    exact QQ.end_ rfl () (congrArg Value.bool (decide_eq_false fun e => hl (by rw [e])).symm) fun w h => h
end
end Go.Proofs.YtamnobjdgjbmbaaGreat
namespace Go.Proofs.YtamnobjdgjbmbaaGreat
open Go Go.Fw Go.RowKit
set_option linter.unusedVariables false
set_option linter.unusedSimpArgs false
set_option maxRecDepth 100000
set_option maxHeartbeats 16000000
set_option synthInstance.maxHeartbeats 200000
set_option synthInstance.maxSize 100000
attribute [local irreducible] WPA WLA WDA WDQ WDE QQ seqQ blockQ loopQ fnQ OpP OpT Tr TrP SL SLd OwnS LitS Bk BkE Ob
theorem Clone_tr {a : SV} {xs : List Int} {L : List HP} {w0 : World} {I : Foot} [ha : RdS I L a Int inferInstance xs] (hn : xs.length ≤ 1000000) : Tr Tryz.prog 46 #[.slice a.a a.n a.cap] (SL w0 I L) (fun r : SV => .slice r.a r.n r.cap) (fun r => SL w0 I (OwnS 3 r xs :: L)) := by
  refine Tr.intro Tryz.func46 rfl Tryz.ntmps46 rfl ?_
  repeat' (first | ((first | refine WLA.m rfl rfl ?_ ?_ | refine WLA.st rfl ?_ ?_ | refine WLA.x rfl rfl ?_ (fun x => ?_) | refine WLA.x0 rfl ?_ (fun x => ?_)); first | exact trivial | exact rfl | assumption | omega | (refine ⟨?_, ?_⟩ <;> omega) | (simp only [Room, lenS]; omega) | decide | skip) | (refine Stp.go ?_) | (refine WPA.ifT ?_) | (refine WPA.ifF ?_) | ((first | refine WPA.dec ?_); first | refine .inl ⟨by first | assumption | omega | with_reducible rfl | (refine fun h => h ?_; first | assumption | with_reducible rfl) | (simp only [lenS] <;> omega) | decide, ?_⟩ | refine .inr ⟨by first | assumption | omega | with_reducible rfl | (refine fun h => h ?_; first | assumption | with_reducible rfl) | (simp only [lenS] <;> omega) | decide, ?_⟩) | ((first | refine WPA.ifBt ?_ ?_ | refine WPA.ifBnf ?_ ?_); assumption) | ((first | refine WPA.ifBnt ?_ ?_ | refine WPA.ifBf ?_ ?_); assumption) | ((first | refine WPA.ifs ?_ ?_ | refine WPA.ifB ?_ ?_) <;> intro hc))
  · refine QQ.end_ rfl SV.nil rfl fun w h => ?_
    have hr := ha.out w0 w h
    have h0 : xs = [] := by
      have hn := hr.len
      rcases hr.plain with h0 | ⟨b, o, e⟩
      · exact List.eq_nil_of_length_eq_zero (by omega)
      · rw [e] at hc; cases hc
    rw [h0]
    exact h.to
  · exact QQ.end_ rfl x rfl fun w h => h.to
end Go.Proofs.YtamnobjdgjbmbaaGreat
namespace Go.Proofs.YtamnobjdgjbmbaaGreat
open Go Go.Fw Go.RowKit
set_option linter.unusedVariables false
set_option linter.unusedSimpArgs false
set_option maxRecDepth 100000
set_option maxHeartbeats 16000000
set_option synthInstance.maxHeartbeats 200000
set_option synthInstance.maxSize 100000
attribute [local irreducible] WPA WLA WDA WDQ WDE QQ seqQ blockQ loopQ fnQ OpP OpT Tr TrP SL SLd OwnS LitS Bk BkE Ob
def cmpL : List Int → List Int → Int
  | [], [] => 0
  | [], _ :: _ => -1
  | _ :: _, [] => 1
  | a :: l, b :: m => if a < b then -1 else if b < a then 1 else cmpL l m
theorem Compare_tr {a b : SV} {xs ys : List Int} {L : List HP} {w0 : World} {I : Foot} [ha : RdS I L a Int inferInstance xs] [hb : RdS I L b Int inferInstance ys] (hn : xs.length ≤ 1000000000) (hm : ys.length ≤ 1000000000) : TrP Tryz.prog 39 #[.slice a.a a.n a.cap, .slice b.a b.n b.cap] (SL w0 I L) (.int .i64 (cmpL xs ys)) := by
  refine TrP.ofD fun u => Tr.intro Tryz.func39 rfl Tryz.ntmps39 rfl ?_
  repeat' (first | ((first | refine WLA.m rfl rfl ?_ ?_ | refine WLA.st rfl ?_ ?_ | refine WLA.x rfl rfl ?_ (fun x => ?_) | refine WLA.x0 rfl ?_ (fun x => ?_)); first | exact trivial | exact rfl | assumption | omega | (refine ⟨?_, ?_⟩ <;> omega) | (simp only [Room, lenS]; omega) | decide | skip) | (refine Stp.go ?_) | (refine WPA.ifT ?_) | (refine WPA.ifF ?_) | ((first | refine WPA.dec ?_); first | refine .inl ⟨by first | assumption | omega | with_reducible rfl | (refine fun h => h ?_; first | assumption | with_reducible rfl) | (simp only [lenS] <;> omega) | decide, ?_⟩ | refine .inr ⟨by first | assumption | omega | with_reducible rfl | (refine fun h => h ?_; first | assumption | with_reducible rfl) | (simp only [lenS] <;> omega) | decide, ?_⟩) | ((first | refine WPA.ifBt ?_ ?_ | refine WPA.ifBnf ?_ ?_); assumption) | ((first | refine WPA.ifBnt ?_ ?_ | refine WPA.ifBf ?_ ?_); assumption) | ((first | refine WPA.ifs ?_ ?_ | refine WPA.ifB ?_ ?_) <;> intro hc))
  refine WPA.loopS (σ := Nat) (fun i => [(0, .slice a.a a.n a.cap), (1, .slice b.a b.n b.cap), (5, .int .i64 i)]) (fun i => (i ≤ xs.length ∧ i ≤ ys.length) ∧ cmpL (xs.drop i) (ys.drop i) = cmpL xs ys)
    (fun i => SLd w0 I L u) (fun i => xs.length - i) 0 ⟨rfl, rfl, rfl, trivial⟩ ⟨⟨Nat.zero_le _, Nat.zero_le _⟩, rfl⟩ (fun w h => h) ?_
  rintro i ρ ⟨⟨hi, hj⟩, he⟩
  by_cases hx : i < xs.length
  · have hx' : (i : Int) < xs.length := by omega
    by_cases hy : i < ys.length
    · have hy' : (i : Int) < ys.length := by omega
      rw [List.drop_eq_getElem_cons hx, List.drop_eq_getElem_cons hy, cmpL, ← at_nat xs i hx, ← at_nat ys i hy] at he
      by_cases h1 : at_ xs (i : Int) < at_ ys (i : Int)
      · rw [if_pos h1] at he
        repeat' (first | ((first | refine WLA.m rfl rfl ?_ ?_ | refine WDQ.m rfl rfl ?_ ?_ | refine WLA.st rfl ?_ ?_ | refine WLA.x rfl rfl ?_ (fun x => ?_) | refine WLA.x0 rfl ?_ (fun x => ?_)); first | exact trivial | exact rfl | assumption | omega | (refine ⟨?_, ?_⟩ <;> omega) | (simp only [Room, lenS]; omega) | decide | skip) | (refine Stp.go ?_) | (refine WPA.ifT ?_) | (refine WPA.ifF ?_) | (refine WLA.no rfl rfl ?_) | ((first | refine WPA.dec ?_ | ((fail_if_success (guard_target =~ WLA _ _ _ _ _ _ (put1 _ _ (.bool true)) _)); (fail_if_success (guard_target =~ WLA _ _ _ _ _ _ (put1 _ _ (.bool false)) _)); refine WLA.dec rfl rfl ?_) | refine WLA.pk ?_); first | refine .inl ⟨by first | assumption | omega | with_reducible rfl | (refine fun h => h ?_; first | assumption | with_reducible rfl) | (simp only [lenS] <;> omega) | decide, ?_⟩ | refine .inr ⟨by first | assumption | omega | with_reducible rfl | (refine fun h => h ?_; first | assumption | with_reducible rfl) | (simp only [lenS] <;> omega) | decide, ?_⟩) | ((first | refine WPA.ifBt ?_ ?_ | refine WPA.ifBnf ?_ ?_); assumption) | ((first | refine WPA.ifBnt ?_ ?_ | refine WPA.ifBf ?_ ?_); assumption) | ((first | refine WPA.ifs ?_ ?_ | refine WPA.ifB ?_ ?_) <;> intro hc) | ((fail_if_success (guard_target =~ WLA _ _ _ _ _ _ (put1 _ _ (.bool true)) _)); (fail_if_success (guard_target =~ WLA _ _ _ _ _ _ (put1 _ _ (.bool false)) _)); (first | refine WLA.both rfl rfl ?_ ?_ | refine WLA.bothB rfl rfl ?_ ?_) <;> intro hg) | (guard_target =~ WPA _ _ _ (.region 4 _ true) _ _ _; refine WPA.drawT 8 (.q 0 (.q 1 (.q 2 (.q 3 (.q 4 (.q 5 (.q 6 (.q 7 .fin)))))))) mixed ?_ ?_; kernel_rfl) | (refine WDA.finish (tl := [⟨_, _, _, _, _, _⟩]) rfl ?_) | (refine WDQ.see rfl ?_))
        rw [← he]
        exact QQ.end_ rfl () rfl fun w h => h
      · rw [if_neg h1] at he
        by_cases h2 : at_ ys (i : Int) < at_ xs (i : Int)
        · rw [if_pos h2] at he
          repeat' (first | ((first | refine WLA.m rfl rfl ?_ ?_ | refine WDQ.m rfl rfl ?_ ?_ | refine WLA.st rfl ?_ ?_ | refine WLA.x rfl rfl ?_ (fun x => ?_) | refine WLA.x0 rfl ?_ (fun x => ?_)); first | exact trivial | exact rfl | assumption | omega | (refine ⟨?_, ?_⟩ <;> omega) | (simp only [Room, lenS]; omega) | decide | skip) | (refine Stp.go ?_) | (refine WPA.ifT ?_) | (refine WPA.ifF ?_) | (refine WLA.no rfl rfl ?_) | ((first | refine WPA.dec ?_ | ((fail_if_success (guard_target =~ WLA _ _ _ _ _ _ (put1 _ _ (.bool true)) _)); (fail_if_success (guard_target =~ WLA _ _ _ _ _ _ (put1 _ _ (.bool false)) _)); refine WLA.dec rfl rfl ?_) | refine WLA.pk ?_); first | refine .inl ⟨by first | assumption | omega | with_reducible rfl | (refine fun h => h ?_; first | assumption | with_reducible rfl) | (simp only [lenS] <;> omega) | decide, ?_⟩ | refine .inr ⟨by first | assumption | omega | with_reducible rfl | (refine fun h => h ?_; first | assumption | with_reducible rfl) | (simp only [lenS] <;> omega) | decide, ?_⟩) | ((first | refine WPA.ifBt ?_ ?_ | refine WPA.ifBnf ?_ ?_); assumption) | ((first | refine WPA.ifBnt ?_ ?_ | refine WPA.ifBf ?_ ?_); assumption) | ((first | refine WPA.ifs ?_ ?_ | refine WPA.ifB ?_ ?_) <;> intro hc) | ((fail_if_success (guard_target =~ WLA _ _ _ _ _ _ (put1 _ _ (.bool true)) _)); (fail_if_success (guard_target =~ WLA _ _ _ _ _ _ (put1 _ _ (.bool false)) _)); (first | refine WLA.both rfl rfl ?_ ?_ | refine WLA.bothB rfl rfl ?_ ?_) <;> intro hg) | (guard_target =~ WPA _ _ _ (.region 4 _ true) _ _ _; refine WPA.drawT 8 (.q 0 (.q 1 (.q 2 (.q 3 (.q 4 (.q 5 (.q 6 (.q 7 .fin)))))))) mixed ?_ ?_; kernel_rfl) | (guard_target =~ WPA _ _ _ (.region 6 _ true) _ _ _; refine WPA.drawT 8 (.q 0 (.q 1 (.q 2 (.q 3 (.q 4 (.q 5 (.q 6 (.q 7 .fin)))))))) mixed ?_ ?_; kernel_rfl) | (refine WDA.finish (tl := [⟨_, _, _, _, _, _⟩]) rfl ?_) | (refine WDQ.see rfl ?_))
          rw [← he]
          exact QQ.end_ rfl () rfl fun w h => h
        · rw [if_neg h2] at he
          repeat' (first | ((first | refine WLA.m rfl rfl ?_ ?_ | refine WDQ.m rfl rfl ?_ ?_ | refine WLA.st rfl ?_ ?_ | refine WLA.x rfl rfl ?_ (fun x => ?_) | refine WLA.x0 rfl ?_ (fun x => ?_)); first | exact trivial | exact rfl | assumption | omega | (refine ⟨?_, ?_⟩ <;> omega) | (simp only [Room, lenS]; omega) | decide | skip) | (refine Stp.go ?_) | (refine WPA.ifT ?_) | (refine WPA.ifF ?_) | (refine WLA.no rfl rfl ?_) | ((first | refine WPA.dec ?_ | ((fail_if_success (guard_target =~ WLA _ _ _ _ _ _ (put1 _ _ (.bool true)) _)); (fail_if_success (guard_target =~ WLA _ _ _ _ _ _ (put1 _ _ (.bool false)) _)); refine WLA.dec rfl rfl ?_) | refine WLA.pk ?_); first | refine .inl ⟨by first | assumption | omega | with_reducible rfl | (refine fun h => h ?_; first | assumption | with_reducible rfl) | (simp only [lenS] <;> omega) | decide, ?_⟩ | refine .inr ⟨by first | assumption | omega | with_reducible rfl | (refine fun h => h ?_; first | assumption | with_reducible rfl) | (simp only [lenS] <;> omega) | decide, ?_⟩) | ((first | refine WPA.ifBt ?_ ?_ | refine WPA.ifBnf ?_ ?_); assumption) | ((first | refine WPA.ifBnt ?_ ?_ | refine WPA.ifBf ?_ ?_); assumption) | ((first | refine WPA.ifs ?_ ?_ | refine WPA.ifB ?_ ?_) <;> intro hc) | ((fail_if_success (guard_target =~ WLA _ _ _ _ _ _ (put1 _ _ (.bool true)) _)); (fail_if_success (guard_target =~ WLA _ _ _ _ _ _ (put1 _ _ (.bool false)) _)); (first | refine WLA.both rfl rfl ?_ ?_ | refine WLA.bothB rfl rfl ?_ ?_) <;> intro hg) | (guard_target =~ WPA _ _ _ (.region 4 _ true) _ _ _; refine WPA.drawT 8 (.q 0 (.q 1 (.q 2 (.q 3 (.q 4 (.q 5 (.q 6 (.q 7 .fin)))))))) mixed ?_ ?_; kernel_rfl) | (guard_target =~ WPA _ _ _ (.region 6 _ true) _ _ _; refine WPA.drawT 8 (.q 0 (.q 1 (.q 2 (.q 3 (.q 4 (.q 5 (.q 6 (.q 7 .fin)))))))) mixed ?_ ?_; kernel_rfl) | (refine WDA.finish (tl := [⟨_, _, _, _, _, _⟩]) rfl ?_) | (refine WDQ.see rfl ?_))
          exact QQ.loopS (i + 1) ⟨rfl, rfl, rfl, trivial⟩ ⟨⟨hx, hy⟩, he⟩ (by omega) (fun w h => h)
    · have hy' : ¬ (i : Int) < ys.length := by omega
      have hl : ¬ (xs.length : Int) < ys.length := by omega
      have hl2 : (ys.length : Int) < xs.length := by omega
      rw [List.drop_eq_getElem_cons hx, List.drop_of_length_le (by omega : ys.length ≤ i), cmpL] at he
      repeat' (first | ((first | refine WLA.m rfl rfl ?_ ?_ | refine WDQ.m rfl rfl ?_ ?_ | refine WLA.st rfl ?_ ?_ | refine WLA.x rfl rfl ?_ (fun x => ?_) | refine WLA.x0 rfl ?_ (fun x => ?_)); first | exact trivial | exact rfl | assumption | omega | (refine ⟨?_, ?_⟩ <;> omega) | (simp only [Room, lenS]; omega) | decide | skip) | (refine Stp.go ?_) | (refine WPA.ifT ?_) | (refine WPA.ifF ?_) | (refine WLA.no rfl rfl ?_) | ((first | refine WPA.dec ?_ | ((fail_if_success (guard_target =~ WLA _ _ _ _ _ _ (put1 _ _ (.bool true)) _)); (fail_if_success (guard_target =~ WLA _ _ _ _ _ _ (put1 _ _ (.bool false)) _)); refine WLA.dec rfl rfl ?_) | refine WLA.pk ?_); first | refine .inl ⟨by first | assumption | omega | with_reducible rfl | (refine fun h => h ?_; first | assumption | with_reducible rfl) | (simp only [lenS] <;> omega) | decide, ?_⟩ | refine .inr ⟨by first | assumption | omega | with_reducible rfl | (refine fun h => h ?_; first | assumption | with_reducible rfl) | (simp only [lenS] <;> omega) | decide, ?_⟩) | ((first | refine WPA.ifBt ?_ ?_ | refine WPA.ifBnf ?_ ?_); assumption) | ((first | refine WPA.ifBnt ?_ ?_ | refine WPA.ifBf ?_ ?_); assumption) | ((first | refine WPA.ifs ?_ ?_ | refine WPA.ifB ?_ ?_) <;> intro hc) | ((fail_if_success (guard_target =~ WLA _ _ _ _ _ _ (put1 _ _ (.bool true)) _)); (fail_if_success (guard_target =~ WLA _ _ _ _ _ _ (put1 _ _ (.bool false)) _)); (first | refine WLA.both rfl rfl ?_ ?_ | refine WLA.bothB rfl rfl ?_ ?_) <;> intro hg) | (guard_target =~ WPA _ _ _ (.region 4 _ true) _ _ _; refine WPA.drawT 8 (.q 0 (.q 1 (.q 2 (.q 3 (.q 4 (.q 5 (.q 6 (.q 7 .fin)))))))) mixed ?_ ?_; kernel_rfl) | (guard_target =~ WPA _ _ _ (.region 6 _ true) _ _ _; refine WPA.drawT 8 (.q 0 (.q 1 (.q 2 (.q 3 (.q 4 (.q 5 (.q 6 (.q 7 .fin)))))))) mixed ?_ ?_; kernel_rfl) | (refine WDA.finish (tl := [⟨_, _, _, _, _, _⟩]) rfl ?_) | (refine WDQ.see rfl ?_))
      rw [← he]
      exact QQ.end_ rfl () rfl fun w h => h
  · have hx' : ¬ (i : Int) < xs.length := by omega
    have hl2 : ¬ (ys.length : Int) < xs.length := by omega
    rw [List.drop_of_length_le (by omega : xs.length ≤ i)] at he
    by_cases hy : i < ys.length
    · have hl : (xs.length : Int) < ys.length := by omega
      rw [List.drop_eq_getElem_cons hy, cmpL] at he
      repeat' (first | ((first | refine WLA.m rfl rfl ?_ ?_ | refine WDQ.m rfl rfl ?_ ?_ | refine WLA.st rfl ?_ ?_ | refine WLA.x rfl rfl ?_ (fun x => ?_) | refine WLA.x0 rfl ?_ (fun x => ?_)); first | exact trivial | exact rfl | assumption | omega | (refine ⟨?_, ?_⟩ <;> omega) | (simp only [Room, lenS]; omega) | decide | skip) | (refine Stp.go ?_) | (refine WPA.ifT ?_) | (refine WPA.ifF ?_) | (refine WLA.no rfl rfl ?_) | ((first | refine WPA.dec ?_ | ((fail_if_success (guard_target =~ WLA _ _ _ _ _ _ (put1 _ _ (.bool true)) _)); (fail_if_success (guard_target =~ WLA _ _ _ _ _ _ (put1 _ _ (.bool false)) _)); refine WLA.dec rfl rfl ?_) | refine WLA.pk ?_); first | refine .inl ⟨by first | assumption | omega | with_reducible rfl | (refine fun h => h ?_; first | assumption | with_reducible rfl) | (simp only [lenS] <;> omega) | decide, ?_⟩ | refine .inr ⟨by first | assumption | omega | with_reducible rfl | (refine fun h => h ?_; first | assumption | with_reducible rfl) | (simp only [lenS] <;> omega) | decide, ?_⟩) | ((first | refine WPA.ifBt ?_ ?_ | refine WPA.ifBnf ?_ ?_); assumption) | ((first | refine WPA.ifBnt ?_ ?_ | refine WPA.ifBf ?_ ?_); assumption) | ((first | refine WPA.ifs ?_ ?_ | refine WPA.ifB ?_ ?_) <;> intro hc) | ((fail_if_success (guard_target =~ WLA _ _ _ _ _ _ (put1 _ _ (.bool true)) _)); (fail_if_success (guard_target =~ WLA _ _ _ _ _ _ (put1 _ _ (.bool false)) _)); (first | refine WLA.both rfl rfl ?_ ?_ | refine WLA.bothB rfl rfl ?_ ?_) <;> intro hg) | (guard_target =~ WPA _ _ _ (.region 4 _ true) _ _ _; refine WPA.drawT 8 (.q 0 (.q 1 (.q 2 (.q 3 (.q 4 (.q 5 (.q 6 (.q 7 .fin)))))))) mixed ?_ ?_; kernel_rfl) | (guard_target =~ WPA _ _ _ (.region 6 _ true) _ _ _; refine WPA.drawT 8 (.q 0 (.q 1 (.q 2 (.q 3 (.q 4 (.q 5 (.q 6 (.q 7 .fin)))))))) mixed ?_ ?_; kernel_rfl) | (refine WDA.finish (tl := [⟨_, _, _, _, _, _⟩]) rfl ?_) | (refine WDQ.see rfl ?_))
      rw [← he]
      exact QQ.end_ rfl () rfl fun w h => h
    · have hl : ¬ (xs.length : Int) < ys.length := by omega
      rw [List.drop_of_length_le (by omega : ys.length ≤ i), cmpL] at he
      repeat' (first | ((first | refine WLA.m rfl rfl ?_ ?_ | refine WDQ.m rfl rfl ?_ ?_ | refine WLA.st rfl ?_ ?_ | refine WLA.x rfl rfl ?_ (fun x => ?_) | refine WLA.x0 rfl ?_ (fun x => ?_)); first | exact trivial | exact rfl | assumption | omega | (refine ⟨?_, ?_⟩ <;> omega) | (simp only [Room, lenS]; omega) | decide | skip) | (refine Stp.go ?_) | (refine WPA.ifT ?_) | (refine WPA.ifF ?_) | (refine WLA.no rfl rfl ?_) | ((first | refine WPA.dec ?_ | ((fail_if_success (guard_target =~ WLA _ _ _ _ _ _ (put1 _ _ (.bool true)) _)); (fail_if_success (guard_target =~ WLA _ _ _ _ _ _ (put1 _ _ (.bool false)) _)); refine WLA.dec rfl rfl ?_) | refine WLA.pk ?_); first | refine .inl ⟨by first | assumption | omega | with_reducible rfl | (refine fun h => h ?_; first | assumption | with_reducible rfl) | (simp only [lenS] <;> omega) | decide, ?_⟩ | refine .inr ⟨by first | assumption | omega | with_reducible rfl | (refine fun h => h ?_; first | assumption | with_reducible rfl) | (simp only [lenS] <;> omega) | decide, ?_⟩) | ((first | refine WPA.ifBt ?_ ?_ | refine WPA.ifBnf ?_ ?_); assumption) | ((first | refine WPA.ifBnt ?_ ?_ | refine WPA.ifBf ?_ ?_); assumption) | ((first | refine WPA.ifs ?_ ?_ | refine WPA.ifB ?_ ?_) <;> intro hc) | ((fail_if_success (guard_target =~ WLA _ _ _ _ _ _ (put1 _ _ (.bool true)) _)); (fail_if_success (guard_target =~ WLA _ _ _ _ _ _ (put1 _ _ (.bool false)) _)); (first | refine WLA.both rfl rfl ?_ ?_ | refine WLA.bothB rfl rfl ?_ ?_) <;> intro hg) | (guard_target =~ WPA _ _ _ (.region 4 _ true) _ _ _; refine WPA.drawT 8 (.q 0 (.q 1 (.q 2 (.q 3 (.q 4 (.q 5 (.q 6 (.q 7 .fin)))))))) mixed ?_ ?_; kernel_rfl) | (guard_target =~ WPA _ _ _ (.region 6 _ true) _ _ _; refine WPA.drawT 8 (.q 0 (.q 1 (.q 2 (.q 3 (.q 4 (.q 5 (.q 6 (.q 7 .fin)))))))) mixed ?_ ?_; kernel_rfl) | (refine WDA.finish (tl := [⟨_, _, _, _, _, _⟩]) rfl ?_) | (refine WDQ.see rfl ?_))
      rw [← he]
      exact QQ.end_ rfl () rfl fun w h => h
end Go.Proofs.YtamnobjdgjbmbaaGreat
namespace Go.Proofs.YtamnobjdgjbmbaaGreat
open Go Go.Fw
set_option linter.unusedVariables false
set_option linter.unusedSimpArgs false
theorem cmpL_refl : ∀ a : List Int, cmpL a a = 0
  | [] => rfl
  | x :: a => by rw [cmpL, if_neg (by omega), if_neg (by omega)]; exact cmpL_refl a
theorem cmpL_eq : ∀ {a b : List Int}, cmpL a b = 0 → a = b
  | [], [], _ => rfl
  | [], _ :: _, h => by simp [cmpL] at h
  | _ :: _, [], h => by simp [cmpL] at h
  | x :: a, y :: b, h => by
    rw [cmpL] at h
    split at h
    · omega
    · split at h
      · omega
      · rw [cmpL_eq h, show x = y by omega]
theorem cmpL_swap : ∀ a b : List Int, cmpL b a = - cmpL a b
  | [], [] => rfl
  | [], _ :: _ => rfl
  | _ :: _, [] => rfl
  | x :: a, y :: b => by
    rw [cmpL, cmpL]
    by_cases h1 : x < y
    · rw [if_neg (by omega), if_pos h1, if_pos h1]; rfl
    · by_cases h2 : y < x
      · rw [if_pos h2, if_neg h1, if_pos h2]
      · rw [if_neg h2, if_neg h1, if_neg h1, if_neg h2]; exact cmpL_swap a b
theorem cmpL_tt : ∀ {a b c : List Int}, cmpL a b < 0 → cmpL b c < 0 → cmpL a c < 0
  | [], [], _, h, _ => by simp [cmpL] at h
  | [], _ :: _, [], _, h => by simp [cmpL] at h
  | [], _ :: _, _ :: _, _, _ => by simp [cmpL]
  | _ :: _, [], _, h, _ => by simp [cmpL] at h
  | _ :: _, _ :: _, [], _, h => by simp [cmpL] at h
  | x :: a, y :: b, z :: c, h, k => by
    rw [cmpL] at h k ⊢
    by_cases h1 : x < y
    · by_cases h2 : y < z
      · rw [if_pos (by omega)]; omega
      · rw [if_neg h2] at k
        by_cases h3 : z < y
        · rw [if_pos h3] at k; omega
        · rw [if_pos (by omega)]; omega
    · rw [if_neg h1] at h
      by_cases h2 : y < x
      · rw [if_pos h2] at h; omega
      · rw [if_neg h2] at h
        by_cases h3 : y < z
        · rw [if_pos (by omega)]; omega
        · rw [if_neg h3] at k
          by_cases h4 : z < y
          · rw [if_pos h4] at k; omega
          · rw [if_neg h4] at k
            rw [if_neg (by omega), if_neg (by omega)]
            exact cmpL_tt h k
def ltL (a b : List Int) : Prop := cmpL a b < 0
theorem ltL_irr (a : List Int) : ¬ ltL a a := by unfold ltL; rw [cmpL_refl]; omega
theorem ltL_tt {a b c : List Int} (h : ltL a b) (k : ltL b c) : ltL a c := cmpL_tt h k
theorem ltL_as {a b : List Int} (h : ltL a b) : ¬ ltL b a := fun k => ltL_irr a (ltL_tt h k)
theorem ltL_tri {a b : List Int} (h : ¬ ltL a b) (k : ¬ ltL b a) : a = b := by
  unfold ltL at h k
  rw [cmpL_swap a b] at k
  exact cmpL_eq (by omega)
theorem leL_tr {a b c : List Int} (h : ¬ ltL b a) (k : ¬ ltL c b) : ¬ ltL c a := fun hc => by
  by_cases h1 : ltL a b
  · exact k (ltL_tt hc h1)
  · rw [ltL_tri h1 h] at hc; exact k hc
theorem ltL_le {a b c : List Int} (h : ltL a b) (k : ¬ ltL c b) : ltL a c := Classical.byContradiction fun hc => by
  by_cases h1 : ltL c a
  · exact k (ltL_tt h1 h)
  · rw [ltL_tri hc h1] at h; exact k h
theorem leL_lt {a b c : List Int} (h : ¬ ltL b a) (k : ltL b c) : ltL a c := Classical.byContradiction fun hc => by
  by_cases h1 : ltL c a
  · exact h (ltL_tt k h1)
  · rw [ltL_tri hc h1] at h; exact h k
theorem cmp_pos {a b : List Int} : 0 < cmpL a b ↔ ltL b a := by unfold ltL; rw [cmpL_swap a b]; omega
theorem cmp_zero {a b : List Int} : cmpL a b = 0 ↔ a = b := ⟨cmpL_eq, fun h => by rw [h, cmpL_refl]⟩
section
variable {κ : Type} (f : κ → List Int)
abbrev addN (a b : Int) : Int := IntKind.i64.wrap (a + b)
def putL : List (κ × Int) → κ × Int → List (κ × Int)
  | [], x => [x]
  | y :: l, x => if 0 < cmpL (f y.1) (f x.1) then x :: y :: l else if cmpL (f y.1) (f x.1) = 0 then (y.1, addN y.2 x.2) :: l else y :: putL l x
def putG (x : κ × Int) : Bool → List (κ × Int) → List (κ × Int) × Bool
  | laid, [] => ([], laid)
  | laid, y :: l =>
    let c := cmpL (f y.1) (f x.1)
    let r := putG x (laid || decide (0 ≤ c)) l
    ((if 0 < c ∧ laid = false then [x] else []) ++ (if c = 0 then (y.1, addN y.2 x.2) else y) :: r.1, r.2)
def Ris (l : List (κ × Int)) : Prop := l.Pairwise fun a b => ltL (f a.1) (f b.1)
variable {f}
theorem putG_rest {x : κ × Int} : ∀ {l : List (κ × Int)}, (∀ y ∈ l, ltL (f x.1) (f y.1)) → putG f x true l = (l, true)
  | [], _ => rfl
  | y :: l, h => by
    have h1 := h y (List.mem_cons_self ..)
    have h2 : 0 < cmpL (f y.1) (f x.1) := cmp_pos.2 h1
    have ih := putG_rest (x := x) (l := l) fun z hz => h z (List.mem_cons_of_mem _ hz)
    simp only [putG, Bool.true_or, ih, if_neg (show ¬ (0 < cmpL (f y.1) (f x.1) ∧ true = false) from fun h => by cases h.2), if_neg (show ¬ cmpL (f y.1) (f x.1) = 0 by omega), List.nil_append]
theorem putG_put {x : κ × Int} : ∀ {l : List (κ × Int)}, Ris f l → (putG f x false l).1 ++ (if (putG f x false l).2 = true then [] else [x]) = putL f l x
  | [], _ => rfl
  | y :: l, h => by
    obtain ⟨h1, h2⟩ := List.pairwise_cons.1 h
    simp only [putG, putL, Bool.false_or]
    by_cases hp : 0 < cmpL (f y.1) (f x.1)
    · have := putG_rest (f := f) (x := x) (l := l) fun z hz => ltL_tt (cmp_pos.1 hp) (h1 z hz)
      rw [if_pos ⟨hp, trivial⟩, if_pos hp, if_neg (by omega), decide_eq_true (by omega), this]
      simp
    · rw [if_neg (fun h => hp h.1), if_neg hp]
      by_cases hz : cmpL (f y.1) (f x.1) = 0
      · have := putG_rest (f := f) (x := x) (l := l) fun z hz' => by rw [← cmp_zero.1 hz]; exact h1 z hz'
        rw [if_pos hz, if_pos hz, decide_eq_true (by omega), this]
        simp
      · rw [if_neg hz, if_neg hz, decide_eq_false (by omega), ← putG_put h2]
        simp
theorem putL_mem {x : κ × Int} : ∀ {l : List (κ × Int)}, ∀ z ∈ putL f l x, f z.1 = f x.1 ∨ ∃ y ∈ l, z.1 = y.1
  | [], z, h => by simp only [putL, List.mem_singleton] at h; subst h; exact .inl rfl
  | y :: l, z, h => by
    unfold putL at h
    split at h
    · rcases List.mem_cons.1 h with rfl | h
      · exact .inl rfl
      · exact .inr ⟨z, h, rfl⟩
    · split at h
      · rcases List.mem_cons.1 h with rfl | h
        · exact .inr ⟨y, List.mem_cons_self .., rfl⟩
        · exact .inr ⟨z, List.mem_cons_of_mem _ h, rfl⟩
      · rcases List.mem_cons.1 h with rfl | h
        · exact .inr ⟨z, List.mem_cons_self .., rfl⟩
        · rcases putL_mem z h with h | ⟨w, hw, e⟩
          · exact .inl h
          · exact .inr ⟨w, List.mem_cons_of_mem _ hw, e⟩
theorem putL_fst {x : κ × Int} : ∀ {l : List (κ × Int)}, ∀ z ∈ putL f l x, z.1 = x.1 ∨ ∃ y ∈ l, z.1 = y.1
  | [], z, h => by simp only [putL, List.mem_singleton] at h; subst h; exact .inl rfl
  | y :: l, z, h => by
    unfold putL at h
    split at h
    · rcases List.mem_cons.1 h with rfl | h
      · exact .inl rfl
      · exact .inr ⟨z, h, rfl⟩
    · split at h
      · rcases List.mem_cons.1 h with rfl | h
        · exact .inr ⟨y, List.mem_cons_self .., rfl⟩
        · exact .inr ⟨z, List.mem_cons_of_mem _ h, rfl⟩
      · rcases List.mem_cons.1 h with rfl | h
        · exact .inr ⟨z, List.mem_cons_self .., rfl⟩
        · rcases putL_fst z h with h | ⟨w, hw, e⟩
          · exact .inl h
          · exact .inr ⟨w, List.mem_cons_of_mem _ hw, e⟩
theorem putL_ris {x : κ × Int} : ∀ {l : List (κ × Int)}, Ris f l → Ris f (putL f l x)
  | [], _ => List.pairwise_singleton ..
  | y :: l, h => by
    obtain ⟨h1, h2⟩ := List.pairwise_cons.1 h
    unfold putL
    split
    · rename_i hp
      refine List.pairwise_cons.2 ⟨fun z hz => ?_, h⟩
      rcases List.mem_cons.1 hz with rfl | hz
      · exact cmp_pos.1 hp
      · exact ltL_tt (cmp_pos.1 hp) (h1 z hz)
    · rename_i hp
      split
      · rename_i hz
        exact List.pairwise_cons.2 ⟨h1, h2⟩
      · rename_i hz
        refine List.pairwise_cons.2 ⟨fun z hz' => ?_, putL_ris h2⟩
        rcases putL_mem z hz' with e | ⟨w, hw, e⟩
        · rw [e]; unfold ltL; omega
        · rw [e]; exact h1 w hw
theorem putL_len {x : κ × Int} : ∀ (l : List (κ × Int)), (putL f l x).length ≤ l.length + 1
  | [] => Nat.le_refl _
  | y :: l => by
    unfold putL
    split
    · simp
    · split
      · simp
      · have := putL_len (x := x) l; simp; omega
theorem addN_mod (a b : Int) : ∃ k : Int, addN a b = a + b + k * 18446744073709551616 ∧ -9223372036854775808 ≤ addN a b ∧ addN a b ≤ 9223372036854775807 := by
  have e : addN a b = if 9223372036854775808 ≤ (a + b) % 18446744073709551616 then (a + b) % 18446744073709551616 - 18446744073709551616 else (a + b) % 18446744073709551616 := by
    simp [addN, IntKind.wrap, IntKind.bits, IntKind.signed]
  rw [e]
  split
  · exact ⟨-((a + b) / 18446744073709551616) - 1, by omega, by omega, by omega⟩
  · exact ⟨-((a + b) / 18446744073709551616), by omega, by omega, by omega⟩
theorem addN_rot (a b c : Int) : addN (addN a b) c = addN (addN a c) b := by
  obtain ⟨k1, h1, h2, h3⟩ := addN_mod a b
  obtain ⟨k2, h4, h5, h6⟩ := addN_mod (addN a b) c
  obtain ⟨k3, h7, h8, h9⟩ := addN_mod a c
  obtain ⟨k4, h10, h11, h12⟩ := addN_mod (addN a c) b
  omega
theorem addN_comm (a b : Int) : addN a b = addN b a := by unfold addN; rw [Int.add_comm]
end
abbrev Ct := List Int × Int
abbrev putM (l : List Ct) (x : Ct) : List Ct := putL id l x
theorem map_put {κ : Type} {f : κ → List Int} {x : κ × Int} : ∀ (l : List (κ × Int)), (putL f l x).map (fun p => (f p.1, p.2)) = putM (l.map fun p => (f p.1, p.2)) (f x.1, x.2)
  | [] => rfl
  | y :: l => by
    simp only [putM, putL, List.map_cons, id]
    split
    · rfl
    · split
      · rfl
      · rw [List.map_cons, map_put l]
def lk (g : List Int) : List Ct → Option Int
  | [] => none
  | y :: l => if y.1 = g then some y.2 else lk g l
theorem lk_none {g : List Int} : ∀ {l : List Ct}, (∀ y ∈ l, y.1 ≠ g) → lk g l = none
  | [], _ => rfl
  | y :: l, h => by rw [lk, if_neg (h y (List.mem_cons_self ..))]; exact lk_none fun z hz => h z (List.mem_cons_of_mem _ hz)
theorem lk_mem {g : List Int} {n : Int} : ∀ {l : List Ct}, lk g l = some n → ∃ y ∈ l, y.1 = g
  | [], h => by simp [lk] at h
  | y :: l, h => by
    rw [lk] at h
    split at h
    · rename_i e; exact ⟨y, List.mem_cons_self .., e⟩
    · obtain ⟨z, hz, e⟩ := lk_mem h; exact ⟨z, List.mem_cons_of_mem _ hz, e⟩
theorem lk_put {g : List Int} {x : Ct} : ∀ {l : List Ct}, Ris id l → lk g (putM l x) = if x.1 = g then some (match lk g l with | none => x.2 | some n => addN n x.2) else lk g l
  | [], _ => by simp [putM, putL, lk]
  | y :: l, h => by
    obtain ⟨h1, h2⟩ := List.pairwise_cons.1 h
    simp only [putM, putL, id]
    by_cases hp : 0 < cmpL y.1 x.1
    · rw [if_pos hp]
      have hn : lk x.1 (y :: l) = none := lk_none fun z hz e => by
        rcases List.mem_cons.1 hz with rfl | hz
        · have := cmp_pos.1 hp; rw [e] at this; exact ltL_irr x.1 this
        · have := ltL_tt (cmp_pos.1 hp) (h1 z hz); unfold id at this; rw [e] at this; exact ltL_irr x.1 this
      rw [lk]
      by_cases hg : x.1 = g
      · subst hg; rw [if_pos rfl, if_pos rfl, hn]
      · rw [if_neg hg, if_neg hg]
    · rw [if_neg hp]
      by_cases hz : cmpL y.1 x.1 = 0
      · have e := cmp_zero.1 hz
        rw [if_pos hz, lk, lk]
        simp only [e]
        by_cases hg : x.1 = g
        · simp [hg]
        · simp [hg]
      · rw [if_neg hz, lk]
        have hne : y.1 ≠ x.1 := fun e => hz (cmp_zero.2 e)
        have ih := lk_put (g := g) (x := x) h2
        unfold putM at ih
        rw [ih, lk]
        by_cases hg : x.1 = g
        · rw [if_pos hg, if_pos hg, if_neg (fun e => hne (e.trans hg.symm)), if_neg (fun e => hne (e.trans hg.symm))]
        · rw [if_neg hg, if_neg hg]
theorem lk_ext : ∀ {a b : List Ct}, Ris id a → Ris id b → (∀ g, lk g a = lk g b) → a = b
  | [], [], _, _, _ => rfl
  | [], q :: b, _, _, h => by have := h q.1; simp [lk] at this
  | p :: a, [], _, _, h => by have := h p.1; simp [lk] at this
  | p :: a, q :: b, ha, hb, h => by
    obtain ⟨a1, a2⟩ := List.pairwise_cons.1 ha
    obtain ⟨b1, b2⟩ := List.pairwise_cons.1 hb
    have e1 : p.1 = q.1 := by
      have h1 := h p.1
      have h2 := h q.1
      rw [lk, if_pos rfl] at h1
      rw [lk, lk, if_pos rfl] at h2
      obtain ⟨y, hy, ey⟩ := lk_mem h1.symm
      rcases List.mem_cons.1 hy with rfl | hy
      · exact ey.symm
      · have l1 : ltL q.1 p.1 := by have := b1 y hy; unfold id at this; rw [ey] at this; exact this
        rw [if_neg (show ¬ p.1 = q.1 from fun e => by rw [e] at l1; exact ltL_irr q.1 l1)] at h2
        obtain ⟨z, hz, ez⟩ := lk_mem h2
        have l2 : ltL p.1 q.1 := by have := a1 z hz; unfold id at this; rw [ez] at this; exact this
        exact absurd l2 (ltL_as l1)
    have e2 : p.2 = q.2 := by
      have h1 := h p.1
      rw [lk, if_pos rfl, lk, if_pos e1.symm] at h1
      injection h1
    have e3 : a = b := lk_ext a2 b2 fun g => by
      by_cases hg : p.1 = g
      · rw [lk_none fun z hz e => ltL_irr p.1 (by have := a1 z hz; unfold id at this; rw [e, ← hg] at this; exact this), lk_none fun z hz e => ltL_irr q.1 (by have := b1 z hz; unfold id at this; rw [e, ← hg, e1] at this; exact this)]
      · have := h g
        rwa [lk, lk, if_neg hg, if_neg (e1 ▸ hg)] at this
    rw [e3, Prod.ext e1 e2]
theorem put_comm {l : List Ct} {x y : Ct} (h : Ris id l) : putM (putM l x) y = putM (putM l y) x := by
  refine lk_ext (putL_ris (putL_ris h)) (putL_ris (putL_ris h)) fun g => ?_
  rw [lk_put (putL_ris h), lk_put (putL_ris h), lk_put h, lk_put h]
  by_cases h1 : x.1 = g <;> by_cases h2 : y.1 = g
  · simp only [h1, h2, if_true]
    cases lk g l with
    | none => simp only; rw [addN_comm]
    | some n => simp only; rw [addN_rot]
  · simp only [h1, h2, if_true, if_false]
  · simp only [h1, h2, if_true, if_false]
  · simp only [h1, h2, if_false]
theorem foldl_perm {l m : List Ct} (hp : l.Perm m) : ∀ {a : List Ct}, Ris id a → l.foldl putM a = m.foldl putM a := by
  induction hp with
  | nil => intro a _; rfl
  | cons x _ ih => intro a ha; exact ih (putL_ris ha)
  | swap x y l => intro a ha; simp only [List.foldl_cons]; rw [put_comm ha]
  | trans _ _ ih1 ih2 => intro a ha; rw [ih1 ha, ih2 ha]
theorem fold_ris {l : List Ct} : ∀ {a : List Ct}, Ris id a → Ris id (l.foldl putM a) := by
  induction l with
  | nil => intro a h; exact h
  | cons x l ih => intro a h; exact ih (putL_ris h)
theorem put_last {x : Ct} : ∀ {l : List Ct}, Ris id l → (∀ y ∈ l, ¬ ltL x.1 y.1) → putM l x = if h : l ≠ [] ∧ (l.getD (l.length - 1) ([], 0)).1 = x.1 then l.set (l.length - 1) (x.1, addN (l.getD (l.length - 1) ([], 0)).2 x.2) else l ++ [x]
  | [], _, _ => rfl
  | [y], _, hx => by
    have h1 := hx y (List.mem_cons_self ..)
    simp only [putM, putL, id]
    rw [if_neg (fun h => h1 (cmp_pos.1 h))]
    by_cases e : y.1 = x.1
    · rw [if_pos (cmp_zero.2 e), dif_pos ⟨by simp, by simpa using e⟩]; simp [e]
    · rw [if_neg (fun h => e (cmp_zero.1 h)), dif_neg (fun h => e (by simpa using h.2))]; rfl
  | y :: z :: l, h, hx => by
    obtain ⟨h1, h2⟩ := List.pairwise_cons.1 h
    have h3 := hx y (List.mem_cons_self ..)
    have h4 := hx z (List.mem_cons_of_mem _ (List.mem_cons_self ..))
    have h5 : ltL y.1 z.1 := h1 z (List.mem_cons_self ..)
    have ih := put_last (x := x) (l := z :: l) h2 fun w hw => hx w (List.mem_cons_of_mem _ hw)
    have e0 : putM (y :: z :: l) x = y :: putM (z :: l) x := by
      unfold putM
      rw [putL]
      rw [if_neg (show ¬ 0 < cmpL (id y.1) (id x.1) from fun h => h3 (cmp_pos.1 h)), if_neg (show ¬ cmpL (id y.1) (id x.1) = 0 from fun e => h4 (by have e' : y.1 = x.1 := cmp_zero.1 e; rw [← e']; exact h5))]
    have e1 : (y :: z :: l).length - 1 = (z :: l).length - 1 + 1 := by simp
    rw [e0, ih, e1]
    by_cases hc : (z :: l) ≠ [] ∧ ((z :: l).getD ((z :: l).length - 1) ([], 0)).1 = x.1
    · rw [dif_pos hc, dif_pos ⟨by simp, by simpa using hc.2⟩]; simp
    · rw [dif_neg hc, dif_neg (fun h => hc ⟨by simp, by simpa using h.2⟩)]; rfl
end Go.Proofs.YtamnobjdgjbmbaaGreat
