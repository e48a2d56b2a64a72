/- Closed facts of the program: types, fields, functions. Conditions: none. -/
import Derived.Test.YtckackfgkidedaaFwRange
import Derived.Test.YtckackfgkidedaaProg
namespace Go.Proofs.Ytckackfgkidedaa
open Go Go.Fw
set_option linter.unusedSimpArgs false
theorem mixed : Try.prog.follows .mixedOrders = true := by kernel_rfl
theorem inf_4 : (Try.prog.info? 4).map (fun i => (i.zero, i.size, i.bytes)) = some (some (.bool false), 1, 1) := by kernel_rfl
theorem inf_5 : (Try.prog.info? 5).map (fun i => (i.zero, i.size, i.bytes)) = some (some (.int .u8 0), 1, 1) := by kernel_rfl
theorem inf_9 : (Try.prog.info? 9).map (fun i => (i.zero, i.size, i.bytes)) = some (some (.string ⟨#[]⟩), 1, 16) := by kernel_rfl
theorem inf_21 : (Try.prog.info? 21).map (fun i => (i.zero, i.size, i.bytes)) = some (some (.int .i32 0), 1, 4) := by kernel_rfl
theorem inf_22 : (Try.prog.info? 22).map (fun i => (i.zero, i.size, i.bytes)) = some (some (.slice none 0 0), 1, 24) := by kernel_rfl
theorem inf_44 : (Try.prog.info? 44).map (fun i => (i.zero, i.size, i.bytes)) = some (some (.agg #[(.int .i64 0), (.int .i64 0)]), 2, 16) := by kernel_rfl
theorem inf_48 : (Try.prog.info? 48).map (fun i => (i.zero, i.size, i.bytes)) = some (some (.agg #[(.int .i64 0), (.int .i64 0), (.int .i64 0)]), 3, 24) := by kernel_rfl
theorem inf_63 : (Try.prog.info? 63).map (fun i => (i.zero, i.size, i.bytes)) = some (some (.agg #[(.int .i64 0), (.int .i64 0), (.string ⟨#[]⟩)]), 3, 32) := by kernel_rfl
theorem inf_106 : (Try.prog.info? 106).map (fun i => (i.zero, i.size, i.bytes)) = some (some (.agg #[(.int .i64 0), (.int .i64 0), (.int .i64 0)]), 3, 24) := by kernel_rfl
theorem inf_112 : (Try.prog.info? 112).map (fun i => (i.zero, i.size, i.bytes)) = some (some (.agg #[(.slice none 0 0), (.bool false)]), 2, 32) := by kernel_rfl
theorem bi_44 : builtInfo Try.prog 44 = some (#[(.int .i64 0), (.int .i64 0)], [(0, 1), (1, 1)]) := by kernel_rfl
theorem P_bld_44 {ρ : Env} {A : World → Prop} {ty : TypeId}    : OpP Try.prog ρ (.build 44 #[]) ty A (.agg #[(.int .i64 0), (.int .i64 0)]) :=
  P_build (ps := []) bi_44 (vs := []) (by simp) (by simp [Instr.fill, agg_cells])
theorem P_bld_44_0 {ρ : Env} {A : World → Prop} {ty : TypeId} {x0 : Operand} {v0 : Value} (h0 : evalE ρ x0 = v0) (c0 : v0.cells = #[v0]) : OpP Try.prog ρ (.build 44 #[(0, x0)]) ty A (.agg #[v0, (.int .i64 0)]) :=
  P_build (ps := [(0, x0)]) bi_44 (vs := [(0, v0)]) (by simp [h0]) (by simp [Instr.fill, agg_cells, c0])
theorem bi_76 : builtInfo Try.prog 76 = some (#[(.int .i64 0), (.int .i64 0), (.slice none 0 0), (.slice none 0 0), (.int .i64 0)], [(0, 1), (1, 1), (2, 1), (3, 1), (4, 1)]) := by kernel_rfl
theorem P_bld_76_0_1 {ρ : Env} {A : World → Prop} {ty : TypeId} {x0 x1 : Operand} {v0 v1 : Value} (h0 : evalE ρ x0 = v0) (h1 : evalE ρ x1 = v1) (c0 : v0.cells = #[v0]) (c1 : v1.cells = #[v1]) : OpP Try.prog ρ (.build 76 #[(0, x0), (1, x1)]) ty A (.agg #[v0, v1, (.slice none 0 0), (.slice none 0 0), (.int .i64 0)]) :=
  P_build (ps := [(0, x0), (1, x1)]) bi_76 (vs := [(0, v0), (1, v1)]) (by simp [h0, h1]) (by simp [Instr.fill, agg_cells, c0, c1])
theorem bi_97 : builtInfo Try.prog 97 = some (#[(.slice none 0 0), .nilFunc, .nilFunc], [(0, 1), (1, 1), (2, 1)]) := by kernel_rfl
theorem P_bld_97_0_1_2 {ρ : Env} {A : World → Prop} {ty : TypeId} {x0 x1 x2 : Operand} {v0 v1 v2 : Value} (h0 : evalE ρ x0 = v0) (h1 : evalE ρ x1 = v1) (h2 : evalE ρ x2 = v2) (c0 : v0.cells = #[v0]) (c1 : v1.cells = #[v1]) (c2 : v2.cells = #[v2]) : OpP Try.prog ρ (.build 97 #[(0, x0), (1, x1), (2, x2)]) ty A (.agg #[v0, v1, v2]) :=
  P_build (ps := [(0, x0), (1, x1), (2, x2)]) bi_97 (vs := [(0, v0), (1, v1), (2, v2)]) (by simp [h0, h1, h2]) (by simp [Instr.fill, agg_cells, c0, c1, c2])
theorem bi_99 : builtInfo Try.prog 99 = some (#[(.slice none 0 0), (.slice none 0 0), .nilFunc, .nilFunc], [(0, 1), (1, 3)]) := by kernel_rfl
theorem P_bld_99 {ρ : Env} {A : World → Prop} {ty : TypeId}    : OpP Try.prog ρ (.build 99 #[]) ty A (.agg #[(.slice none 0 0), (.slice none 0 0), .nilFunc, .nilFunc]) :=
  P_build (ps := []) bi_99 (vs := []) (by simp) (by simp [Instr.fill, agg_cells])
theorem bi_104 : builtInfo Try.prog 104 = some (#[(.slice none 0 0), (.int .i64 0)], [(0, 1), (1, 1)]) := by kernel_rfl
theorem P_bld_104 {ρ : Env} {A : World → Prop} {ty : TypeId}    : OpP Try.prog ρ (.build 104 #[]) ty A (.agg #[(.slice none 0 0), (.int .i64 0)]) :=
  P_build (ps := []) bi_104 (vs := []) (by simp) (by simp [Instr.fill, agg_cells])
theorem bi_106 : builtInfo Try.prog 106 = some (#[(.int .i64 0), (.int .i64 0), (.int .i64 0)], [(0, 2), (2, 1)]) := by kernel_rfl
theorem P_bld_106 {ρ : Env} {A : World → Prop} {ty : TypeId}    : OpP Try.prog ρ (.build 106 #[]) ty A (.agg #[(.int .i64 0), (.int .i64 0), (.int .i64 0)]) :=
  P_build (ps := []) bi_106 (vs := []) (by simp) (by simp [Instr.fill, agg_cells])
theorem P_bld_106_0_1 {ρ : Env} {A : World → Prop} {ty : TypeId} {x0 x1 : Operand} {a0_0 a0_1 v1 : Value} (h0 : evalE ρ x0 = .agg #[a0_0, a0_1]) (h1 : evalE ρ x1 = v1) (c1 : v1.cells = #[v1]) : OpP Try.prog ρ (.build 106 #[(0, x0), (1, x1)]) ty A (.agg #[a0_0, a0_1, v1]) :=
  P_build (ps := [(0, x0), (1, x1)]) bi_106 (vs := [(0, .agg #[a0_0, a0_1]), (1, v1)]) (by simp [h0, h1]) (by simp [Instr.fill, agg_cells, c1])
theorem bi_109 : builtInfo Try.prog 109 = some (#[(.int .i64 0), (.int .i64 0), (.slice none 0 0), (.int .i64 0), (.int .i64 0), (.int .i64 0)], [(0, 1), (1, 1), (2, 1), (3, 1), (4, 1), (5, 1)]) := by kernel_rfl
theorem P_bld_109_0_1 {ρ : Env} {A : World → Prop} {ty : TypeId} {x0 x1 : Operand} {v0 v1 : Value} (h0 : evalE ρ x0 = v0) (h1 : evalE ρ x1 = v1) (c0 : v0.cells = #[v0]) (c1 : v1.cells = #[v1]) : OpP Try.prog ρ (.build 109 #[(0, x0), (1, x1)]) ty A (.agg #[v0, v1, (.slice none 0 0), (.int .i64 0), (.int .i64 0), (.int .i64 0)]) :=
  P_build (ps := [(0, x0), (1, x1)]) bi_109 (vs := [(0, v0), (1, v1)]) (by simp [h0, h1]) (by simp [Instr.fill, agg_cells, c0, c1])
theorem bi_112 : builtInfo Try.prog 112 = some (#[(.slice none 0 0), (.bool false)], [(0, 1), (1, 1)]) := by kernel_rfl
theorem P_bld_112 {ρ : Env} {A : World → Prop} {ty : TypeId}    : OpP Try.prog ρ (.build 112 #[]) ty A (.agg #[(.slice none 0 0), (.bool false)]) :=
  P_build (ps := []) bi_112 (vs := []) (by simp) (by simp [Instr.fill, agg_cells])
theorem one_3 : oneTy Try.prog 3 = true := by kernel_rfl
theorem one_4 : oneTy Try.prog 4 = true := by kernel_rfl
theorem one_9 : oneTy Try.prog 9 = true := by kernel_rfl
theorem one_21 : oneTy Try.prog 21 = true := by kernel_rfl
theorem one_22 : oneTy Try.prog 22 = true := by kernel_rfl
theorem one_24 : oneTy Try.prog 24 = true := by kernel_rfl
theorem one_41 : oneTy Try.prog 41 = true := by kernel_rfl
theorem one_45 : oneTy Try.prog 45 = true := by kernel_rfl
theorem one_74 : oneTy Try.prog 74 = true := by kernel_rfl
theorem one_89 : oneTy Try.prog 89 = true := by kernel_rfl
theorem one_93 : oneTy Try.prog 93 = true := by kernel_rfl
theorem one_94 : oneTy Try.prog 94 = true := by kernel_rfl
theorem one_95 : oneTy Try.prog 95 = true := by kernel_rfl
theorem one_102 : oneTy Try.prog 102 = true := by kernel_rfl
theorem one_107 : oneTy Try.prog 107 = true := by kernel_rfl
theorem one_110 : oneTy Try.prog 110 = true := by kernel_rfl
theorem agg_44 : aggTy Try.prog 44 = some 2 := by kernel_rfl
theorem agg_63 : aggTy Try.prog 63 = some 3 := by kernel_rfl
theorem agg_106 : aggTy Try.prog 106 = some 3 := by kernel_rfl
theorem fo_44_0 : fieldOff Try.prog 44 0 = some 0 := by kernel_rfl
theorem fo_48_0 : fieldOff Try.prog 48 0 = some 0 := by kernel_rfl
theorem fo_48_1 : fieldOff Try.prog 48 1 = some 1 := by kernel_rfl
theorem fo_63_0 : fieldOff Try.prog 63 0 = some 0 := by kernel_rfl
theorem fo_63_1 : fieldOff Try.prog 63 1 = some 1 := by kernel_rfl
theorem fo_63_2 : fieldOff Try.prog 63 2 = some 2 := by kernel_rfl
theorem fo_76_0 : fieldOff Try.prog 76 0 = some 0 := by kernel_rfl
theorem fo_76_1 : fieldOff Try.prog 76 1 = some 1 := by kernel_rfl
theorem fo_76_2 : fieldOff Try.prog 76 2 = some 2 := by kernel_rfl
theorem fo_76_3 : fieldOff Try.prog 76 3 = some 3 := by kernel_rfl
theorem fo_76_4 : fieldOff Try.prog 76 4 = some 4 := by kernel_rfl
theorem fo_97_0 : fieldOff Try.prog 97 0 = some 0 := by kernel_rfl
theorem fo_97_1 : fieldOff Try.prog 97 1 = some 1 := by kernel_rfl
theorem fo_97_2 : fieldOff Try.prog 97 2 = some 2 := by kernel_rfl
theorem fo_99_0 : fieldOff Try.prog 99 0 = some 0 := by kernel_rfl
theorem fo_99_1 : fieldOff Try.prog 99 1 = some 1 := by kernel_rfl
theorem fo_104_0 : fieldOff Try.prog 104 0 = some 0 := by kernel_rfl
theorem fo_104_1 : fieldOff Try.prog 104 1 = some 1 := by kernel_rfl
theorem fo_106_0 : fieldOff Try.prog 106 0 = some 0 := by kernel_rfl
theorem fo_106_1 : fieldOff Try.prog 106 1 = some 2 := by kernel_rfl
theorem fo_109_0 : fieldOff Try.prog 109 0 = some 0 := by kernel_rfl
theorem fo_109_1 : fieldOff Try.prog 109 1 = some 1 := by kernel_rfl
theorem fo_109_2 : fieldOff Try.prog 109 2 = some 2 := by kernel_rfl
theorem fo_109_3 : fieldOff Try.prog 109 3 = some 3 := by kernel_rfl
theorem fo_109_4 : fieldOff Try.prog 109 4 = some 4 := by kernel_rfl
theorem fo_109_5 : fieldOff Try.prog 109 5 = some 5 := by kernel_rfl
theorem fo_112_0 : fieldOff Try.prog 112 0 = some 0 := by kernel_rfl
theorem fo_112_1 : fieldOff Try.prog 112 1 = some 1 := by kernel_rfl
theorem sz_3 : (Try.prog.info? 3).map (·.size) = some 1 := by kernel_rfl
theorem sz_4 : (Try.prog.info? 4).map (·.size) = some 1 := by kernel_rfl
theorem sz_5 : (Try.prog.info? 5).map (·.size) = some 1 := by kernel_rfl
theorem sz_9 : (Try.prog.info? 9).map (·.size) = some 1 := by kernel_rfl
theorem sz_21 : (Try.prog.info? 21).map (·.size) = some 1 := by kernel_rfl
theorem sz_22 : (Try.prog.info? 22).map (·.size) = some 1 := by kernel_rfl
theorem sz_24 : (Try.prog.info? 24).map (·.size) = some 1 := by kernel_rfl
theorem sz_41 : (Try.prog.info? 41).map (·.size) = some 1 := by kernel_rfl
theorem sz_44 : (Try.prog.info? 44).map (·.size) = some 2 := by kernel_rfl
theorem sz_45 : (Try.prog.info? 45).map (·.size) = some 1 := by kernel_rfl
theorem sz_48 : (Try.prog.info? 48).map (·.size) = some 3 := by kernel_rfl
theorem sz_63 : (Try.prog.info? 63).map (·.size) = some 3 := by kernel_rfl
theorem sz_74 : (Try.prog.info? 74).map (·.size) = some 1 := by kernel_rfl
theorem sz_76 : (Try.prog.info? 76).map (·.size) = some 5 := by kernel_rfl
theorem sz_89 : (Try.prog.info? 89).map (·.size) = some 1 := by kernel_rfl
theorem sz_93 : (Try.prog.info? 93).map (·.size) = some 1 := by kernel_rfl
theorem sz_97 : (Try.prog.info? 97).map (·.size) = some 3 := by kernel_rfl
theorem sz_99 : (Try.prog.info? 99).map (·.size) = some 4 := by kernel_rfl
theorem sz_102 : (Try.prog.info? 102).map (·.size) = some 1 := by kernel_rfl
theorem sz_104 : (Try.prog.info? 104).map (·.size) = some 2 := by kernel_rfl
theorem sz_106 : (Try.prog.info? 106).map (·.size) = some 3 := by kernel_rfl
theorem sz_107 : (Try.prog.info? 107).map (·.size) = some 1 := by kernel_rfl
theorem sz_109 : (Try.prog.info? 109).map (·.size) = some 6 := by kernel_rfl
theorem sz_110 : (Try.prog.info? 110).map (·.size) = some 1 := by kernel_rfl
theorem sz_112 : (Try.prog.info? 112).map (·.size) = some 2 := by kernel_rfl
theorem zero_3 : (Try.prog.info? 3).bind (·.zero) = some (.int .i64 0) := by kernel_rfl
theorem zero_4 : (Try.prog.info? 4).bind (·.zero) = some (.bool false) := by kernel_rfl
theorem zero_5 : (Try.prog.info? 5).bind (·.zero) = some (.int .u8 0) := by kernel_rfl
theorem zero_9 : (Try.prog.info? 9).bind (·.zero) = some (.string ⟨#[]⟩) := by kernel_rfl
theorem zero_21 : (Try.prog.info? 21).bind (·.zero) = some (.int .i32 0) := by kernel_rfl
theorem zero_22 : (Try.prog.info? 22).bind (·.zero) = some (.slice none 0 0) := by kernel_rfl
theorem zero_24 : (Try.prog.info? 24).bind (·.zero) = some (.pointer none) := by kernel_rfl
theorem zero_41 : (Try.prog.info? 41).bind (·.zero) = some (.pointer none) := by kernel_rfl
theorem zero_44 : (Try.prog.info? 44).bind (·.zero) = some (.agg #[(.int .i64 0), (.int .i64 0)]) := by kernel_rfl
theorem zero_45 : (Try.prog.info? 45).bind (·.zero) = some (.slice none 0 0) := by kernel_rfl
theorem zero_48 : (Try.prog.info? 48).bind (·.zero) = some (.agg #[(.int .i64 0), (.int .i64 0), (.int .i64 0)]) := by kernel_rfl
theorem zero_63 : (Try.prog.info? 63).bind (·.zero) = some (.agg #[(.int .i64 0), (.int .i64 0), (.string ⟨#[]⟩)]) := by kernel_rfl
theorem zero_76 : (Try.prog.info? 76).bind (·.zero) = some (.agg #[(.int .i64 0), (.int .i64 0), (.slice none 0 0), (.slice none 0 0), (.int .i64 0)]) := by kernel_rfl
theorem zero_89 : (Try.prog.info? 89).bind (·.zero) = some (.slice none 0 0) := by kernel_rfl
theorem zero_99 : (Try.prog.info? 99).bind (·.zero) = some (.agg #[(.slice none 0 0), (.slice none 0 0), .nilFunc, .nilFunc]) := by kernel_rfl
theorem zero_104 : (Try.prog.info? 104).bind (·.zero) = some (.agg #[(.slice none 0 0), (.int .i64 0)]) := by kernel_rfl
theorem zero_106 : (Try.prog.info? 106).bind (·.zero) = some (.agg #[(.int .i64 0), (.int .i64 0), (.int .i64 0)]) := by kernel_rfl
theorem zero_109 : (Try.prog.info? 109).bind (·.zero) = some (.agg #[(.int .i64 0), (.int .i64 0), (.slice none 0 0), (.int .i64 0), (.int .i64 0), (.int .i64 0)]) := by kernel_rfl
theorem zero_112 : (Try.prog.info? 112).bind (·.zero) = some (.agg #[(.slice none 0 0), (.bool false)]) := by kernel_rfl
theorem call_2 : callable Try.prog 2 = true := by kernel_rfl
theorem call_3 : callable Try.prog 3 = true := by kernel_rfl
theorem call_4 : callable Try.prog 4 = true := by kernel_rfl
theorem call_5 : callable Try.prog 5 = true := by kernel_rfl
theorem call_6 : callable Try.prog 6 = true := by kernel_rfl
theorem call_7 : callable Try.prog 7 = true := by kernel_rfl
theorem call_8 : callable Try.prog 8 = true := by kernel_rfl
theorem call_9 : callable Try.prog 9 = true := by kernel_rfl
theorem call_10 : callable Try.prog 10 = true := by kernel_rfl
theorem call_11 : callable Try.prog 11 = true := by kernel_rfl
theorem call_12 : callable Try.prog 12 = true := by kernel_rfl
theorem call_13 : callable Try.prog 13 = true := by kernel_rfl
theorem call_14 : callable Try.prog 14 = true := by kernel_rfl
theorem call_15 : callable Try.prog 15 = true := by kernel_rfl
theorem call_16 : callable Try.prog 16 = true := by kernel_rfl
theorem call_17 : callable Try.prog 17 = true := by kernel_rfl
theorem call_18 : callable Try.prog 18 = true := by kernel_rfl
theorem call_19 : callable Try.prog 19 = true := by kernel_rfl
theorem call_20 : callable Try.prog 20 = true := by kernel_rfl
theorem call_21 : callable Try.prog 21 = true := by kernel_rfl
theorem call_22 : callable Try.prog 22 = true := by kernel_rfl
theorem call_23 : callable Try.prog 23 = true := by kernel_rfl
theorem call_24 : callable Try.prog 24 = true := by kernel_rfl
theorem call_25 : callable Try.prog 25 = true := by kernel_rfl
theorem call_26 : callable Try.prog 26 = true := by kernel_rfl
theorem call_27 : callable Try.prog 27 = true := by kernel_rfl
theorem call_28 : callable Try.prog 28 = true := by kernel_rfl
theorem call_29 : callable Try.prog 29 = true := by kernel_rfl
theorem call_30 : callable Try.prog 30 = true := by kernel_rfl
theorem call_31 : callable Try.prog 31 = true := by kernel_rfl
theorem call_32 : callable Try.prog 32 = true := by kernel_rfl
theorem call_33 : callable Try.prog 33 = true := by kernel_rfl
theorem call_34 : callable Try.prog 34 = true := by kernel_rfl
theorem call_35 : callable Try.prog 35 = true := by kernel_rfl
theorem call_36 : callable Try.prog 36 = true := by kernel_rfl
theorem call_37 : callable Try.prog 37 = true := by kernel_rfl
theorem call_38 : callable Try.prog 38 = true := by kernel_rfl
theorem call_39 : callable Try.prog 39 = true := by kernel_rfl
theorem call_40 : callable Try.prog 40 = true := by kernel_rfl
theorem call_41 : callable Try.prog 41 = true := by kernel_rfl
theorem call_42 : callable Try.prog 42 = true := by kernel_rfl
theorem call_43 : callable Try.prog 43 = true := by kernel_rfl
theorem call_44 : callable Try.prog 44 = true := by kernel_rfl
theorem call_45 : callable Try.prog 45 = true := by kernel_rfl
theorem call_46 : callable Try.prog 46 = true := by kernel_rfl
theorem call_47 : callable Try.prog 47 = true := by kernel_rfl
theorem call_48 : callable Try.prog 48 = true := by kernel_rfl
theorem call_49 : callable Try.prog 49 = true := by kernel_rfl
theorem call_50 : callable Try.prog 50 = true := by kernel_rfl
theorem call_51 : callable Try.prog 51 = true := by kernel_rfl
theorem call_52 : callable Try.prog 52 = true := by kernel_rfl
theorem call_53 : callable Try.prog 53 = true := by kernel_rfl
theorem call_54 : callable Try.prog 54 = true := by kernel_rfl
theorem call_55 : callable Try.prog 55 = true := by kernel_rfl
theorem call_56 : callable Try.prog 56 = true := by kernel_rfl
theorem call_57 : callable Try.prog 57 = true := by kernel_rfl
theorem call_58 : callable Try.prog 58 = true := by kernel_rfl
theorem call_59 : callable Try.prog 59 = true := by kernel_rfl
theorem call_60 : callable Try.prog 60 = true := by kernel_rfl
theorem call_61 : callable Try.prog 61 = true := by kernel_rfl
theorem call_62 : callable Try.prog 62 = true := by kernel_rfl
theorem call_63 : callable Try.prog 63 = true := by kernel_rfl
theorem call_64 : callable Try.prog 64 = true := by kernel_rfl
theorem call_65 : callable Try.prog 65 = true := by kernel_rfl
theorem call_66 : callable Try.prog 66 = true := by kernel_rfl
theorem call_67 : callable Try.prog 67 = true := by kernel_rfl
theorem call_68 : callable Try.prog 68 = true := by kernel_rfl
theorem call_69 : callable Try.prog 69 = true := by kernel_rfl
theorem call_70 : callable Try.prog 70 = true := by kernel_rfl
theorem call_71 : callable Try.prog 71 = true := by kernel_rfl
theorem call_72 : callable Try.prog 72 = true := by kernel_rfl
theorem call_73 : callable Try.prog 73 = true := by kernel_rfl
theorem call_74 : callable Try.prog 74 = true := by kernel_rfl
theorem call_75 : callable Try.prog 75 = true := by kernel_rfl
theorem call_76 : callable Try.prog 76 = true := by kernel_rfl
theorem call_77 : callable Try.prog 77 = true := by kernel_rfl
theorem call_78 : callable Try.prog 78 = true := by kernel_rfl
theorem call_79 : callable Try.prog 79 = true := by kernel_rfl
theorem call_80 : callable Try.prog 80 = true := by kernel_rfl
theorem call_81 : callable Try.prog 81 = true := by kernel_rfl
theorem call_82 : callable Try.prog 82 = true := by kernel_rfl
theorem call_83 : callable Try.prog 83 = true := by kernel_rfl
theorem call_85 : callable Try.prog 85 = true := by kernel_rfl
theorem call_86 : callable Try.prog 86 = true := by kernel_rfl
theorem call_88 : callable Try.prog 88 = true := by kernel_rfl
theorem call_104 : callable Try.prog 104 = true := by kernel_rfl
end Go.Proofs.Ytckackfgkidedaa
